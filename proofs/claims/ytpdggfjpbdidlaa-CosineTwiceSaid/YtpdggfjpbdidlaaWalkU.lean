/-
  The walk of CosineTwice. Conditions: what comes in reads as a list of numbers.
-/
import Derived.Test.YtpdggfjpbdidlaaWalkT
namespace Go.Proofs.Ytpdggfjpbdidlaa
open Go.RowKit

theorem rd_blk {w : World} {g : Nat} {ys : List Int} (h : Blk w g 3 ys) (hl : ys.length = 64) : Rd w w.heap.size (.slice (some ⟨g, 0, none⟩) 64 64) ys := (Res.of_blk h (Nat.zero_le _) 64 hl).rd

set_option maxRecDepth 100000 in
set_option maxHeartbeats 16000000 in
theorem twice_small (v1 : Value) (xs : List Int) (w0 : World) (hl1 : xs.length ≤ 64) (h1 : Rd w0 w0.heap.size v1 xs) :
    Calls Try.prog 9 #[v1] w0 fun e w' => e = .returned (.bool true) ∧ Below w0.heap.size w0 w' := by
  obtain ⟨a1, cap1, rfl, _⟩ := id h1
  have H10 := Lib.hid h1
  have HL1 := Lib.hid hl1
  obtain ⟨n1, hn1⟩ : ∃ n, xs.length = n := ⟨_, rfl⟩
  rw [hn1] at H10 hl1 ⊢
  clear h1 hn1
  have hd1 : decide ((64 : Int) < (n1 : Int)) = false := by simp; omega
  go_enter Try.func9, Try.ntmps9
  go_wp2_with (first
    | (go_at_call 24; refine (lines_false _ (allL 1 8 P) 33554432 HP.out.bd.all18 (by omega) w6 ((rd_blk HCO.out (allL_len 1 8 sep18 P HP.out.1)).later b6)).mono ?_; rintro e w7 ⟨gt, rfl, ng4, k7, b7⟩
       have HTW := Lib.hid k7
       clear k7)
    | (go_at_call 24; refine (lines_true _ (allL 8 1 P) 33554432 HP.out.bd.all81 (by omega) w5 ((rd_blk HRO.out (allL_len 8 1 sep81 P HP.out.1)).later b5)).mono ?_; rintro e w6 ⟨go, rfl, ng3, k6, b6⟩
       have HON := Lib.hid k6
       clear k6)
    | (go_at_call 24; refine (lines_true _ P 2048 HP.out.bd (by omega) w4 ((rd_blk HK.out HP.out.1).later (bt b3 b4))).mono ?_; rintro e w5 ⟨gc, rfl, ng2, k5, b5⟩
       rw [outL_all18 P HP.out.1] at k5
       have HCO := Lib.hid k5
       clear k5)
    | (go_at_call 24; refine (lines_false _ P 2048 HP.out.bd (by omega) w3 ((rd_blk HK.out HP.out.1).later b3)).mono ?_; rintro e w4 ⟨gr, rfl, ng1, k4, b4⟩
       rw [outL_all81 P HP.out.1] at k4
       have HRO := Lib.hid k4
       clear k4)
    | (go_at_call 10; refine (made_any _ xs w1 HL1.out (H10.out.later hb1)).mono ?_; rintro e w2 ⟨gb, P, rfl, hgb, hK, hP, hb2⟩
       have HK := Lib.hid hK
       have HP := Lib.hid hP
       clear hK hP)
    | (go_at_call 8; refine (known_true w0).mono ?_; rintro e w1 ⟨rfl, hb1⟩)
    | (go_at_call 11; refine (inv_good _ P w2 (rd_blk HK.out HP.out.1) HP.out).mono ?_; rintro e w3 ⟨gw, capw, rfl, nw1, nw2, b3, cw, fw⟩
       have CW := Lib.hid cw
       have NW := Lib.hid nw2
       clear cw fw nw1 nw2))
  have hs3 := b3.size
  have HBF := Lib.hid (bt (bt (bt (bt (bt (bt hb1 hb2) b3) b4) b5) b6) b7)
  have CW7 : Hid (∀ i, i < 64 → w7.cell? ⟨gw, i, none⟩ = some (.int .i64 (rnd (sumAt P (i / 8) (i % 8))))) := Lib.hid (fun i hi => by
    rw [← inv_place P HP.out.1 i hi]
    exact ((bt (bt (bt b4 b5) b6) b7).cell (p := ⟨gw, i, none⟩) NW.out).trans (CW.out i hi))
  have C1 : Hid (∀ i, i < 64 → w7.cell? ⟨go, i, none⟩ = some (.int .i64 (sumAt P (i / 8) (i % 8)))) := Lib.hid (fun i hi => by
    have h := (HON.out.later b7).cell i (by rw [outL_len]; exact hi)
    rw [outL_all18 _ (allL_len 8 1 sep81 P HP.out.1)] at h
    have e := sumsL_at P HP.out.1 (i / 8) (i % 8) (by omega) (by omega)
    rw [show 8 * (i / 8) + i % 8 = i by omega] at e
    rw [← e]
    exact h)
  have C2 : Hid (∀ i, i < 64 → w7.cell? ⟨gt, i, none⟩ = some (.int .i64 (sumAt P (i / 8) (i % 8)))) := Lib.hid (fun i hi => by
    have h := HTW.out.cell i (by rw [outL_len]; exact hi)
    rw [outL_all81 _ (allL_len 1 8 sep18 P HP.out.1)] at h
    have e := sumsR_at P HP.out.1 (i / 8) (i % 8) (by omega) (by omega)
    rw [show 8 * (i / 8) + i % 8 = i by omega] at e
    rw [← e]
    exact h)
  have HBD : Hid (∀ i, i < 64 → -549755813888 ≤ sumAt P (i / 8) (i % 8) ∧ sumAt P (i / 8) (i % 8) ≤ 549755813888) := Lib.hid (fun i hi => by
    have h : -(16384 * (16384 * 2048)) ≤ (sumsL P).getD i 0 ∧ (sumsL P).getD i 0 ≤ 16384 * (16384 * 2048) := HP.out.bd.all81.all18.2 i hi
    have e := sumsL_at P HP.out.1 (i / 8) (i % 8) (by omega) (by omega)
    rw [show 8 * (i / 8) + i % 8 = i by omega] at e
    rw [e] at h
    omega)
  clear hb1 hb2 b3 b4 b5 b6 b7 hs3 hd1
  go_loopg [15] 64 (fun gh i wr => ∃ k : Nat, gh + k = 64 ∧ i = .int .i64 (k : Int) ∧ (∃ nd, wr = w7.drewN nd))
  case atStart => exact ⟨0, rfl, rfl, 0, rfl⟩
  case round =>
    obtain ⟨k, hk, rfl, nd, rfl⟩ := hrel
    have HK2 := Lib.hid hk
    have hk8 : k ≤ 64 := by omega
    clear hk
    by_cases hlt : k < 64
    · have hi : (k : Int) < 64 := by omega
      have hi0 : (0 : Int) ≤ (k : Int) := Int.natCast_nonneg _
      have hd : decide ((k : Int) < 64) = true := by simp; omega
      have c1 := C1.out k hlt
      have c2 := C2.out k hlt
      have c3 := CW7.out k hlt
      have t1 := HBD.out k hlt
      generalize sumAt P (k / 8) (k % 8) = z at c1 c2 c3 t1
      unfold rnd at c3
      have j1 : IntKind.i64.wrap (z + 8388608) = z + 8388608 := IntWalk.i64_in _ (by omega)
      clear hlt t1
      go_wp2_with fail
      go_quiet (fail)
      go_wp2_with fail
      go_roundg (63 - k)
      case measure => have := HK2.out; omega
      case rel => exact ⟨k + 1, by omega, by go_num, _, rfl⟩
    · obtain rfl : k = 64 := by omega
      go_wp2_with fail
      go_ret
      exact ⟨rfl, drawn_below HBF.out nd⟩

set_option maxRecDepth 100000 in
theorem twice_walk (v1 : Value) (xs : List Int) (w : World) (h1 : Rd w w.heap.size v1 xs) :
    Calls Try.prog 9 #[v1] w fun e w' => e = .returned (.bool true) ∧ Below w.heap.size w w' := by
  by_cases hl1 : xs.length ≤ 64
  · exact twice_small v1 xs w hl1 h1
  · obtain ⟨a1, cap1, rfl, _⟩ := h1
    generalize xs.length = n1 at hl1
    have hd1 : decide ((64 : Int) < (n1 : Int)) = true := by simp; omega
    go_enter Try.func9, Try.ntmps9
    go_wp2_with (go_at_call 8; refine (known_true _).mono ?_; rintro e w1 ⟨rfl, hb1⟩)
    go_ret
    exact ⟨rfl, hb1⟩

end Go.Proofs.Ytpdggfjpbdidlaa
