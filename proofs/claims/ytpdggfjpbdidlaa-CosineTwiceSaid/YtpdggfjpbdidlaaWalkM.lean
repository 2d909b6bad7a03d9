/-
  The walks of Pick and of CosineRows. Conditions: those that each theorem names.
-/
import Derived.Test.YtpdggfjpbdidlaaWalkL
namespace Go.Proofs.Ytpdggfjpbdidlaa
open Go.RowKit

/-- One of the numbers from 0 on below n. -/
def PickR (n : Int) (w : World) (e : Ending) (w' : World) : Prop := ∃ r : Int, (0 ≤ r ∧ r < n) ∧ e = .returned (.int .i64 r) ∧ w = w'

theorem pick_any (x n : Int) (hn : 0 < n) (hn2 : n ≤ 65536) (w : World) : Calls Try.prog 12 #[.int .i64 x, .int .i64 n] w (PickR n w) := by
  have t1 := Int.tmod_lt_of_pos x hn
  have t2 := Int.lt_tmod_of_pos x hn
  rcases (by omega : x.tmod n < 0 ∨ 0 ≤ x.tmod n) with h | h
  · refine Calls.mono (R := fun e w' => e = .returned (.int .i64 (x.tmod n + n)) ∧ w = w') ?_ fun e w' hh => ⟨x.tmod n + n, by omega, hh⟩
    by_cases hx : 0 ≤ x
    · have := Int.tmod_nonneg n hx
      omega
    · go_enter Try.func12, Try.ntmps12
      go_wp2
      go_ret
      exact ⟨rfl, rfl⟩
  · refine Calls.mono (R := fun e w' => e = .returned (.int .i64 (x.tmod n)) ∧ w = w') ?_ fun e w' hh => ⟨x.tmod n, by omega, hh⟩
    by_cases hx : 0 ≤ x
    · have hq := Int.tmod_eq_emod_of_nonneg (b := n) hx
      have h0 : 0 ≤ x % n := by omega
      rw [hq]
      clear hq h t1 t2
      go_enter Try.func12, Try.ntmps12
      go_wp2
      go_ret
      exact ⟨rfl, rfl⟩
    · go_enter Try.func12, Try.ntmps12
      go_wp2
      go_ret
      exact ⟨rfl, rfl⟩

/-- The sum of the first k products of two rows of weights. -/
def rowsP (u v : Nat) : Nat → Int
  | 0 => 0
  | k + 1 => rowsP u v k + wS u k * wS v k
theorem prod_bd (u v x : Nat) (hu : u < 8) (hv : v < 8) (hx : x < 8) : -4194304 ≤ wS u x * wS v x ∧ wS u x * wS v x ≤ 4194304 := by
  have h1 := wS_bd ⟨u, hu⟩ ⟨x, hx⟩
  have h2 := wS_bd ⟨v, hv⟩ ⟨x, hx⟩
  have := mul_bd (wS u x) (wS v x) 2048 h1.1 h1.2 h2.1 h2.2
  omega
theorem rowsP_bd (u v : Nat) (hu : u < 8) (hv : v < 8) : ∀ k : Nat, k ≤ 8 → -((k : Int) * 4194304) ≤ rowsP u v k ∧ rowsP u v k ≤ (k : Int) * 4194304
  | 0, _ => by simp [rowsP]
  | k + 1, hk => by
    have ih := rowsP_bd u v hu hv k (by omega)
    have ht := prod_bd u v k hu hv (by omega)
    simp only [rowsP]
    omega
theorem rowsP_end : ∀ u v : Fin 8, -20000 < rowsP u v 8 - (if u = v then 16777216 else 0) ∧ rowsP u v 8 - (if u = v then 16777216 else 0) < 20000 := by decide +kernel

set_option maxRecDepth 100000 in
set_option maxHeartbeats 4000000 in
theorem rows_walk (a0 a1 : Int) (w : World) : Calls Try.prog 4 #[.int .i64 a0, .int .i64 a1] w (fun e w' => e = .returned (.bool true) ∧ Below w.heap.size w w') := by
  have P1 := Lib.hid (pick_any a0 8 (by omega) (by omega))
  have P2 := Lib.hid (pick_any a1 8 (by omega) (by omega))
  go_enter Try.func4, Try.ntmps4
  go_wp2_with (first
    | (go_at_call 12; refine (P2.out w2).mono ?_; rintro e w3 ⟨r2, ⟨hr3, hr4⟩, rfl, rfl⟩)
    | (go_at_call 12; refine (P1.out w1).mono ?_; rintro e w2 ⟨r1, ⟨hr1, hr2⟩, rfl, hw2⟩; have HW2 := Lib.hid hw2; clear hw2)
    | (go_at_call 8; refine (known_true w).mono ?_; rintro e w1 ⟨rfl, b1⟩))
  obtain ⟨u, rfl⟩ := Int.eq_ofNat_of_zero_le hr1
  obtain ⟨v, rfl⟩ := Int.eq_ofNat_of_zero_le hr3
  have hu : u < 8 := by omega
  have hv : v < 8 := by omega
  have HB : Hid (Below w.heap.size w w2) := Lib.hid (by rw [← HW2.out]; exact b1)
  clear P1 P2 b1 HW2 hr1 hr2 hr3 hr4 w1
  go_loopg [6, 7] 8 (fun gh s i wr => ∃ k : Nat, gh + k = 8 ∧ s = .int .i64 (rowsP u v k) ∧ i = .int .i64 (k : Int) ∧ Below w.heap.size w wr)
  case atStart => exact ⟨0, rfl, rfl, rfl, HB.out⟩
  case round =>
    obtain ⟨k, hk, rfl, rfl, hB⟩ := hrel
    have HK := Lib.hid hk
    have HBr := Lib.hid hB
    have hk8 : k ≤ 8 := by omega
    clear hk hB HB
    have t1 := rowsP_bd u v hu hv k hk8
    by_cases hlt : k < 8
    · have t2 := prod_bd u v k hu hv hlt
      have HN := Lib.hid (show rowsP u v (k + 1) = rowsP u v k + wS u k * wS v k from rfl)
      have G1 := Lib.hid (Weight_good u k hu hlt)
      have G2 := Lib.hid (Weight_good v k hv hlt)
      generalize rowsP u v k = y at t1 HN ⊢
      generalize wS u k = c at t2 HN G1
      generalize wS v k = d at t2 HN G2
      have hd : decide ((k : Int) < 8) = true := by simp; omega
      have j1 : IntKind.i64.wrap (c * d) = c * d := IntWalk.i64_in _ (by omega)
      have j2 : IntKind.i64.wrap (y + c * d) = y + c * d := IntWalk.i64_in _ (by omega)
      clear t1 t2
      go_wp2_with (first
        | (go_at_call 13; refine (G2.out w3).mono ?_; rintro e w4 ⟨rfl, b4⟩)
        | (go_at_call 13; refine (G1.out wr).mono ?_; rintro e w3 ⟨rfl, b3⟩))
      go_roundg (7 - k)
      case measure => have := HK.out; omega
      case rel => exact ⟨k + 1, by omega, by rw [HN.out], by go_num, (HBr.out.trans (b3.mono HBr.out.size)).trans (b4.mono (Nat.le_trans HBr.out.size b3.size))⟩
    · have hk' : k = 8 := by omega
      subst hk'
      have he := rowsP_end ⟨u, hu⟩ ⟨v, hv⟩
      have hz := t1
      clear hlt t1
      by_cases huv : u = v
      · subst huv
        rw [if_pos rfl] at he
        dsimp only at he
        generalize rowsP u u 8 = y at he hz ⊢
        obtain ⟨he1, he2⟩ := he
        have j1 : IntKind.i64.wrap (y - 16777216) = y - 16777216 := IntWalk.i64_in _ (by omega)
        go_wp2_with fail
        go_ret
        exact ⟨rfl, HBr.out⟩
      · rw [if_neg (fun e => huv (congrArg Fin.val e))] at he
        dsimp only at he
        generalize rowsP u v 8 = y at he hz ⊢
        obtain ⟨he1, he2⟩ := he
        have hd : ((u : Int) == (v : Int)) = false := by simp; omega
        have d2 : decide (y < 20000) = true := by simp; omega
        go_wp2_with fail
        go_ret
        exact ⟨rfl, HBr.out⟩

end Go.Proofs.Ytpdggfjpbdidlaa
