/-
  The walk of CosineTurned. Conditions: what comes in reads as a list of numbers.
-/
import Derived.Test.YtpdggfjpbdidlaaWalkQ
import Derived.Test.YtpdggfjpbdidlaaSym
import Derived.BigQuiet
namespace Go.Proofs.Ytpdggfjpbdidlaa
open Go.RowKit

theorem three_made (w : World) : Blk (((w.alloc (.cells zeros64 3)).alloc (.cells zeros64 3)).alloc (.cells zeros64 3)) w.heap.size 3 (List.replicate 64 0) ∧
    Blk (((w.alloc (.cells zeros64 3)).alloc (.cells zeros64 3)).alloc (.cells zeros64 3)) (w.heap.size + 1) 3 (List.replicate 64 0) ∧
    Blk (((w.alloc (.cells zeros64 3)).alloc (.cells zeros64 3)).alloc (.cells zeros64 3)) (w.heap.size + 1 + 1) 3 (List.replicate 64 0) ∧
    Below w.heap.size w (((w.alloc (.cells zeros64 3)).alloc (.cells zeros64 3)).alloc (.cells zeros64 3)) := by
  refine ⟨((blk_made w).alloc _).alloc _, ?_, ?_, ?_⟩
  · rw [← World.size_alloc w (.cells zeros64 3)]; exact (blk_made _).alloc _
  · rw [show w.heap.size + 1 + 1 = ((w.alloc (.cells zeros64 3)).alloc (.cells zeros64 3)).heap.size by simp]; exact blk_made _
  · exact bt (bt (alloc_below w _) (alloc_below _ _)) (alloc_below _ _)

theorem top_blk {P : List Int} (h : Blk64 P) : Blk47 (allF (topF P)) := ⟨allF_len _, fun j hj => by
  rw [allF_get _ j hj]
  have := h.2 j hj
  unfold topF
  split <;> omega⟩
theorem Blk47.blk {xs : List Int} (h : Blk47 xs) : Blk64 xs := ⟨h.1, fun j hj => by have := h.2 j hj; omega⟩

theorem turn_idx (k : Nat) (hk : k < 64) : (k : Int).tdiv 8 = ((k / 8 : Nat) : Int) ∧ (k : Int).tmod 8 = ((k % 8 : Nat) : Int) ∧ (k : Int).tmod 2 = ((k % 2 : Nat) : Int) ∧ ((k / 8 : Nat) : Int).tmod 2 = ((k / 8 % 2 : Nat) : Int) ∧
    wrap64 ((k / 8 : Nat) : Int) = ((k / 8 : Nat) : Int) ∧ IntKind.i64.wrap (((k % 8 : Nat) : Int) * 8) = ((k % 8 : Nat) : Int) * 8 ∧
    IntKind.i64.wrap (((k % 8 : Nat) : Int) * 8 + ((k / 8 : Nat) : Int)) = ((k % 8 * 8 + k / 8 : Nat) : Int) ∧
    IntKind.i64.wrap (2 * ((k % 2 : Nat) : Int)) = 2 * ((k % 2 : Nat) : Int) ∧ IntKind.i64.wrap (1 - 2 * ((k % 2 : Nat) : Int)) = 1 - 2 * ((k % 2 : Nat) : Int) ∧
    IntKind.i64.wrap (2 * ((k / 8 % 2 : Nat) : Int)) = 2 * ((k / 8 % 2 : Nat) : Int) ∧ IntKind.i64.wrap (1 - 2 * ((k / 8 % 2 : Nat) : Int)) = 1 - 2 * ((k / 8 % 2 : Nat) : Int) ∧
    ((k % 8 * 8 + k / 8 : Nat) : Int) < 64 := by
  refine ⟨?_, ?_, ?_, ?_, ?_, ?_, ?_, ?_, ?_, ?_, ?_, ?_⟩
  · rw [Int.tdiv_eq_ediv_of_nonneg (by omega)]; rfl
  · rw [Int.tmod_eq_emod_of_nonneg (by omega)]; rfl
  · rw [Int.tmod_eq_emod_of_nonneg (by omega)]; rfl
  · rw [Int.tmod_eq_emod_of_nonneg (by omega)]; rfl
  · exact IntWalk.wrap64_in _ (by omega)
  · exact IntWalk.i64_in _ (by omega)
  · rw [IntWalk.i64_in _ (by omega)]; omega
  · exact IntWalk.i64_in _ (by omega)
  · exact IntWalk.i64_in _ (by omega)
  · exact IntWalk.i64_in _ (by omega)
  · exact IntWalk.i64_in _ (by omega)
  · omega

theorem turn_end (B : List Int) (h : B.length = 64) (k : Nat) (hk : k < 64) : ∃ p r q p2 p3 : Nat, p < 64 ∧ p2 < 64 ∧ p3 < 64 ∧
    (invL (allF (turnF B))).getD k 0 = (invL B).getD p 0 ∧ (invL (allF (acrossF B))).getD k 0 = (invL B).getD p2 0 ∧ (invL (allF (downF B))).getD k 0 = (invL B).getD p3 0 ∧
    (p : Int) < 64 ∧ (p2 : Int) < 64 ∧ (p3 : Int) < 64 ∧ (k : Int).tdiv 8 = (q : Int) ∧ (k : Int).tmod 8 = (r : Int) ∧ wrap64 (q : Int) = (q : Int) ∧
    IntKind.i64.wrap ((r : Int) * 8) = (r : Int) * 8 ∧ IntKind.i64.wrap ((r : Int) * 8 + (q : Int)) = (p : Int) ∧
    IntKind.i64.wrap ((q : Int) * 8) = (q : Int) * 8 ∧ IntKind.i64.wrap ((q : Int) * 8 + 7) = (q : Int) * 8 + 7 ∧ IntKind.i64.wrap ((q : Int) * 8 + 7 - (r : Int)) = (p2 : Int) ∧
    IntKind.i64.wrap (7 - (q : Int)) = 7 - (q : Int) ∧ IntKind.i64.wrap ((7 - (q : Int)) * 8) = (7 - (q : Int)) * 8 ∧ IntKind.i64.wrap ((7 - (q : Int)) * 8 + (r : Int)) = (p3 : Int) := by
  refine ⟨k % 8 * 8 + k / 8, k % 8, k / 8, k / 8 * 8 + 7 - k % 8, (7 - k / 8) * 8 + k % 8, by omega, by omega, by omega, turn_inv B h k hk, across_inv B h k hk, down_inv B h k hk, by omega, by omega, by omega, ?_, ?_, ?_, ?_, ?_, ?_, ?_, ?_, ?_, ?_, ?_⟩
  · rw [Int.tdiv_eq_ediv_of_nonneg (by omega)]; rfl
  · rw [Int.tmod_eq_emod_of_nonneg (by omega)]; rfl
  · exact IntWalk.wrap64_in _ (by omega)
  · exact IntWalk.i64_in _ (by omega)
  · rw [IntWalk.i64_in _ (by omega)]; omega
  · exact IntWalk.i64_in _ (by omega)
  · exact IntWalk.i64_in _ (by omega)
  · rw [IntWalk.i64_in _ (by omega)]; omega
  · exact IntWalk.i64_in _ (by omega)
  · exact IntWalk.i64_in _ (by omega)
  · rw [IntWalk.i64_in _ (by omega)]; omega

theorem turn_all (B : List Int) (h : Blk47 B) (k : Nat) (hk : k < 64) : ∃ (p r q s1 s2 : Nat) (x y1 y2 y3 : Int), p < 64 ∧ B.getD p 0 = y1 ∧ turnF B k = y1 ∧ B.getD k 0 = x ∧ acrossF B k = y2 ∧ downF B k = y3 ∧ (p : Int) < 64 ∧
    (k : Int).tdiv 8 = (q : Int) ∧ (k : Int).tmod 8 = (r : Int) ∧ (k : Int).tmod 2 = (s1 : Int) ∧ (q : Int).tmod 2 = (s2 : Int) ∧
    wrap64 (q : Int) = (q : Int) ∧ IntKind.i64.wrap ((r : Int) * 8) = (r : Int) * 8 ∧ IntKind.i64.wrap ((r : Int) * 8 + (q : Int)) = (p : Int) ∧
    IntKind.i64.wrap (2 * (s1 : Int)) = 2 * (s1 : Int) ∧ IntKind.i64.wrap (1 - 2 * (s1 : Int)) = 1 - 2 * (s1 : Int) ∧
    IntKind.i64.wrap (2 * (s2 : Int)) = 2 * (s2 : Int) ∧ IntKind.i64.wrap (1 - 2 * (s2 : Int)) = 1 - 2 * (s2 : Int) ∧
    IntKind.i64.wrap (x * (1 - 2 * (s1 : Int))) = y2 ∧ IntKind.i64.wrap (x * (1 - 2 * (s2 : Int))) = y3 := by
  obtain ⟨e1, e2, e3, e4, v1, v2, v3, v4, v5, v6, v7, q1⟩ := turn_idx k hk
  have m1 := sign_bd (h.2 k hk).1 (h.2 k hk).2 k
  have m2 := sign_bd (h.2 k hk).1 (h.2 k hk).2 (k / 8)
  refine ⟨k % 8 * 8 + k / 8, k % 8, k / 8, k % 2, k / 8 % 2, _, _, _, _, by omega, rfl, rfl, rfl, rfl, rfl, q1, e1, e2, e3, e4, v1, v2, v3, v4, v5, v6, v7, ?_, ?_⟩
  · exact IntWalk.i64_in _ ⟨by have := m1.1; omega, by have := m1.2; omega⟩
  · exact IntWalk.i64_in _ ⟨by have := m2.1; omega, by have := m2.2; omega⟩

set_option maxRecDepth 100000 in
set_option maxHeartbeats 16000000 in
theorem turned_small (v1 : Value) (xs : List Int) (w0 : World) (hl1 : xs.length ≤ 64) (h1 : Rd w0 w0.heap.size v1 xs) :
    Calls Try.prog 3 #[v1] w0 fun e w' => e = .returned (.bool true) ∧ Below w0.heap.size w0 w' := by
  obtain ⟨a1, cap1, rfl, _⟩ := id h1
  have H10 := Lib.hid h1
  have HL1 := Lib.hid hl1
  obtain ⟨n1, hn1⟩ : ∃ n, xs.length = n := ⟨_, rfl⟩
  rw [hn1] at H10 hl1 ⊢
  clear h1 hn1
  have hd1 : decide ((64 : Int) < (n1 : Int)) = false := by simp; omega
  have hmk := make64
  go_enter Try.func3, Try.ntmps3
  go_wp2_with (first
    | (go_at_call 10; refine (made_any _ xs w1 HL1.out (H10.out.later hb1)).mono ?_; rintro e w2 ⟨gb, P, rfl, hgb, hK, hP, hb2⟩)
    | (go_at_call 8; refine (known_true w0).mono ?_; rintro e w1 ⟨rfl, hb1⟩))
  have HK := Lib.hid hK
  have HP := Lib.hid hP
  have HB2 := Lib.hid (bt hb1 hb2)
  have hgb0 : w0.heap.size ≤ gb := Nat.le_trans hb1.size hgb
  have hgb2 : gb < w2.heap.size := hK.lt
  clear hK hP hb1 hb2 hgb
  go_cut [5, 6, 7] from 26 to 28 (fun s5 s6 s7 wx => ∃ gt gc gd : Nat, s5 = .slice (some ⟨gt, 0, none⟩) 64 64 ∧ s6 = .slice (some ⟨gc, 0, none⟩) 64 64 ∧ s7 = .slice (some ⟨gd, 0, none⟩) 64 64 ∧
    gb < gt ∧ gb < gc ∧ gb < gd ∧ gt ≠ gc ∧ gt ≠ gd ∧ gc ≠ gd ∧ Blk wx gt 3 (List.replicate 64 0) ∧ Blk wx gc 3 (List.replicate 64 0) ∧ Blk wx gd 3 (List.replicate 64 0) ∧ Below w2.heap.size w2 wx)
  case first =>
    obtain ⟨t1, t2, t3, t4⟩ := three_made w2
    go_region
    all_goals (go_wp2_with fail; go_meet)
    all_goals first
      | exact ⟨w2.heap.size, w2.heap.size + 1, w2.heap.size + 1 + 1, rfl, rfl, rfl, by omega, by omega, by omega, by omega, by omega, by omega, t1.drew, t2.drew, t3.drew, t4.drew⟩
      | exact ⟨w2.heap.size, w2.heap.size + 1 + 1, w2.heap.size + 1, rfl, rfl, rfl, by omega, by omega, by omega, by omega, by omega, by omega, t1.drew, t3.drew, t2.drew, t4.drew⟩
      | exact ⟨w2.heap.size + 1, w2.heap.size, w2.heap.size + 1 + 1, rfl, rfl, rfl, by omega, by omega, by omega, by omega, by omega, by omega, t2.drew, t1.drew, t3.drew, t4.drew⟩
      | exact ⟨w2.heap.size + 1, w2.heap.size + 1 + 1, w2.heap.size, rfl, rfl, rfl, by omega, by omega, by omega, by omega, by omega, by omega, t2.drew, t3.drew, t1.drew, t4.drew⟩
      | exact ⟨w2.heap.size + 1 + 1, w2.heap.size, w2.heap.size + 1, rfl, rfl, rfl, by omega, by omega, by omega, by omega, by omega, by omega, t3.drew, t1.drew, t2.drew, t4.drew⟩
      | exact ⟨w2.heap.size + 1 + 1, w2.heap.size + 1, w2.heap.size, rfl, rfl, rfl, by omega, by omega, by omega, by omega, by omega, by omega, t3.drew, t2.drew, t1.drew, t4.drew⟩
  case rest =>
    obtain ⟨gt, gc, gd, rfl, rfl, rfl, hbt, hbc, hbd, htc, htd, hcd, hT, hC, hD, hBw⟩ := hcut
    have HBK := Lib.hid (show Blk wc gb 3 (mixL (topF P) (orF P) 0) by rw [mixL_zero]; unfold orF; rw [← allF_of P HP.out.1]; exact HK.out.later hBw)
    have HT := Lib.hid hT
    have HC := Lib.hid hC
    have HD := Lib.hid hD
    have HBW := Lib.hid (bt HB2.out hBw)
    have HTC := Lib.hid htc
    have HTD := Lib.hid htd
    have HCD := Lib.hid hcd
    clear hT hC hD hBw htc htd hcd hmk hd1 HK HB2 hgb2
    go_wp2_with fail
    go_loopg [8] 64 (fun gh i wr => ∃ k : Nat, gh + k = 64 ∧ i = .int .i64 (k : Int) ∧ Below w0.heap.size w0 wr ∧ Blk wr gb 3 (mixL (topF P) (orF P) k) ∧ Blk wr gt 3 (List.replicate 64 0) ∧ Blk wr gc 3 (List.replicate 64 0) ∧ Blk wr gd 3 (List.replicate 64 0))
    case atStart => exact ⟨0, rfl, rfl, HBW.out, HBK.out, HT.out, HC.out, HD.out⟩
    case round =>
      clear HBK HT HC HD HBW
      obtain ⟨k, hk, rfl, hBw, hA, hT, hC, hD⟩ := hrel
      have HK := Lib.hid hk
      have hk8 : k ≤ 64 := by omega
      by_cases hlt : k < 64
      · have hi : (k : Int) < 64 := by omega
        have hi0 : (0 : Int) ≤ (k : Int) := Int.natCast_nonneg _
        have hd : decide ((k : Int) < 64) = true := by simp; omega
        have c1 := hA.cell k (by rw [mixL_len]; exact hlt)
        rw [mixL_get _ _ k hlt] at c1
        have f1 := hA.frozen k
        have A1 := hA.set k (topF P k)
        rw [mixL_next _ _ k hlt] at A1
        have HE := Lib.hid (show Below w0.heap.size w0 (wr.setCell ⟨gb, k, none⟩ (.int .i64 (topF P k))) ∧ Blk _ gb 3 (mixL (topF P) (orF P) (k + 1)) ∧ Blk _ gt 3 (List.replicate 64 0) ∧ Blk _ gc 3 (List.replicate 64 0) ∧ Blk _ gd 3 (List.replicate 64 0) from
          ⟨hBw.setCell (p := ⟨gb, k, none⟩) hgb0 _, A1, hT.far (p := ⟨gb, k, none⟩) (show gt ≠ gb by omega) (.int .i64 (topF P k)), hC.far (p := ⟨gb, k, none⟩) (show gc ≠ gb by omega) (.int .i64 (topF P k)), hD.far (p := ⟨gb, k, none⟩) (show gd ≠ gb by omega) (.int .i64 (topF P k))⟩)
        have HTOP : Hid (topF P k = if orF P k < -2047 then -2047 else orF P k) := Lib.hid rfl
        clear A1 hA hT hC hD hBw hk
        generalize orF P k = z at c1 HTOP
        rcases (by omega : z < -2047 ∨ z = -2047 ∨ -2047 < z) with hz | hz | hz
        · have HE2 := HE.out
          rw [HTOP.out, if_pos hz] at HE2
          have hn : ¬ -2047 ≤ z := by omega
          clear hz
          have HE3 := Lib.hid HE2
          clear HE HE2 HTOP
          go_wp2_with fail
          go_roundg (63 - k)
          case measure => have := HK.out; omega
          case rel => exact ⟨k + 1, by omega, by go_num, HE3.out⟩
        · subst hz
          have HE2 := HE.out
          rw [HTOP.out, if_neg (by omega)] at HE2
          have HE3 := Lib.hid HE2
          clear HE HE2 HTOP
          go_wp2_with fail
          go_roundg (63 - k)
          case measure => have := HK.out; omega
          case rel => exact ⟨k + 1, by omega, by go_num, HE3.out⟩
        · have HE2 := HE.out
          rw [HTOP.out, if_neg (by omega)] at HE2
          have hn : -2047 ≤ z := by omega
          clear hz
          have HE3 := Lib.hid HE2
          clear HE HE2 HTOP
          go_wp2_with fail
          go_roundg (63 - k)
          case measure => have := HK.out; omega
          case rel => exact ⟨k + 1, by omega, by go_num, HE3.out⟩
      · obtain rfl : k = 64 := by omega
        rw [mixL_all] at hA
        rw [← allF_zero, ← mixL_zero (turnF (allF (topF P)))] at hT
        rw [← allF_zero, ← mixL_zero (acrossF (allF (topF P)))] at hC
        rw [← allF_zero, ← mixL_zero (downF (allF (topF P)))] at hD
        obtain ⟨B, hBB⟩ : ∃ B, allF (topF P) = B := ⟨_, rfl⟩
        have HBB := Lib.hid (show Blk47 B by rw [← hBB]; exact top_blk HP.out)
        rw [hBB] at hA hT hC hD
        have HA := Lib.hid hA
        have HT := Lib.hid hT
        have HC := Lib.hid hC
        have HD := Lib.hid hD
        have HBW := Lib.hid hBw
        clear hBB hA hT hC hD hBw HP hk hlt hk8 HK
        go_wp2_with fail
        obtain ⟨wo, hwo⟩ : ∃ wo : World, wo = wr := ⟨_, rfl⟩
        clear hwo
        go_loopg [9] 64 (fun gh i wr => ∃ k : Nat, gh + k = 64 ∧ i = .int .i64 (k : Int) ∧ Below w0.heap.size w0 wr ∧ Blk wr gb 3 B ∧ Blk wr gt 3 (mixL (turnF B) (fun _ => 0) k) ∧ Blk wr gc 3 (mixL (acrossF B) (fun _ => 0) k) ∧ Blk wr gd 3 (mixL (downF B) (fun _ => 0) k))
        case atStart => exact ⟨0, rfl, rfl, HBW.out, HA.out, HT.out, HC.out, HD.out⟩
        case round =>
          clear HA HT HC HD HBW
          obtain ⟨k, hk, rfl, hBw, hA, hT, hC, hD⟩ := hrel
          have HK := Lib.hid hk
          have hk8 : k ≤ 64 := by omega
          by_cases hlt : k < 64
          · have hi : (k : Int) < 64 := by omega
            have hi0 : (0 : Int) ≤ (k : Int) := Int.natCast_nonneg _
            have hd : decide ((k : Int) < 64) = true := by simp; omega
            obtain ⟨p, r, q, s1, s2, x, y1, y2, y3, hp, hy1, ht, hx, hac, hdn, q1, e1, e2, e3, e4, v1, v2, v3, v4, v5, v6, v7, j1, j2⟩ := turn_all B HBB.out k hlt
            have a1 := hA.cell p (by rw [HBB.out.1]; exact hp)
            rw [hy1] at a1
            have t1 := hT.cell k (by rw [mixL_len]; exact hlt)
            rw [mixL_get _ _ k hlt] at t1
            have t2 := hT.frozen k
            have A1 := hA.far (p := ⟨gt, k, none⟩) (show gb ≠ gt by omega) (.int .i64 (turnF B k))
            have C1 := hC.far (p := ⟨gt, k, none⟩) (show gc ≠ gt from fun e => HTC.out e.symm) (.int .i64 (turnF B k))
            have D1 := hD.far (p := ⟨gt, k, none⟩) (show gd ≠ gt from fun e => HTD.out e.symm) (.int .i64 (turnF B k))
            have T1 := hT.set k (turnF B k)
            rw [mixL_next _ _ k hlt] at T1
            have a2 := A1.cell k (by rw [HBB.out.1]; exact hlt)
            have c1 := C1.cell k (by rw [mixL_len]; exact hlt)
            rw [mixL_get _ _ k hlt] at c1
            have c2 := C1.frozen k
            have A2 := A1.far (p := ⟨gc, k, none⟩) (show gb ≠ gc by omega) (.int .i64 (acrossF B k))
            have T2 := T1.far (p := ⟨gc, k, none⟩) (show gt ≠ gc from HTC.out) (.int .i64 (acrossF B k))
            have D2 := D1.far (p := ⟨gc, k, none⟩) (show gd ≠ gc from fun e => HCD.out e.symm) (.int .i64 (acrossF B k))
            have C2 := C1.set k (acrossF B k)
            rw [mixL_next _ _ k hlt] at C2
            have a3 := A2.cell k (by rw [HBB.out.1]; exact hlt)
            have d1 := D2.cell k (by rw [mixL_len]; exact hlt)
            rw [mixL_get _ _ k hlt] at d1
            have d2 := D2.frozen k
            have A3 := A2.far (p := ⟨gd, k, none⟩) (show gb ≠ gd by omega) (.int .i64 (downF B k))
            have T3 := T2.far (p := ⟨gd, k, none⟩) (show gt ≠ gd from HTD.out) (.int .i64 (downF B k))
            have C3 := C2.far (p := ⟨gd, k, none⟩) (show gc ≠ gd from HCD.out) (.int .i64 (downF B k))
            have D3 := D2.set k (downF B k)
            rw [mixL_next _ _ k hlt] at D3
            have b3 := ((hBw.setCell (p := ⟨gt, k, none⟩) (by show w0.heap.size ≤ gt; omega) (.int .i64 (turnF B k))).setCell (p := ⟨gc, k, none⟩) (by show w0.heap.size ≤ gc; omega) (.int .i64 (acrossF B k))).setCell (p := ⟨gd, k, none⟩) (by show w0.heap.size ≤ gd; omega) (.int .i64 (downF B k))
            have HE := Lib.hid (show Below w0.heap.size w0 _ ∧ Blk _ gb 3 B ∧ Blk _ gt 3 (mixL (turnF B) (fun _ => 0) (k + 1)) ∧ Blk _ gc 3 (mixL (acrossF B) (fun _ => 0) (k + 1)) ∧ Blk _ gd 3 (mixL (downF B) (fun _ => 0) (k + 1)) from ⟨b3, A3, T3, C3, D3⟩)
            clear A1 A2 A3 T1 T2 T3 C1 C2 C3 D1 D2 D3 b3 hA hT hC hD hBw hk
            rw [ht] at a2 c1 c2 a3 d1 d2 HE
            rw [hac] at a3 d1 d2 HE
            rw [hdn] at HE
            rw [hx] at a2 a3
            clear ht hac hdn hx hy1 hp hlt
            have hp0 : (0 : Int) ≤ (p : Int) := Int.natCast_nonneg _
            go_wp2_with fail
            go_roundg (63 - k)
            case measure => have := HK.out; omega
            case rel => exact ⟨k + 1, by omega, by go_num, HE.out⟩
          · obtain rfl : k = 64 := by omega
            rw [mixL_all] at hT hC hD
            have HA := Lib.hid ((Res.of_blk hA (Nat.zero_le _) 64 HBB.out.1).rd)
            have HT := Lib.hid ((Res.of_blk hT (Nat.zero_le _) 64 (allF_len _)).rd)
            have HC := Lib.hid ((Res.of_blk hC (Nat.zero_le _) 64 (allF_len _)).rd)
            have HD := Lib.hid ((Res.of_blk hD (Nat.zero_le _) 64 (allF_len _)).rd)
            have HBW := Lib.hid hBw
            clear hA hT hC hD hBw hk hlt hk8 HK
            go_wp2_with (first
              | (go_at_call 11; refine (inv_good _ (allF (downF B)) _ (HD.out.later (bt (bt b4 b5) b6)) (blk47_down HBB.out).blk).mono ?_; rintro e w7 ⟨gz, capz, rfl, nz1, nz2, b7, cz, fz⟩
                 have CZ := Lib.hid cz
                 clear cz fz nz1 nz2)
              | (go_at_call 11; refine (inv_good _ (allF (acrossF B)) w5 (HC.out.later (bt b4 b5)) (blk47_across HBB.out).blk).mono ?_; rintro e w6 ⟨gy, capy, rfl, ny1, ny2, b6, cy, fy⟩
                 have CY := Lib.hid cy
                 have NY := Lib.hid ny2
                 clear cy fy ny1 ny2)
              | (go_at_call 11; refine (inv_good _ (allF (turnF B)) w4 (HT.out.later b4) (blk47_turn HBB.out).blk).mono ?_; rintro e w5 ⟨gx, capx, rfl, nx1, nx2, b5, cx, fx⟩
                 have CX := Lib.hid cx
                 have NX := Lib.hid nx2
                 clear cx fx nx1 nx2)
              | (go_at_call 11; refine (inv_good _ B wr HA.out HBB.out.blk).mono ?_; rintro e w4 ⟨gw, capw, rfl, nw1, nw2, b4, cw, fw⟩
                 have CW := Lib.hid cw
                 have NW := Lib.hid nw2
                 clear cw fw nw1 nw2))
            have b47 := bt (bt b5 b6) b7
            have HBF := Lib.hid ((HBW.out.trans (b4.mono HBW.out.size)).trans (b47.mono (by have := HBW.out.size; have := b4.size; omega)))
            have CW7 : Hid (∀ i, i < 64 → w7.cell? ⟨gw, i, none⟩ = some (.int .i64 ((invL B).getD i 0))) := Lib.hid (fun i hi => (b47.cell (p := ⟨gw, i, none⟩) NW.out).trans (CW.out i hi))
            have CX7 : Hid (∀ i, i < 64 → w7.cell? ⟨gx, i, none⟩ = some (.int .i64 ((invL (allF (turnF B))).getD i 0))) := Lib.hid (fun i hi => ((bt b6 b7).cell (p := ⟨gx, i, none⟩) NX.out).trans (CX.out i hi))
            have CY7 : Hid (∀ i, i < 64 → w7.cell? ⟨gy, i, none⟩ = some (.int .i64 ((invL (allF (acrossF B))).getD i 0))) := Lib.hid (fun i hi => (b7.cell (p := ⟨gy, i, none⟩) NY.out).trans (CY.out i hi))
            clear HA HT HC HD CW CX CY NW NX NY b4 b5 b6 b7 b47 HBW
            go_loopg [18] 64 (fun gh i wr => ∃ k : Nat, gh + k = 64 ∧ i = .int .i64 (k : Int) ∧ (∃ nd, wr = w7.drewN nd))
            case atStart => exact ⟨0, rfl, rfl, 0, rfl⟩
            case round =>
              obtain ⟨k, hk, rfl, nd, rfl⟩ := hrel
              have HK := Lib.hid hk
              have hk8 : k ≤ 64 := by omega
              clear hk
              by_cases hlt : k < 64
              · have hi : (k : Int) < 64 := by omega
                have hi0 : (0 : Int) ≤ (k : Int) := Int.natCast_nonneg _
                have hd : decide ((k : Int) < 64) = true := by simp; omega
                obtain ⟨p, r, q, p2, p3, l1, l2, l3, i1, i2, i3, q1, q2, q3, e1, e2, v1, v2, v3, v4, v5, v6, v7, v8, v9⟩ := turn_end B HBB.out.1 k hlt
                have cx := CX7.out k hlt
                have cy := CY7.out k hlt
                have cz := CZ.out k hlt
                have cw1 := CW7.out p l1
                have cw2 := CW7.out p2 l2
                have cw3 := CW7.out p3 l3
                rw [i1] at cx
                rw [i2] at cy
                rw [i3] at cz
                generalize (invL B).getD p 0 = z1 at cx cw1
                generalize (invL B).getD p2 0 = z2 at cy cw2
                generalize (invL B).getD p3 0 = z3 at cz cw3
                have p0 : (0 : Int) ≤ (p : Int) := Int.natCast_nonneg _
                have p20 : (0 : Int) ≤ (p2 : Int) := Int.natCast_nonneg _
                have p30 : (0 : Int) ≤ (p3 : Int) := Int.natCast_nonneg _
                clear i1 i2 i3 l1 l2 l3 hlt
                go_wp2_with fail
                go_quiet (fail)
                go_wp2_with fail
                go_roundg (63 - k)
                case measure => have := HK.out; omega
                case rel => exact ⟨k + 1, by omega, by go_num, _, rfl⟩
              · obtain rfl : k = 64 := by omega
                go_wp2_with fail
                go_ret
                exact ⟨rfl, drawn_below HBF.out nd⟩

set_option maxRecDepth 100000 in
theorem turned_walk (v1 : Value) (xs : List Int) (w : World) (h1 : Rd w w.heap.size v1 xs) :
    Calls Try.prog 3 #[v1] w fun e w' => e = .returned (.bool true) ∧ Below w.heap.size w w' := by
  by_cases hl1 : xs.length ≤ 64
  · exact turned_small v1 xs w hl1 h1
  · obtain ⟨a1, cap1, rfl, _⟩ := h1
    generalize xs.length = n1 at hl1
    have hd1 : decide ((64 : Int) < (n1 : Int)) = true := by simp; omega
    go_enter Try.func3, Try.ntmps3
    go_wp2_with (go_at_call 8; refine (known_true _).mono ?_; rintro e w1 ⟨rfl, hb1⟩)
    go_ret
    exact ⟨rfl, hb1⟩

end Go.Proofs.Ytpdggfjpbdidlaa
