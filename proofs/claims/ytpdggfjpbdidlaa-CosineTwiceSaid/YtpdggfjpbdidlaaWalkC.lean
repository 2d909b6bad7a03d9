/-
  The walk of line: it returns the eight sums. Conditions: those that each theorem names.
-/
import Derived.Test.YtpdggfjpbdidlaaWalkB
import Derived.RegionTactic
import Derived.StillTailTactics
namespace Go.Proofs.Ytpdggfjpbdidlaa
open Go.RowKit

/-- The first u numbers are summed. -/
def Sums (l : List Int) (u : Nat) (ys : List Int) : Prop := ys.length = 8 ∧ ∀ x, x < 8 → ys.getD x 0 = lineP l x u
/-- And the next one, at the first x places. -/
def Sums2 (l : List Int) (u x : Nat) (ys : List Int) : Prop := ys.length = 8 ∧ ∀ j, j < 8 → ys.getD j 0 = if j < x then lineP l j (u + 1) else lineP l j u

theorem Sums.zero (l : List Int) : Sums l 0 (List.replicate 8 0) := ⟨by simp, fun x hx => by
  rw [List.getD_eq_getElem?_getD, List.getElem?_replicate, if_pos hx]; rfl⟩
theorem Sums.two {l : List Int} {u : Nat} {ys : List Int} (h : Sums l u ys) : Sums2 l u 0 ys := ⟨h.1, fun j hj => by rw [if_neg (by omega)]; exact h.2 j hj⟩
theorem Sums2.one {l : List Int} {u : Nat} {ys : List Int} (h : Sums2 l u 8 ys) : Sums l (u + 1) ys := ⟨h.1, fun j hj => by rw [h.2 j hj, if_pos hj]⟩
theorem Sums.skip {l : List Int} {u : Nat} {ys : List Int} (h : Sums l u ys) (hz : l.getD u 0 = 0) : Sums l (u + 1) ys := ⟨h.1, fun j hj => by
  rw [h.2 j hj]; simp only [lineP]; rw [hz, Int.mul_zero, Int.add_zero]⟩
theorem Sums2.set {l : List Int} {u x : Nat} {ys : List Int} (h : Sums2 l u x ys) (hx : x < 8) (z : Int) (hz : z = lineP l x (u + 1)) : Sums2 l u (x + 1) (ys.set x z) := by
  refine ⟨by rw [List.length_set]; exact h.1, fun j hj => ?_⟩
  rw [getD_set ys x j z (by rw [h.1]; exact hx)]
  by_cases e : x = j
  · subst e; rw [if_pos rfl, if_pos (by omega)]; exact hz
  · rw [if_neg e, h.2 j hj]
    by_cases e2 : j < x
    · rw [if_pos e2, if_pos (by omega)]
    · rw [if_neg e2, if_neg (by omega)]
theorem Sums.all {l : List Int} {ys : List Int} (h : Sums l 8 ys) : ys = lineL l := by
  apply List.ext_getElem?
  intro j
  by_cases hj : j < 8
  · have h1 := h.2 j hj
    have h2 := lineL_get l j hj
    rw [List.getD_eq_getElem?_getD] at h1 h2
    rw [List.getElem?_eq_getElem (by rw [h.1]; exact hj)] at h1 ⊢
    rw [List.getElem?_eq_getElem (by rw [lineL_len]; exact hj)] at h2 ⊢
    simp only [Option.getD_some] at h1 h2
    rw [h1, h2]
  · rw [List.getElem?_eq_none (by rw [h.1]; omega), List.getElem?_eq_none (by rw [lineL_len]; omega)]

set_option maxRecDepth 100000 in
set_option maxHeartbeats 2000000 in
theorem line_any (l : List Int) (bw : Nat) (w : World) (h8 : Eight 1099511627776 l) (hW : Blk w bw 42 wL) :
    Calls Try.prog 28 #[.agg (cel l), .pointer (some ⟨bw, 0, none⟩)] w fun e w' => e = .returned (.agg (cel (lineL l))) ∧ Below w.heap.size w w' := by
  have hal : (cel (lineL l)).all (·.oneCell') = true := cel_one _
  have H8 := Lib.hid h8
  have HW := Lib.hid hW
  have hsz : (cel l).size = 8 := by rw [cel_size]; exact h8.1
  have HSZ := Lib.hid hsz
  have hi41 : (Try.prog.info? 41).map (·.size) = some (cel l).size := by rw [HSZ.out]; kernel_rfl
  have HI := Lib.hid hi41
  clear h8 hW hsz hi41
  go_enter Try.func28, Try.ntmps28
  go_wp2_with (refine wpList_load_row rfl 41 (.tmp 2) rfl w.heap.size rfl 41 (cel l) (0, 0) _ (heap_alloc2_old w _ _) Try.underlying41 rfl HI.out ?_)
  go_loopg [9] 8 (fun gh i wr => ∃ u : Nat, gh + u = 8 ∧ i = .int .i64 (u : Int) ∧ Below w.heap.size w wr ∧ ∃ ys, Sums l u ys ∧ Blk wr (w.heap.size + 1) 41 ys)
  case atStart => exact ⟨0, rfl, rfl, ((Below.refl _ _).alloc (Nat.le_refl _) _).alloc (by simp) _, _, Sums.zero l, heap_alloc2_new w _ _⟩
  case round =>
    obtain ⟨u, hu, rfl, hB, ys, hX, hK⟩ := hrel
    have HU := Lib.hid hu
    have hu8 : u ≤ 8 := by omega
    clear hu
    by_cases hlt : u < 8
    · have hd : decide ((u : Int) < 8) = true := by simp; omega
      obtain ⟨z, hz⟩ : ∃ z, l.getD u 0 = z := ⟨_, rfl⟩
      have hzb := H8.out.2 u hlt
      have i1 := index41 l H8.out.1 u hlt
      rw [hz] at hzb i1
      obtain ⟨hzb1, hzb2⟩ := hzb
      have HZ := Lib.hid hz
      clear hz
      rcases (by omega : z = 0 ∨ z ≠ 0) with h0 | h0
      · subst h0
        go_wp2_with fail
        go_roundg (7 - u)
        case measure => have := HU.out; omega
        case rel => exact ⟨u + 1, by omega, by go_num, hB, ys, hX.skip HZ.out, hK⟩
      · have hd0 : (z == 0) = false := by simp; exact h0
        clear h0
        go_wp2_with fail
        obtain ⟨wo, rfl⟩ : ∃ wo : World, wo = wr := ⟨_, rfl⟩
        go_loopg [15] 8 (fun gh i wr => ∃ x : Nat, gh + x = 8 ∧ i = .int .i64 (x : Int) ∧ Below w.heap.size w wr ∧ ∃ ys, Sums2 l u x ys ∧ Blk wr (w.heap.size + 1) 41 ys)
        case atStart => exact ⟨0, rfl, rfl, hB, ys, hX.two, hK⟩
        case round =>
          clear hB hX hK
          obtain ⟨x, hx, rfl, hB, zs, hX, hK⟩ := hrel
          have HX := Lib.hid hx
          have hx8 : x ≤ 8 := by omega
          clear hx
          by_cases hlx : x < 8
          · have hdx : decide ((x : Int) < 8) = true := by simp; omega
            have c1 := hK.cell x (by rw [hX.1]; exact hlx)
            have f1 := hK.frozen x
            have c2 : wr.cell? ⟨bw, u * 8 + x, none⟩ = some (.int .i64 (wS u x)) := by
              have hb : Blk wr bw 42 wL := HW.out.below hB HW.out.lt
              have := hb.cell (8 * u + x) (by rw [wL_len]; omega)
              rw [wL_get u x hlt hlx, Nat.mul_comm] at this
              exact this
            have e1 : zs.getD x 0 = lineP l x u := by rw [hX.2 x hlx, if_neg (by omega)]
            rw [e1] at c1
            have t1 := term_bd H8.out u x hlt hlx
            have t2 := lineP_bd H8.out x hlx u (by omega)
            rw [HZ.out] at t1
            obtain ⟨c, hc⟩ : ∃ c, wS u x = c := ⟨_, rfl⟩
            obtain ⟨y, hy⟩ : ∃ y, lineP l x u = y := ⟨_, rfl⟩
            rw [hc] at c2 t1
            rw [hy] at c1 t2
            have t3 : -9007199254740992 * 2 ≤ y ∧ y ≤ 9007199254740992 * 2 := by
              have a1 : (u : Int) * (2048 * 1099511627776) ≤ 8 * (2048 * 1099511627776) := Int.mul_le_mul_of_nonneg_right (by omega) (by omega)
              omega
            obtain ⟨t1a, t1b⟩ := t1
            obtain ⟨t3a, t3b⟩ := t3
            have HC := Lib.hid hc
            have HY := Lib.hid hy
            have HXX := Lib.hid hX
            have HK := Lib.hid hK
            clear e1 t2 hc hy hX hK
            have i2 : (0 : Int) ≤ (u : Int) := Int.natCast_nonneg _
            have i3 : (u : Int) < 8 := by omega
            have i4 : (0 : Int) ≤ (x : Int) := Int.natCast_nonneg _
            have i5 : (x : Int) < 8 := by omega
            go_wp2_with fail
            go_region
            go_wp2_with fail
            go_roundg (7 - x)
            case measure => have := HX.out; omega
            case rel => exact ⟨x + 1, by omega, by go_num, (hB.setCell (p := ⟨w.heap.size + 1, x, none⟩) (by simp) _).drew, zs.set x (y + c * z), HXX.out.set hlx _ (by simp only [lineP]; rw [HC.out, HY.out, HZ.out]), (HK.out.set x (y + c * z)).drew⟩
          · have hge : 8 ≤ x := by omega
            obtain rfl : x = 8 := by omega
            clear hlx hge
            have HX2 := Lib.hid hX
            clear hX
            go_wp2_with fail
            go_roundg (7 - u)
            case measure => have := HU.out; omega
            case rel => exact ⟨u + 1, by omega, by go_num, hB, zs, HX2.out.one, hK⟩
    · have hge : 8 ≤ u := by omega
      have hX' : ys = lineL l := Sums.all (by rw [show 8 = u from by omega]; exact hX)
      subst hX'
      have HK := Lib.hid hK
      have HI2 : Hid ((Try.prog.info? 41).map (·.size) = some (cel (lineL l)).size) := Lib.hid (by rw [cel_size, lineL_len]; kernel_rfl)
      clear hlt hX hK
      go_wp2_with (first
        | (refine wpList_load_row rfl 41 (.tmp 4) rfl (w.heap.size + 1) rfl 41 (cel (lineL l)) (0, 0) _ HK.out Try.underlying41 rfl HI2.out ?_)
        | (refine wpList_store_row rfl 41 (.tmp 4) (.tmp 34) rfl (w.heap.size + 1) (cel (lineL l)) rfl rfl 41 (cel (lineL l)) HK.out HI2.out rfl hal ?_))
      have hS := Blk.setRow HK.out (lineL l)
      refine bodyPost_ret (v := .agg (cel (lineL l))) (results_cell_row rfl _ _ (w.heap.size + 1) 41 (cel (lineL l)) (0, 0) _ rfl hS Try.underlying41 rfl HI2.out) rfl ⟨rfl, hB.trans (below_setRow wr w.heap.size (w.heap.size + 1) (cel (lineL l)) (by omega))⟩

end Go.Proofs.Ytpdggfjpbdidlaa
