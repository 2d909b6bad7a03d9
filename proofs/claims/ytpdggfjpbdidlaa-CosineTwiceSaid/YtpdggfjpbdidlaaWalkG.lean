/-
  The walk of line, where nothing is known of its numbers: it returns eight numbers; and both walks of it in one. Conditions: those that each theorem names.
-/
import Derived.Test.YtpdggfjpbdidlaaWalkC
namespace Go.Proofs.Ytpdggfjpbdidlaa
open Go.RowKit

/-- Eight numbers come back. -/
def LineR (w : World) (e : Ending) (w' : World) : Prop := ∃ ys : List Int, e = .returned (.agg (cel ys)) ∧ ys.length = 8 ∧ Below w.heap.size w w'

set_option maxRecDepth 100000 in
set_option maxHeartbeats 2000000 in
theorem line_wild (l : List Int) (bw : Nat) (w : World) (h8 : l.length = 8) (hW : Blk w bw 42 wL) :
    Calls Try.prog 28 #[.agg (cel l), .pointer (some ⟨bw, 0, none⟩)] w (LineR w) := by
  have H8 := Lib.hid h8
  have HW := Lib.hid hW
  have hsz : (cel l).size = 8 := by rw [cel_size]; exact h8
  have HSZ := Lib.hid hsz
  have hi41 : (Try.prog.info? 41).map (·.size) = some (cel l).size := by rw [HSZ.out]; kernel_rfl
  have HI := Lib.hid hi41
  clear h8 hW hsz hi41
  go_enter Try.func28, Try.ntmps28
  go_wp2_with (refine wpList_load_row rfl 41 (.tmp 2) rfl w.heap.size rfl 41 (cel l) (0, 0) _ (heap_alloc2_old w _ _) Try.underlying41 rfl HI.out ?_)
  go_loopg [9] 8 (fun gh i wr => ∃ u : Nat, gh + u = 8 ∧ i = .int .i64 (u : Int) ∧ Below w.heap.size w wr ∧ ∃ ys : List Int, ys.length = 8 ∧ Blk wr (w.heap.size + 1) 41 ys)
  case atStart => exact ⟨0, rfl, rfl, ((Below.refl _ _).alloc (Nat.le_refl _) _).alloc (by simp) _, List.replicate 8 0, by simp, heap_alloc2_new w _ _⟩
  case round =>
    obtain ⟨u, hu, rfl, hB, ys, hX, hK⟩ := hrel
    have HU := Lib.hid hu
    have hu8 : u ≤ 8 := by omega
    clear hu
    by_cases hlt : u < 8
    · have hd : decide ((u : Int) < 8) = true := by simp; omega
      obtain ⟨z, hz⟩ : ∃ z, l.getD u 0 = z := ⟨_, rfl⟩
      have i1 := index41 l H8.out u hlt
      rw [hz] at i1
      have HZ := Lib.hid hz
      clear hz
      rcases (by omega : z = 0 ∨ z ≠ 0) with h0 | h0
      · subst h0
        go_wp2_with fail
        go_roundg (7 - u)
        case measure => have := HU.out; omega
        case rel => exact ⟨u + 1, by omega, by go_num, hB, ys, hX, hK⟩
      · have hd0 : (z == 0) = false := by simp; exact h0
        clear h0
        go_wp2_with fail
        obtain ⟨wo, rfl⟩ : ∃ wo : World, wo = wr := ⟨_, rfl⟩
        go_loopg [15] 8 (fun gh i wr => ∃ x : Nat, gh + x = 8 ∧ i = .int .i64 (x : Int) ∧ Below w.heap.size w wr ∧ ∃ ys : List Int, ys.length = 8 ∧ Blk wr (w.heap.size + 1) 41 ys)
        case atStart => exact ⟨0, rfl, rfl, hB, ys, hX, hK⟩
        case round =>
          clear hB hX hK
          obtain ⟨x, hx, rfl, hB, zs, hX, hK⟩ := hrel
          have HX := Lib.hid hx
          have hx8 : x ≤ 8 := by omega
          clear hx
          by_cases hlx : x < 8
          · have hdx : decide ((x : Int) < 8) = true := by simp; omega
            have c1 := hK.cell x (by rw [hX]; exact hlx)
            have f1 := hK.frozen x
            have c2 : wr.cell? ⟨bw, u * 8 + x, none⟩ = some (.int .i64 (wS u x)) := by
              have hb : Blk wr bw 42 wL := HW.out.below hB HW.out.lt
              have := hb.cell (8 * u + x) (by rw [wL_len]; omega)
              rw [wL_get u x hlt hlx, Nat.mul_comm] at this
              exact this
            generalize zs.getD x 0 = y at c1
            generalize wS u x = c at c2
            have HXX := Lib.hid hX
            have HK := Lib.hid hK
            clear hX hK
            have i2 : (0 : Int) ≤ (u : Int) := Int.natCast_nonneg _
            have i3 : (u : Int) < 8 := by omega
            have i4 : (0 : Int) ≤ (x : Int) := Int.natCast_nonneg _
            have i5 : (x : Int) < 8 := by omega
            go_wp2_with fail
            go_region
            go_wp2_with fail
            go_roundg (7 - x)
            case measure => have := HX.out; omega
            case rel => exact ⟨x + 1, by omega, by go_num, (hB.setCell (p := ⟨w.heap.size + 1, x, none⟩) (by simp) _).drew, zs.set x (wrap64 (y + wrap64 (c * z))), by rw [List.length_set]; exact HXX.out, (HK.out.set x (wrap64 (y + wrap64 (c * z)))).drew⟩
          · have hge : 8 ≤ x := by omega
            obtain rfl : x = 8 := by omega
            clear hlx hge
            have HX2 := Lib.hid hX
            clear hX
            go_wp2_with fail
            go_roundg (7 - u)
            case measure => have := HU.out; omega
            case rel => exact ⟨u + 1, by omega, by go_num, hB, zs, HX2.out, hK⟩
    · have hge : 8 ≤ u := by omega
      have HK := Lib.hid hK
      have HI2 : Hid ((Try.prog.info? 41).map (·.size) = some (cel ys).size) := Lib.hid (by rw [cel_size, hX]; kernel_rfl)
      have hal : (cel ys).all (·.oneCell') = true := cel_one _
      have HXX := Lib.hid hX
      clear hlt hX hK
      go_wp2_with (first
        | (refine wpList_load_row rfl 41 (.tmp 4) rfl (w.heap.size + 1) rfl 41 (cel ys) (0, 0) _ HK.out Try.underlying41 rfl HI2.out ?_)
        | (refine wpList_store_row rfl 41 (.tmp 4) (.tmp 34) rfl (w.heap.size + 1) (cel ys) rfl rfl 41 (cel ys) HK.out HI2.out rfl hal ?_))
      have hS := Blk.setRow HK.out ys
      refine bodyPost_ret (v := .agg (cel ys)) (results_cell_row rfl _ _ (w.heap.size + 1) 41 (cel ys) (0, 0) _ rfl hS Try.underlying41 rfl HI2.out) rfl ⟨ys, rfl, HXX.out, hB.trans (below_setRow wr w.heap.size (w.heap.size + 1) (cel ys) (by omega))⟩

/-- Eight numbers come back; the sums, where the numbers are from -2^40 to 2^40. -/
def LineB (l : List Int) (w : World) (e : Ending) (w' : World) : Prop := ∃ ys : List Int, e = .returned (.agg (cel ys)) ∧ (ys.length = 8 ∧ (Eight 1099511627776 l → ys = lineL l)) ∧ Below w.heap.size w w'

theorem line_both (l : List Int) (bw : Nat) (w : World) (h8 : l.length = 8) (hW : Blk w bw 42 wL) :
    Calls Try.prog 28 #[.agg (cel l), .pointer (some ⟨bw, 0, none⟩)] w (LineB l w) := by
  by_cases h : Eight 1099511627776 l
  · exact (line_any l bw w h hW).mono fun e w' hh => ⟨lineL l, hh.1, ⟨lineL_len l, fun _ => rfl⟩, hh.2⟩
  · exact (line_wild l bw w h8 hW).mono fun e w' ⟨ys, h1, h2, h3⟩ => ⟨ys, h1, ⟨h2, fun k => absurd k h⟩, h3⟩

end Go.Proofs.Ytpdggfjpbdidlaa
