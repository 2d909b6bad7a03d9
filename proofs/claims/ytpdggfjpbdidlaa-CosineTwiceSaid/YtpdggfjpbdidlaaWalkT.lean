/-
  The walk of lines. Conditions: those that each theorem names.
-/
import Derived.Test.YtpdggfjpbdidlaaWalkS
namespace Go.Proofs.Ytpdggfjpbdidlaa
open Go.RowKit

set_option maxRecDepth 100000 in
set_option maxHeartbeats 8000000 in
theorem lines_false (v : Value) (xs : List Int) (c : Int) (hX : Bd c xs) (hc : c ≤ 1099511627776) (w : World) (h : Rd w w.heap.size v xs) : Calls Try.prog 24 #[v, .bool false] w fun e w' =>
    ∃ g, e = .returned (.tuple #[.slice (some ⟨g, 0, none⟩) 64 64, .bool true]) ∧ w.heap.size ≤ g ∧ Blk w' g 3 (outL 8 1 xs 8) ∧ Below w.heap.size w w' := by
  obtain ⟨a, cap, rfl, _, hcs⟩ := h
  obtain ⟨b, off, rfl, hb, hcs⟩ := hcs (by intro e; subst e; have := hX.1; simp at this)
  obtain ⟨i0, hi0, hz0, hz1, hz2⟩ := info_parts int_info
  have HC := Lib.hid hcs
  have HX := Lib.hid hX
  have hl := hX.1
  rw [hl]
  clear hcs hX hl
  have hmk := make64
  go_enter Try.func24, Try.ntmps24
  go_wp2_with fail
  have O1 := blk_made w
  have B1 := alloc_below w (.cells zeros64 3)
  have S1 : w.heap.size < (w.alloc (.cells zeros64 3)).heap.size := by simp
  obtain ⟨w1, hw1⟩ : ∃ w1, w.alloc (.cells zeros64 3) = w1 := ⟨_, rfl⟩
  rw [hw1] at O1 B1 S1 ⊢
  clear hw1 hmk
  go_loopg [7] 8 (fun gh i wr => ∃ k : Nat, gh + k = 8 ∧ i = .int .i64 (k : Int) ∧ Below w.heap.size w wr ∧ Blk wr w.heap.size 3 (outL 8 1 xs k))
  case atStart => exact ⟨0, rfl, rfl, B1, O1⟩
  case round =>
    clear B1 O1 S1
    obtain ⟨i, hi, rfl, hB, hO⟩ := hrel
    have HI := Lib.hid hi
    have HB := Lib.hid hB
    have HO := Lib.hid hO
    have hi8 : i ≤ 8 := by omega
    clear hi hB hO
    by_cases hlt : i < 8
    · have hd : decide ((i : Int) < 8) = true := by simp; omega
      have hsz := HO.out.lt
      go_wp2_with fail
      obtain ⟨wo, hwo⟩ : ∃ wo : World, wo = wr := ⟨_, rfl⟩
      clear hwo
      go_loopg [10, 11] 8 (fun gh v i' wr => ∃ k : Nat, gh + k = 8 ∧ i' = .int .i64 (k : Int) ∧ Own wr (w.heap.size + 1) v (partL 8 1 xs i k) ∧ Below w.heap.size w wr ∧ Blk wr w.heap.size 3 (outL 8 1 xs i))
      case atStart => exact ⟨0, rfl, rfl, Own.nil _ _, HB.out, HO.out⟩
      case round =>
        clear HB HO hsz
        obtain ⟨k, hk, rfl, hR, hB, hO⟩ := hrel
        have HK := Lib.hid hk
        have HR := Lib.hid hR
        have HB := Lib.hid hB
        have HO := Lib.hid hO
        have hk8 : k ≤ 8 := by omega
        have hsz := hO.lt
        clear hk hR hB hO
        by_cases hkt : k < 8
        · have hdk : decide ((k : Int) < 8) = true := by simp; omega
          obtain ⟨q, hq⟩ : ∃ q, 0 + i * 8 + k * 1 = q := ⟨_, rfl⟩
          have hq64 : q < 64 := by omega
          have hcell := HB.out.cell (p := ⟨b, off + q, none⟩) hb
          rw [HC.out q (by rw [HX.out.1]; exact hq64)] at hcell
          have HNX := Lib.hid (partL_succ 8 1 xs i k)
          rw [hq] at HNX
          generalize xs.getD q 0 = z at hcell HNX
          have qe : 8 * (i : Int) + (k : Int) = (q : Int) := by omega
          have q0 : (0 : Int) ≤ (q : Int) := Int.natCast_nonneg _
          have q1 : (q : Int) < 64 := by omega
          have HLN := Lib.hid (partL_len 8 1 xs i k)
          clear hq hq64
          go_wp2_with (at_builtin; refine wpList_append_own _ rfl _ _ 22 rfl (w.heap.size + 1) 3 i0 (.int .i64 0) 1 8 Try.underlying22 hi0 hz0 hz1 hz2 rfl (by decide) _ _ _ rfl (World.ownsRow.alloc HR.out _) ⟨wr.heap.size, 0, none⟩ 1 1 [.int .i64 z] rfl rfl (cell_one_new _ _ _) (by intro u hu; simp at hu; subst hu; rfl) (by rw [HLN.out]; simp only [maxLen]; omega) (by rw [HLN.out]; omega) (by simp; omega) ?_; intro v' w2 hown2 hg2 hnil2)
          have hS : Own w2 (w.heap.size + 1) v' (partL 8 1 xs i (k + 1)) := by
            unfold Own
            rw [HNX.out, List.map_append, List.length_append]
            exact hown2
          have hlt2 := World.ownsRow.lt HR.out
          have hB4 : Below w.heap.size w w2 := (HB.out.alloc HB.out.size _).grown hg2 (by have := HB.out.size; simp; omega) (fun j hj => by have := (hlt2 j hj).1; omega)
          have hO4 : Blk w2 w.heap.size 3 (outL 8 1 xs i) := (HO.out.alloc _).grown hg2 (fun e => by have := (hlt2 w.heap.size e.symm).1; omega)
          have HS := Lib.hid (show _ ∧ _ ∧ _ from ⟨hS, hB4, hO4⟩)
          clear hS hB4 hO4 hown2 hg2 hnil2 hlt2
          go_roundg (7 - k)
          case measure => have := HK.out; omega
          case rel => exact ⟨k + 1, by omega, by go_num, HS.out⟩
        · obtain rfl : k = 8 := by omega
          have HE : Hid (Eight 1099511627776 (getLine 8 1 xs i)) := Lib.hid (by
            obtain ⟨h1, h2⟩ := HX.out.line 8 1 sep81 i hlt
            exact ⟨h1, fun u hu => by have := h2 u hu; omega⟩)
          have HRD := Lib.hid HR.out.rd
          rw [partL_all] at HRD
          clear hkt hk8
          go_wp2_with (go_at_call 19; refine (line_good _ (getLine 8 1 xs i) wr HRD.out HE.out).mono ?_; rintro e w3 ⟨u, rfl, hr, hb3⟩
                       obtain ⟨gl, capl, hv, hl1, hl2, hl3, _⟩ := hr.form (by rw [lineL_len]; omega)
                       rw [lineL_len] at hl3 hv
                       subst hv
                       have HL3 := Lib.hid hl3
                       have HB3 := Lib.hid (HB.out.trans (hb3.mono HB.out.size))
                       have HO3 := Lib.hid (HO.out.later hb3)
                       clear hr hl3 hb3)
          have hne : gl ≠ w.heap.size := by omega
          obtain ⟨wo2, hwo2⟩ : ∃ wo : World, wo = w3 := ⟨_, rfl⟩
          clear hwo2
          go_loopg [14] 8 (fun gh i' wr => ∃ k : Nat, gh + k = 8 ∧ i' = .int .i64 (k : Int) ∧ Below w.heap.size w wr ∧ (∀ j, j < 8 → wr.cell? ⟨gl, j, none⟩ = some (.int .i64 ((lineL (getLine 8 1 xs i)).getD j 0))) ∧ Blk wr w.heap.size 3 (putL (0 + i * 8) 1 (lineL (getLine 8 1 xs i)) ((List.finRange 8).take k) (outL 8 1 xs i)))
          case atStart => exact ⟨0, rfl, rfl, HB3.out, HL3.out, HO3.out⟩
          case round =>
            clear HB3 HL3 HO3
            obtain ⟨k, hk, rfl, hB, hL, hO⟩ := hrel
            have HK := Lib.hid hk
            have hk8 : k ≤ 8 := by omega
            have HBk := Lib.hid hB
            have HLk := Lib.hid hL
            have HOk := Lib.hid hO
            clear hk hB hL hO
            by_cases hkt : k < 8
            · have hdk : decide ((k : Int) < 8) = true := by simp; omega
              have kb : (k : Int) < 8 := by omega
              have ka : (0 : Int) ≤ (k : Int) := Int.natCast_nonneg _
              obtain ⟨q, hq⟩ : ∃ q, 0 + i * 8 + k * 1 = q := ⟨_, rfl⟩
              have hq64 : q < 64 := by omega
              have c1 := HLk.out k hkt
              have c2 := HOk.out.cell q (by rw [putL_len, outL_len]; exact hq64)
              have f2 := HOk.out.frozen q
              obtain ⟨z, hz⟩ : ∃ z, (lineL (getLine 8 1 xs i)).getD k 0 = z := ⟨_, rfl⟩
              rw [hz] at c1
              have O2 := HOk.out.set q z
              have ep := putL_snoc (0 + i * 8) 1 (lineL (getLine 8 1 xs i)) ((List.finRange 8).take k) ⟨k, hkt⟩ (outL 8 1 xs i)
              rw [← take_fin k hkt] at ep
              dsimp only at ep
              rw [hq, hz] at ep
              rw [← ep] at O2
              have HO2 := Lib.hid O2
              have HEP := Lib.hid ep
              have HL2 : Hid (∀ j, j < 8 → (wr.setCell ⟨w.heap.size, q, none⟩ (.int .i64 z)).cell? ⟨gl, j, none⟩ = some (.int .i64 ((lineL (getLine 8 1 xs i)).getD j 0))) := Lib.hid (fun j hj => (World.cell?_of_block (a := ⟨gl, j, none⟩) (Below.heap_setCell wr ⟨w.heap.size, q, none⟩ _ gl hne)).trans (HLk.out j hj))
              have qe : 8 * (i : Int) + (k : Int) = (q : Int) := by omega
              have q0 : (0 : Int) ≤ (q : Int) := Int.natCast_nonneg _
              have q1 : (q : Int) < 64 := by omega
              generalize (putL (0 + i * 8) 1 (lineL (getLine 8 1 xs i)) ((List.finRange 8).take k) (outL 8 1 xs i)).getD q 0 = y at c2
              clear hq hq64 hz ep O2
              go_wp2_with fail
              go_roundg (7 - k)
              case measure => have := HK.out; omega
              case rel => exact ⟨k + 1, by omega, by go_num, HBk.out.setCell (p := ⟨w.heap.size, q, none⟩) (Nat.le_refl _) _, HL2.out, HO2.out⟩
            · obtain rfl : k = 8 := by omega
              have ho := HOk.out
              rw [List.take_of_length_le (by simp)] at ho
              have HO5 := Lib.hid ho
              clear ho hkt hk8
              go_wp2_with fail
              go_roundg (7 - i)
              case measure => have := HI.out; omega
              case rel => exact ⟨i + 1, by omega, by go_num, HBk.out, HO5.out⟩
    · obtain rfl : i = 8 := by omega
      clear hlt
      go_wp2_with fail
      refine bodyPost_ret (results_tmp2 rfl _ _ _) rfl ?_
      exact ⟨_, rfl, Nat.le_refl _, HO.out, HB.out⟩

set_option maxRecDepth 100000 in
set_option maxHeartbeats 8000000 in
theorem lines_true (v : Value) (xs : List Int) (c : Int) (hX : Bd c xs) (hc : c ≤ 1099511627776) (w : World) (h : Rd w w.heap.size v xs) : Calls Try.prog 24 #[v, .bool true] w fun e w' =>
    ∃ g, e = .returned (.tuple #[.slice (some ⟨g, 0, none⟩) 64 64, .bool true]) ∧ w.heap.size ≤ g ∧ Blk w' g 3 (outL 1 8 xs 8) ∧ Below w.heap.size w w' := by
  obtain ⟨a, cap, rfl, _, hcs⟩ := h
  obtain ⟨b, off, rfl, hb, hcs⟩ := hcs (by intro e; subst e; have := hX.1; simp at this)
  obtain ⟨i0, hi0, hz0, hz1, hz2⟩ := info_parts int_info
  have HC := Lib.hid hcs
  have HX := Lib.hid hX
  have hl := hX.1
  rw [hl]
  clear hcs hX hl
  have hmk := make64
  go_enter Try.func24, Try.ntmps24
  go_wp2_with fail
  have O1 := blk_made w
  have B1 := alloc_below w (.cells zeros64 3)
  have S1 : w.heap.size < (w.alloc (.cells zeros64 3)).heap.size := by simp
  obtain ⟨w1, hw1⟩ : ∃ w1, w.alloc (.cells zeros64 3) = w1 := ⟨_, rfl⟩
  rw [hw1] at O1 B1 S1 ⊢
  clear hw1 hmk
  go_loopg [7] 8 (fun gh i wr => ∃ k : Nat, gh + k = 8 ∧ i = .int .i64 (k : Int) ∧ Below w.heap.size w wr ∧ Blk wr w.heap.size 3 (outL 1 8 xs k))
  case atStart => exact ⟨0, rfl, rfl, B1, O1⟩
  case round =>
    clear B1 O1 S1
    obtain ⟨i, hi, rfl, hB, hO⟩ := hrel
    have HI := Lib.hid hi
    have HB := Lib.hid hB
    have HO := Lib.hid hO
    have hi8 : i ≤ 8 := by omega
    clear hi hB hO
    by_cases hlt : i < 8
    · have hd : decide ((i : Int) < 8) = true := by simp; omega
      have hsz := HO.out.lt
      go_wp2_with fail
      obtain ⟨wo, hwo⟩ : ∃ wo : World, wo = wr := ⟨_, rfl⟩
      clear hwo
      go_loopg [10, 11] 8 (fun gh v i' wr => ∃ k : Nat, gh + k = 8 ∧ i' = .int .i64 (k : Int) ∧ Own wr (w.heap.size + 1) v (partL 1 8 xs i k) ∧ Below w.heap.size w wr ∧ Blk wr w.heap.size 3 (outL 1 8 xs i))
      case atStart => exact ⟨0, rfl, rfl, Own.nil _ _, HB.out, HO.out⟩
      case round =>
        clear HB HO hsz
        obtain ⟨k, hk, rfl, hR, hB, hO⟩ := hrel
        have HK := Lib.hid hk
        have HR := Lib.hid hR
        have HB := Lib.hid hB
        have HO := Lib.hid hO
        have hk8 : k ≤ 8 := by omega
        have hsz := hO.lt
        clear hk hR hB hO
        by_cases hkt : k < 8
        · have hdk : decide ((k : Int) < 8) = true := by simp; omega
          obtain ⟨q, hq⟩ : ∃ q, 0 + i * 1 + k * 8 = q := ⟨_, rfl⟩
          have hq64 : q < 64 := by omega
          have hcell := HB.out.cell (p := ⟨b, off + q, none⟩) hb
          rw [HC.out q (by rw [HX.out.1]; exact hq64)] at hcell
          have HNX := Lib.hid (partL_succ 1 8 xs i k)
          rw [hq] at HNX
          generalize xs.getD q 0 = z at hcell HNX
          have qe : (i : Int) + (k : Int) * 8 = (q : Int) := by omega
          have q0 : (0 : Int) ≤ (q : Int) := Int.natCast_nonneg _
          have q1 : (q : Int) < 64 := by omega
          have HLN := Lib.hid (partL_len 1 8 xs i k)
          clear hq hq64
          go_wp2_with (at_builtin; refine wpList_append_own _ rfl _ _ 22 rfl (w.heap.size + 1) 3 i0 (.int .i64 0) 1 8 Try.underlying22 hi0 hz0 hz1 hz2 rfl (by decide) _ _ _ rfl (World.ownsRow.alloc HR.out _) ⟨wr.heap.size, 0, none⟩ 1 1 [.int .i64 z] rfl rfl (cell_one_new _ _ _) (by intro u hu; simp at hu; subst hu; rfl) (by rw [HLN.out]; simp only [maxLen]; omega) (by rw [HLN.out]; omega) (by simp; omega) ?_; intro v' w2 hown2 hg2 hnil2)
          have hS : Own w2 (w.heap.size + 1) v' (partL 1 8 xs i (k + 1)) := by
            unfold Own
            rw [HNX.out, List.map_append, List.length_append]
            exact hown2
          have hlt2 := World.ownsRow.lt HR.out
          have hB4 : Below w.heap.size w w2 := (HB.out.alloc HB.out.size _).grown hg2 (by have := HB.out.size; simp; omega) (fun j hj => by have := (hlt2 j hj).1; omega)
          have hO4 : Blk w2 w.heap.size 3 (outL 1 8 xs i) := (HO.out.alloc _).grown hg2 (fun e => by have := (hlt2 w.heap.size e.symm).1; omega)
          have HS := Lib.hid (show _ ∧ _ ∧ _ from ⟨hS, hB4, hO4⟩)
          clear hS hB4 hO4 hown2 hg2 hnil2 hlt2
          go_roundg (7 - k)
          case measure => have := HK.out; omega
          case rel => exact ⟨k + 1, by omega, by go_num, HS.out⟩
        · obtain rfl : k = 8 := by omega
          have HE : Hid (Eight 1099511627776 (getLine 1 8 xs i)) := Lib.hid (by
            obtain ⟨h1, h2⟩ := HX.out.line 1 8 sep18 i hlt
            exact ⟨h1, fun u hu => by have := h2 u hu; omega⟩)
          have HRD := Lib.hid HR.out.rd
          rw [partL_all] at HRD
          clear hkt hk8
          go_wp2_with (go_at_call 19; refine (line_good _ (getLine 1 8 xs i) wr HRD.out HE.out).mono ?_; rintro e w3 ⟨u, rfl, hr, hb3⟩
                       obtain ⟨gl, capl, hv, hl1, hl2, hl3, _⟩ := hr.form (by rw [lineL_len]; omega)
                       rw [lineL_len] at hl3 hv
                       subst hv
                       have HL3 := Lib.hid hl3
                       have HB3 := Lib.hid (HB.out.trans (hb3.mono HB.out.size))
                       have HO3 := Lib.hid (HO.out.later hb3)
                       clear hr hl3 hb3)
          have hne : gl ≠ w.heap.size := by omega
          obtain ⟨wo2, hwo2⟩ : ∃ wo : World, wo = w3 := ⟨_, rfl⟩
          clear hwo2
          go_loopg [14] 8 (fun gh i' wr => ∃ k : Nat, gh + k = 8 ∧ i' = .int .i64 (k : Int) ∧ Below w.heap.size w wr ∧ (∀ j, j < 8 → wr.cell? ⟨gl, j, none⟩ = some (.int .i64 ((lineL (getLine 1 8 xs i)).getD j 0))) ∧ Blk wr w.heap.size 3 (putL (0 + i * 1) 8 (lineL (getLine 1 8 xs i)) ((List.finRange 8).take k) (outL 1 8 xs i)))
          case atStart => exact ⟨0, rfl, rfl, HB3.out, HL3.out, HO3.out⟩
          case round =>
            clear HB3 HL3 HO3
            obtain ⟨k, hk, rfl, hB, hL, hO⟩ := hrel
            have HK := Lib.hid hk
            have hk8 : k ≤ 8 := by omega
            have HBk := Lib.hid hB
            have HLk := Lib.hid hL
            have HOk := Lib.hid hO
            clear hk hB hL hO
            by_cases hkt : k < 8
            · have hdk : decide ((k : Int) < 8) = true := by simp; omega
              have kb : (k : Int) < 8 := by omega
              have ka : (0 : Int) ≤ (k : Int) := Int.natCast_nonneg _
              obtain ⟨q, hq⟩ : ∃ q, 0 + i * 1 + k * 8 = q := ⟨_, rfl⟩
              have hq64 : q < 64 := by omega
              have c1 := HLk.out k hkt
              have c2 := HOk.out.cell q (by rw [putL_len, outL_len]; exact hq64)
              have f2 := HOk.out.frozen q
              obtain ⟨z, hz⟩ : ∃ z, (lineL (getLine 1 8 xs i)).getD k 0 = z := ⟨_, rfl⟩
              rw [hz] at c1
              have O2 := HOk.out.set q z
              have ep := putL_snoc (0 + i * 1) 8 (lineL (getLine 1 8 xs i)) ((List.finRange 8).take k) ⟨k, hkt⟩ (outL 1 8 xs i)
              rw [← take_fin k hkt] at ep
              dsimp only at ep
              rw [hq, hz] at ep
              rw [← ep] at O2
              have HO2 := Lib.hid O2
              have HEP := Lib.hid ep
              have HL2 : Hid (∀ j, j < 8 → (wr.setCell ⟨w.heap.size, q, none⟩ (.int .i64 z)).cell? ⟨gl, j, none⟩ = some (.int .i64 ((lineL (getLine 1 8 xs i)).getD j 0))) := Lib.hid (fun j hj => (World.cell?_of_block (a := ⟨gl, j, none⟩) (Below.heap_setCell wr ⟨w.heap.size, q, none⟩ _ gl hne)).trans (HLk.out j hj))
              have qe : (i : Int) + (k : Int) * 8 = (q : Int) := by omega
              have q0 : (0 : Int) ≤ (q : Int) := Int.natCast_nonneg _
              have q1 : (q : Int) < 64 := by omega
              generalize (putL (0 + i * 1) 8 (lineL (getLine 1 8 xs i)) ((List.finRange 8).take k) (outL 1 8 xs i)).getD q 0 = y at c2
              clear hq hq64 hz ep O2
              go_wp2_with fail
              go_roundg (7 - k)
              case measure => have := HK.out; omega
              case rel => exact ⟨k + 1, by omega, by go_num, HBk.out.setCell (p := ⟨w.heap.size, q, none⟩) (Nat.le_refl _) _, HL2.out, HO2.out⟩
            · obtain rfl : k = 8 := by omega
              have ho := HOk.out
              rw [List.take_of_length_le (by simp)] at ho
              have HO5 := Lib.hid ho
              clear ho hkt hk8
              go_wp2_with fail
              go_roundg (7 - i)
              case measure => have := HI.out; omega
              case rel => exact ⟨i + 1, by omega, by go_num, HBk.out, HO5.out⟩
    · obtain rfl : i = 8 := by omega
      clear hlt
      go_wp2_with fail
      refine bodyPost_ret (results_tmp2 rfl _ _ _) rfl ?_
      exact ⟨_, rfl, Nat.le_refl _, HO.out, HB.out⟩

end Go.Proofs.Ytpdggfjpbdidlaa
