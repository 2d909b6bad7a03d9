/-
  The walks of weights and Weight, and of the reference's Weight. Conditions: those that each theorem names.
-/
import Derived.Test.YtpdggfjpbdidlaaWalkA
import Derived.Deep.LoopGhost
import Derived.Deep.RegionHeld3
import Derived.IntWalk
namespace Go.Proofs.Ytpdggfjpbdidlaa
open Go.RowKit

/-- Block g holds just the numbers xs. -/
def Blk (w : World) (g : Nat) (t : TypeId) (xs : List Int) : Prop := w.heap[g]? = some (.cells (cel xs) t (0, 0))

theorem Blk.lt {w : World} {g : Nat} {t : TypeId} {xs : List Int} (h : Blk w g t xs) : g < w.heap.size := (Array.getElem?_eq_some_iff.1 h).1
theorem Blk.cell {w : World} {g : Nat} {t : TypeId} {xs : List Int} (h : Blk w g t xs) (i : Nat) (hi : i < xs.length) : w.cell? ⟨g, i, none⟩ = some (.int .i64 (xs.getD i 0)) := by
  rw [cell_of_row w g i _ t (0, 0) h, cel_get xs i hi]
theorem Blk.frozen {w : World} {g : Nat} {t : TypeId} {xs : List Int} (h : Blk w g t xs) (i : Nat) : w.frozen? ⟨g, i, none⟩ = false := frozen_of_row w g i _ t h
theorem Blk.set {w : World} {g : Nat} {t : TypeId} {xs : List Int} (h : Blk w g t xs) (i : Nat) (z : Int) : Blk (w.setCell ⟨g, i, none⟩ (.int .i64 z)) g t (xs.set i z) := by
  unfold Blk
  rw [heap_setCell_same w g i _ t _ h]
  congr 2
  unfold cel
  rw [List.map_set]
  simp
theorem Blk.below {w w' : World} {g : Nat} {t : TypeId} {xs : List Int} (h : Blk w g t xs) {B : Nat} (hb : Below B w w') (hg : g < B) : Blk w' g t xs := (hb.block g hg).trans h
theorem Blk.later {w w' : World} {g : Nat} {t : TypeId} {xs : List Int} (h : Blk w g t xs) (hb : Below w.heap.size w w') : Blk w' g t xs := (hb.block g h.lt).trans h
theorem Blk.drew {w : World} {g : Nat} {t : TypeId} {xs : List Int} (h : Blk w g t xs) : Blk w.drew g t xs := h
theorem Blk.grown {w w' : World} {g : Nat} {t : TypeId} {xs : List Int} {row : Option Nat} (h : Blk w g t xs) (hg : w.grownBy w' row) (hne : some g ≠ row) : Blk w' g t xs := (hg.block g h.lt hne).trans h
theorem Blk.far {w : World} {g : Nat} {t : TypeId} {xs : List Int} (h : Blk w g t xs) {p : Addr} (hp : g ≠ p.block) (u : Value) : Blk (w.setCell p u) g t xs := (Below.heap_setCell w p u g hp).trans h
theorem Blk.alloc {w : World} {g : Nat} {t : TypeId} {xs : List Int} (h : Blk w g t xs) (o : Obj) : Blk (w.alloc o) g t xs := (Below.heap_alloc w o g h.lt).trans h
theorem Blk.new (w : World) (t : TypeId) (xs : List Int) : Blk (w.alloc (.cells (cel xs) t)) w.heap.size t xs := heap_alloc_new w _

theorem cel_one (xs : List Int) : (cel xs).all (·.oneCell') = true := by
  rw [Array.all_eq_true_iff_forall_mem]
  intro v hv
  obtain ⟨z, _, rfl⟩ := List.mem_map.1 (by simpa [cel] using hv : v ∈ xs.map (Value.int .i64))
  rfl
theorem Blk.setRow {w : World} {g : Nat} {t : TypeId} {xs : List Int} (h : Blk w g t xs) (ys : List Int) : Blk (w.setRow g (cel ys)) g t ys := by
  unfold Blk at h ⊢
  simp [World.setRow, Array.getElem?_modify, h]
theorem below_setRow (w : World) (B g : Nat) (cs : Array Value) (h : B ≤ g) : Below B w (w.setRow g cs) := by
  refine ⟨rfl, rfl, rfl, by simp, fun k hk => ?_⟩
  simp only [World.setRow, Array.getElem?_modify]
  rw [if_neg (by omega)]
theorem grown_setRow (w : World) (g : Nat) (cs : Array Value) : w.grownBy (w.setRow g cs) (some g) := by
  refine ⟨rfl, rfl, rfl, by simp, fun k _ hk => ?_⟩
  simp only [World.setRow, Array.getElem?_modify]
  rw [if_neg (fun e => hk (by rw [e]))]

/-- The first n weights stand. -/
def Wts (n : Nat) (xs : List Int) : Prop := xs.length = 64 ∧ ∀ j, j < n → xs.getD j 0 = wS (j / 8) (j % 8)

theorem Wts.zero : Wts 0 (List.replicate 64 0) := ⟨by simp, fun j h => by omega⟩
theorem getD_set (xs : List Int) (i j : Nat) (z : Int) (hi : i < xs.length) : (xs.set i z).getD j 0 = if i = j then z else xs.getD j 0 := by
  rw [List.getD_eq_getElem?_getD, List.getD_eq_getElem?_getD, List.getElem?_set]
  by_cases h : i = j
  · subst h
    rw [if_pos rfl, if_pos rfl, if_pos hi]
    rfl
  · rw [if_neg h, if_neg h]
theorem Wts.set {n : Nat} {xs : List Int} (h : Wts n xs) (z : Int) (hn : n < 64) (hz : z = wS (n / 8) (n % 8)) : Wts (n + 1) (xs.set n z) := by
  refine ⟨by rw [List.length_set]; exact h.1, fun j hj => ?_⟩
  rw [getD_set xs n j z (by rw [h.1]; exact hn)]
  split
  · rename_i e; subst e; exact hz
  · exact h.2 j (by omega)
theorem Wts.set_same {n : Nat} {xs : List Int} (h : Wts n xs) (z : Int) (hn : n < 64) : Wts n (xs.set n z) := by
  refine ⟨by rw [List.length_set]; exact h.1, fun j hj => ?_⟩
  rw [getD_set xs n j z (by rw [h.1]; exact hn), if_neg (by omega)]
  exact h.2 j hj
theorem Wts.all {xs : List Int} (h : Wts 64 xs) : xs = wL := by
  apply List.ext_getElem?
  intro j
  by_cases hj : j < 64
  · have h1 := h.2 j hj
    have h2 := wL_get (j / 8) (j % 8) (by omega) (by omega)
    rw [show 8 * (j / 8) + j % 8 = j from by omega] at h2
    rw [List.getD_eq_getElem?_getD] at h1 h2
    rw [List.getElem?_eq_getElem (by rw [h.1]; exact hj)] at h1 ⊢
    rw [List.getElem?_eq_getElem (by rw [wL_len]; exact hj)] at h2 ⊢
    simp only [Option.getD_some] at h1 h2
    rw [h1, h2]
  · rw [List.getElem?_eq_none (by rw [h.1]; omega), List.getElem?_eq_none (by rw [wL_len]; omega)]

set_option maxRecDepth 100000 in
set_option maxHeartbeats 2000000 in
theorem weights_any (w : World) : Calls Try.prog 25 #[] w fun e w' => e = .returned (.agg (cel wL)) ∧ Below w.heap.size w w' := by
  go_enter Try.func25, Try.ntmps25
  go_wp2_with fail
  go_loopg [3] 8 (fun gh i wr => ∃ u : Nat, gh + u = 8 ∧ i = .int .i64 (u : Int) ∧ Below w.heap.size w wr ∧ ∃ xs, Wts (8 * u) xs ∧ Blk wr w.heap.size 42 xs)
  case atStart => exact ⟨0, rfl, rfl, (Below.refl _ _).alloc (Nat.le_refl _) _, _, Wts.zero, heap_alloc_new w _⟩
  case round =>
    obtain ⟨u, hu, rfl, hB, xs, hX, hK⟩ := hrel
    have HU := Lib.hid hu
    have hu8 : u ≤ 8 := by omega
    clear hu
    by_cases hlt : u < 8
    · have hd : decide ((u : Int) < 8) = true := by simp; omega
      go_wp2_with fail
      obtain ⟨wo, rfl⟩ : ∃ wo : World, wo = wr := ⟨_, rfl⟩
      go_loopg [6] 8 (fun gh i wr => ∃ x : Nat, gh + x = 8 ∧ i = .int .i64 (x : Int) ∧ Below w.heap.size w wr ∧ ∃ xs, Wts (8 * u + x) xs ∧ Blk wr w.heap.size 42 xs)
      case atStart => exact ⟨0, rfl, rfl, hB, xs, hX, hK⟩
      case round =>
        clear hB hX hK
        obtain ⟨x, hx, rfl, hB, xs, hX, hK⟩ := hrel
        have HX := Lib.hid hx
        have hx8 : x ≤ 8 := by omega
        clear hx
        by_cases hlx : x < 8
        · have hdx : decide ((x : Int) < 8) = true := by simp; omega
          obtain ⟨n, hn⟩ : ∃ n, u * 8 + x = n := ⟨_, rfl⟩
          have hn64 : n < 64 := by omega
          have hN : 8 * u + x = n := by omega
          rw [hN] at hX
          have hz := hK.cell n (by rw [hX.1]; exact hn64)
          have hf := hK.frozen n
          have hB1 := hB.setCell (p := ⟨w.heap.size, n, none⟩) (Nat.le_refl _) (.int .i64 1448)
          have hK1 := hK.set n 1448
          have hlen : (xs.set n 1448).length = 64 := by rw [List.length_set]; exact hX.1
          have hz1 := hK1.cell n (by rw [hlen]; exact hn64)
          have hf1 := hK1.frozen n
          generalize xs.getD n 0 = z at hz
          generalize (xs.set n 1448).getD n 0 = z1 at hz1
          have HK1 := Lib.hid hK1
          have HXS := Lib.hid hX
          have HB1 := Lib.hid hB1
          have hltB : w.heap.size < wr.heap.size := hK.lt
          clear hlen hK hK1 hX hB hB1
          rw [← hn] at hz hf hz1 hf1
          have HN := Lib.hid hn
          have HN2 := Lib.hid hN
          clear hn hN
          rcases (by omega : u = 0 ∨ 0 < u) with h0 | h0
          · have H0 := Lib.hid h0
            have hd0 : decide (0 < u) = false := by simp; omega
            clear h0
            go_wp2_with fail
            go_roundg (7 - x)
            case measure => have := HX.out; omega
            case rel =>
              refine ⟨x + 1, by omega, by go_num, by rw [HN.out]; exact HB1.out, xs.set n 1448, ?_, by rw [HN.out]; exact HK1.out⟩
              have h8 : n / 8 = 0 := by have := HN.out; have := H0.out; omega
              have := HXS.out.set 1448 hn64 (by unfold wS; rw [if_pos h8])
              rw [show 8 * u + (x + 1) = n + 1 from by have := HN.out; omega]
              exact this
          · have hd0 : decide (0 < u) = true := by simp; omega
            obtain ⟨v, hv⟩ : ∃ v, wS u x = v := ⟨_, rfl⟩
            have hC : ∀ W, Calls Try.prog 29 #[.int .i64 ((2 * (x : Int) + 1) * (u : Int) % 32)] W fun e w' => e = .returned (.int .i64 v) ∧ Below W.heap.size W w' := by
              intro W
              have e1 : wS u x = cT ((2 * x + 1) * u % 32) := by unfold wS; rw [if_neg (by omega)]
              rw [arg_eq, ← hv, e1]
              exact turn_any _ (Nat.mod_lt _ (by omega)) W
            have HC := Lib.hid hC
            have HV := Lib.hid hv
            have hp := arg_bd u x hlt hlx
            obtain ⟨hp1, hp2⟩ := hp
            clear hC hv
            go_wp2_with fail
            have i1 : (0 : Int) ≤ (u : Int) := Int.natCast_nonneg _
            have i2 : (u : Int) < 8 := by omega
            have i3 : (0 : Int) ≤ (x : Int) := Int.natCast_nonneg _
            have i4 : (x : Int) < 8 := by omega
            have j1 : IntKind.i64.wrap (2 * (x : Int)) = 2 * (x : Int) := IntWalk.i64_in _ (by omega)
            have j2 : IntKind.i64.wrap (2 * (x : Int) + 1) = 2 * (x : Int) + 1 := IntWalk.i64_in _ (by omega)
            have j3 : IntKind.i64.wrap ((2 * (x : Int) + 1) * (u : Int)) = (2 * (x : Int) + 1) * (u : Int) := IntWalk.i64_in _ (by omega)
            have j4 : ((2 * (x : Int) + 1) * (u : Int)).tmod 32 = (2 * (x : Int) + 1) * (u : Int) % 32 := Int.tmod_eq_emod_of_nonneg hp1
            go_region_held3 (fun _ => True) (trivial)
              (first | (go_at_call 29; go_must (refine (HC.out _).mono ?_); rintro e w' ⟨rfl, hb⟩; have hz2 : w'.cell? ⟨w.heap.size, u * 8 + x, none⟩ = some (.int .i64 z1) := (hb.cell (p := ⟨w.heap.size, u * 8 + x, none⟩) (by simp; exact hltB)).trans hz1; have hf2 : w'.frozen? ⟨w.heap.size, u * 8 + x, none⟩ = false := (hb.frozen (p := ⟨w.heap.size, u * 8 + x, none⟩) (by simp; exact hltB)).trans hf1))
            clear j1 j2 j3 j4
            go_wp2_with fail
            go_roundg (7 - x)
            case measure => have := HX.out; omega
            case rel =>
              rw [HN.out] at hb ⊢
              refine ⟨x + 1, by omega, by go_num, (HB1.out.drew.trans (hb.mono HB1.out.drew.size)).setCell (p := ⟨w.heap.size, n, none⟩) (Nat.le_refl _) _, (xs.set n 1448).set n v, ?_, (HK1.out.drew.later hb).set n v⟩
              have := (HXS.out.set_same 1448 hn64).set v hn64 (by rw [← HV.out]; congr 1 <;> (have := HN2.out; omega))
              rw [show 8 * u + (x + 1) = n + 1 from by have := HN2.out; omega]
              exact this
        · have hge : 8 ≤ x := by omega
          clear hlx
          go_wp2_with fail
          go_roundg (7 - u)
          case measure => have := HU.out; omega
          case rel => exact ⟨u + 1, by omega, by go_num, hB, xs, by rw [show 8 * (u + 1) = 8 * u + x from by omega]; exact hX, hK⟩
    · have hge : 8 ≤ u := by omega
      have hX' : xs = wL := Wts.all (by rw [show 64 = 8 * u from by omega]; exact hX)
      subst hX'
      have HK := Lib.hid hK
      clear hlt hX hK
      have hal : (cel wL).all (·.oneCell') = true := cel_one wL
      go_wp2_with (first
        | (refine wpList_load_row rfl 42 (.tmp 0) rfl w.heap.size rfl 42 (cel wL) (0, 0) _ HK.out Try.underlying42 rfl (by kernel_rfl) ?_)
        | (refine wpList_store_row rfl 42 (.tmp 0) (.tmp 28) rfl w.heap.size (cel wL) rfl rfl 42 (cel wL) HK.out (by kernel_rfl) rfl hal ?_))
      have hS : (wr.setRow w.heap.size (cel wL)).heap[w.heap.size]? = some (.cells (cel wL) 42 (0, 0)) := Blk.setRow HK.out wL
      refine bodyPost_ret (v := .agg (cel wL)) (results_cell_row rfl _ _ w.heap.size 42 (cel wL) (0, 0) _ rfl hS Try.underlying42 rfl (by kernel_rfl)) rfl ⟨rfl, hB.trans (below_setRow wr w.heap.size w.heap.size (cel wL) (Nat.le_refl _))⟩

/-- One row of the weights. -/
def rowW (u : Nat) : List Int := (List.range 8).map (fun x => wS u x)
theorem rowW_get (u x : Nat) (hx : x < 8) : (rowW u).getD x 0 = wS u x := by
  unfold rowW
  rw [List.getD_eq_getElem?_getD, List.getElem?_map, List.getElem?_range hx]
  rfl

theorem index42 (u : Nat) (h : u < 8) (w : World) : (Instr.index 42 (.agg (cel wL)) (.int .i64 (u : Int))).run Try.prog w = .ok (.agg (cel (rowW u))) w := by
  rcases (by omega : u = 0 ∨ u = 1 ∨ u = 2 ∨ u = 3 ∨ u = 4 ∨ u = 5 ∨ u = 6 ∨ u = 7) with rfl | rfl | rfl | rfl | rfl | rfl | rfl | rfl <;> kernel_rfl

theorem list8 (xs : List Int) (h : xs.length = 8) : ∃ a b c d e f g i, xs = [a, b, c, d, e, f, g, i] := by
  rcases xs with _ | ⟨a, _ | ⟨b, _ | ⟨c, _ | ⟨d, _ | ⟨e, _ | ⟨f, _ | ⟨g, _ | ⟨i, _ | ⟨j, l⟩⟩⟩⟩⟩⟩⟩⟩⟩ <;> simp at h
  exact ⟨a, b, c, d, e, f, g, i, rfl⟩

theorem index41 (xs : List Int) (hl : xs.length = 8) (k : Nat) (h : k < 8) (w : World) : (Instr.index 41 (.agg (cel xs)) (.int .i64 (k : Int))).run Try.prog w = .ok (.int .i64 (xs.getD k 0)) w := by
  obtain ⟨a, b, c, d, e, f, g, i, rfl⟩ := list8 xs hl
  rcases (by omega : k = 0 ∨ k = 1 ∨ k = 2 ∨ k = 3 ∨ k = 4 ∨ k = 5 ∨ k = 6 ∨ k = 7) with rfl | rfl | rfl | rfl | rfl | rfl | rfl | rfl <;> kernel_rfl

theorem Weight_good (u x : Nat) (hu : u < 8) (hx : x < 8) (w : World) : Calls Try.prog 13 #[.int .i64 (u : Int), .int .i64 (x : Int)] w fun e w' => e = .returned (.tuple #[.int .i64 (wS u x), .int .i64 0]) ∧ Below w.heap.size w w' := by
  have i1 := index42 u hu
  have i2 := index41 (rowW u) (by simp [rowW]) x hx
  rw [rowW_get u x hx] at i2
  have d1 : decide ((u : Int) < 0) = false := by simp
  have d2 : decide ((7 : Int) < (u : Int)) = false := by simp; omega
  have d3 : decide ((x : Int) < 0) = false := by simp
  have d4 : decide ((7 : Int) < (x : Int)) = false := by simp; omega
  generalize wS u x = z at *
  go_enter Try.func13, Try.ntmps13
  go_wp2_with (go_at_call 25; refine (weights_any _).mono ?_; rintro e w' ⟨rfl, hb⟩)
  go_ret2
  exact ⟨rfl, hb⟩

theorem Weight_bad (u x : Int) (h : u < 0 ∨ 7 < u ∨ x < 0 ∨ 7 < x) (w : World) : Calls Try.prog 13 #[.int .i64 u, .int .i64 x] w fun e w' => e = .returned (.tuple #[.int .i64 0, .int .i64 3]) ∧ w = w' := by
  rcases (by omega : u < 0 ∨ 7 < u ∨ (0 ≤ u ∧ u ≤ 7 ∧ x < 0) ∨ (0 ≤ u ∧ u ≤ 7 ∧ 7 < x)) with h1 | h1 | ⟨h1, h2, h3⟩ | ⟨h1, h2, h3⟩
  · clear h
    go_enter Try.func13, Try.ntmps13
    go_wp2
    go_ret2
    exact ⟨rfl, rfl⟩
  · clear h
    have d1 : decide (u < 0) = false := by simp; omega
    go_enter Try.func13, Try.ntmps13
    go_wp2
    go_ret2
    exact ⟨rfl, rfl⟩
  · clear h
    have d1 : decide (u < 0) = false := by simp; omega
    have d2 : decide (7 < u) = false := by simp; omega
    go_enter Try.func13, Try.ntmps13
    go_wp2
    go_ret2
    exact ⟨rfl, rfl⟩
  · clear h
    have d1 : decide (u < 0) = false := by simp; omega
    have d2 : decide (7 < u) = false := by simp; omega
    have d3 : decide (x < 0) = false := by simp; omega
    go_enter Try.func13, Try.ntmps13
    go_wp2
    go_ret2
    exact ⟨rfl, rfl⟩

theorem refWeight_good (u x : Nat) (hu : u < 8) (hx : x < 8) (w : World) : Calls Try.prog 21 #[.int .i64 (u : Int), .int .i64 (x : Int)] w fun e w' => e = .returned (.tuple #[.int .i64 (wS u x), .int .i64 0]) ∧ Below w.heap.size w w' := by
  have d1 : decide ((u : Int) < 0) = false := by simp
  have d2 : decide ((7 : Int) < (u : Int)) = false := by simp; omega
  have d3 : decide ((x : Int) < 0) = false := by simp
  have d4 : decide ((7 : Int) < (x : Int)) = false := by simp; omega
  go_enter Try.func21, Try.ntmps21
  go_wp2_with (go_at_call 27; refine (weight_any u x hu hx _).mono ?_; rintro e w' ⟨rfl, hb⟩)
  go_ret2
  exact ⟨rfl, hb⟩

theorem refWeight_bad (u x : Int) (h : u < 0 ∨ 7 < u ∨ x < 0 ∨ 7 < x) (w : World) : Calls Try.prog 21 #[.int .i64 u, .int .i64 x] w fun e w' => e = .returned (.tuple #[.int .i64 0, .int .i64 3]) ∧ w = w' := by
  rcases (by omega : u < 0 ∨ 7 < u ∨ (0 ≤ u ∧ u ≤ 7 ∧ x < 0) ∨ (0 ≤ u ∧ u ≤ 7 ∧ 7 < x)) with h1 | h1 | ⟨h1, h2, h3⟩ | ⟨h1, h2, h3⟩
  · clear h
    go_enter Try.func21, Try.ntmps21
    go_wp2
    go_ret2
    exact ⟨rfl, rfl⟩
  · clear h
    have d1 : decide (u < 0) = false := by simp; omega
    go_enter Try.func21, Try.ntmps21
    go_wp2
    go_ret2
    exact ⟨rfl, rfl⟩
  · clear h
    have d1 : decide (u < 0) = false := by simp; omega
    have d2 : decide (7 < u) = false := by simp; omega
    go_enter Try.func21, Try.ntmps21
    go_wp2
    go_ret2
    exact ⟨rfl, rfl⟩
  · clear h
    have d1 : decide (u < 0) = false := by simp; omega
    have d2 : decide (7 < u) = false := by simp; omega
    have d3 : decide (x < 0) = false := by simp; omega
    go_enter Try.func21, Try.ntmps21
    go_wp2
    go_ret2
    exact ⟨rfl, rfl⟩

end Go.Proofs.Ytpdggfjpbdidlaa
