/-
  The walks of weighs, flat and awake. Conditions: those that each theorem names.
-/
import Derived.Test.YtpdggfjpbdidlaaWalkJ
namespace Go.Proofs.Ytpdggfjpbdidlaa
open Go.RowKit

theorem weighs_good (u x : Nat) (hu : u < 8) (hx : x < 8) (z : Int) (hz : wS u x = z) (w : World) : Calls Try.prog 22 #[.int .i64 (u : Int), .int .i64 (x : Int), .int .i64 z, .int .i64 0] w (fun e w' => e = .returned (.bool true) ∧ Below w.heap.size w w') := by
  have HG := Lib.hid (Weight_good u x hu hx)
  rw [hz] at HG
  clear hz
  go_enter Try.func22, Try.ntmps22
  go_wp2_with (go_at_call 13; refine (HG.out _).mono ?_; rintro e w1 ⟨rfl, b1⟩)
  go_ret
  exact ⟨rfl, b1⟩

theorem weighs_bad (w : World) : Calls Try.prog 22 #[.int .i64 8, .int .i64 0, .int .i64 0, .int .i64 3] w (fun e w' => e = .returned (.bool true) ∧ Below w.heap.size w w') := by
  go_enter Try.func22, Try.ntmps22
  go_wp2_with (go_at_call 13; refine (Weight_bad 8 0 (by omega) _).mono ?_; rintro e w1 ⟨rfl, rfl⟩)
  go_ret
  exact ⟨rfl, Below.refl _ _⟩

/-- Sixty-four noughts. -/
def zeros64 : Array Value := madeCells #[.int .i64 0] 64

theorem own_made (w : World) : Own (w.alloc (.cells zeros64 3)) w.heap.size (.slice (some ⟨w.heap.size, 0, none⟩) 64 64) (List.replicate 64 0) := by
  have h := World.ownsRow_lit (base := w.heap.size) (e := 3) (size := 1) w zeros64 64 (Nat.le_refl _) (by simp [maxLen]) (by unfold zeros64; rw [size_madeCells])
  unfold Own
  unfold zeros64 at h ⊢
  rw [toList_madeCells_one] at h
  rw [List.length_replicate, List.map_replicate]
  exact h

theorem make64 (w : World) : (Instr.makeSlice 22 (.int .i64 64) (.int .i64 64)).run Try.prog w = .ok (.slice (some ⟨w.heap.size, 0, none⟩) 64 64) (w.alloc (.cells zeros64 3)) := by
  obtain ⟨i0, hi, hz0, hz1, hz2⟩ := info_parts int_info
  have hr := run_make (P := Try.prog) w 22 3 i0 (.int .i64 0) Try.underlying22 hi hz0 .i64 .i64 64 64 (by omega) (Int.le_refl _) (by rw [hz2]; omega) (by omega)
  rw [hz1] at hr
  exact hr

/-- A block of one number, at 0. -/
def oneL (n : Int) : List Int := (List.replicate 64 0).set 0 n
theorem oneL_len (n : Int) : (oneL n).length = 64 := by simp [oneL]
theorem oneL_get (n : Int) (j : Nat) : (oneL n).getD j 0 = if j = 0 then n else 0 := by
  unfold oneL
  rw [getDset _ _ _ _ (by simp)]
  by_cases h : j = 0
  · rw [if_pos h.symm, if_pos h]
  · rw [if_neg (fun e => h e.symm), if_neg h, List.getD_eq_getElem?_getD, List.getElem?_replicate]
    split <;> rfl
theorem oneL_blk (n : Int) (h1 : -2048 ≤ n) (h2 : n ≤ 2047) : Blk64 (oneL n) := ⟨oneL_len n, fun j _ => by rw [oneL_get]; split <;> omega⟩
theorem sum_one (n : Int) (y x : Nat) : sumAt (oneL n) y x = 1448 * (1448 * n) := by
  have h0 : ∀ x, wS 0 x = 1448 := fun x => rfl
  unfold sumAt
  simp only [sumN, oneL_get, h0]
  simp
theorem inv_one (n : Int) (j : Nat) (hj : j < 64) : (invL (oneL n)).getD j 0 = rnd (2096704 * n) := by
  have := invL_at (oneL n) (oneL_len n) (j / 8) (j % 8) (by omega) (by omega)
  rw [show 8 * (j / 8) + j % 8 = j by omega, sum_one] at this
  rw [this, show (1448 : Int) * (1448 * n) = 2096704 * n by omega]

/-- A slice of 64 numbers of the call's own. -/
theorem Res.form {w : World} {base : Nat} {v : Value} {xs : List Int} (h : Res w base v xs) (hn : 0 < xs.length) : ∃ g cap, v = .slice (some ⟨g, 0, none⟩) xs.length cap ∧ base ≤ g ∧ g < w.heap.size ∧
    (∀ i, i < xs.length → w.cell? ⟨g, i, none⟩ = some (.int .i64 (xs.getD i 0))) ∧ ∀ i, w.frozen? ⟨g, i, none⟩ = false := by
  rcases h with ⟨rfl, _⟩ | h
  · simp at hn
  · exact h

theorem inv_good (v : Value) (xs : List Int) (w : World) (h : Rd w w.heap.size v xs) (hb : Blk64 xs) : Calls Try.prog 11 #[v] w fun e w' =>
    ∃ g cap, e = .returned (.tuple #[.slice (some ⟨g, 0, none⟩) 64 cap, .int .i64 0]) ∧ w.heap.size ≤ g ∧ g < w'.heap.size ∧ Below w.heap.size w w' ∧
      (∀ i, i < 64 → w'.cell? ⟨g, i, none⟩ = some (.int .i64 ((invL xs).getD i 0))) ∧ ∀ i, w'.frozen? ⟨g, i, none⟩ = false := by
  refine (Inverse_any v xs w h).mono ?_
  rintro e w' ⟨u, rfl, hr, hB⟩
  have he := invE_good hb
  rw [he.2] at hr
  have hl := invL_len xs hb.1
  obtain ⟨g, cap, rfl, h1, h2, h3, h4⟩ := hr.form (by omega)
  rw [hl] at h3 ⊢
  rw [he.1]
  exact ⟨g, cap, rfl, h1, h2, hB, h3, h4⟩

theorem own_one (n : Int) (w : World) : Own (w.alloc (.cells (zeros64.setIfInBounds 0 (.int .i64 n)) 3)) w.heap.size (.slice (some ⟨w.heap.size, 0, none⟩) 64 64) (oneL n) := by
  have h := World.ownsRow_lit (base := w.heap.size) (e := 3) (size := 1) w (zeros64.setIfInBounds 0 (.int .i64 n)) 64 (Nat.le_refl _) (by simp [maxLen]) (by rw [Array.size_setIfInBounds]; unfold zeros64; rw [size_madeCells])
  unfold Own
  rw [Array.toList_setIfInBounds] at h
  unfold zeros64 at h ⊢
  rw [toList_madeCells_one] at h
  unfold oneL
  rw [List.length_set, List.length_replicate, List.map_set, List.map_replicate]
  exact h

set_option maxRecDepth 100000 in
set_option maxHeartbeats 4000000 in
theorem flat_good (n z : Int) (h1 : -2048 ≤ n) (h2 : n ≤ 2047) (hz : rnd (2096704 * n) = z) (w : World) : Calls Try.prog 23 #[.int .i64 n, .int .i64 z] w (fun e w' => e = .returned (.bool true) ∧ Below w.heap.size w w') := by
  have hmk := make64
  have O1 := own_made w
  have hf := O1.frozen 0
  have hc := O1.cell 0 (by simp)
  have HS := Lib.hid (own_one n w)
  have HB := Lib.hid (oneL_blk n h1 h2)
  have HB1 : Hid (Below w.heap.size w (w.alloc (.cells (zeros64.setIfInBounds 0 (.int .i64 n)) 3))) := Lib.hid ((Below.refl _ w).alloc (Nat.le_refl _) _)
  have HG : Hid (∀ j, j < 64 → (invL (oneL n)).getD j 0 = z) := Lib.hid (fun j hj => (inv_one n j hj).trans hz)
  clear hz O1 h1 h2
  go_enter Try.func23, Try.ntmps23
  go_wp2_with (go_at_call 11; refine (inv_good _ (oneL n) _ (HS.out.rd2 (Below.refl _ _)) HB.out).mono ?_; rintro e w1 ⟨g, cap, rfl, hg1, hg2, hB1, hcell, hfr⟩
               have HC := Lib.hid hcell
               have HBB := Lib.hid (bt HB1.out hB1)
               clear hcell hfr hB1 hg1 hg2)
  clear hmk hf hc
  go_loopg [8] 64 (fun gh i wr => ∃ k : Nat, gh + k = 64 ∧ i = .int .i64 (k : Int) ∧ w1 = wr)
  case atStart => exact ⟨0, rfl, rfl, rfl⟩
  case round =>
    obtain ⟨k, hk, rfl, rfl⟩ := hrel
    have HK := Lib.hid hk
    have hk64 : k ≤ 64 := by omega
    clear hk
    by_cases hlt : k < 64
    · have hcell := HC.out k hlt
      rw [HG.out k hlt] at hcell
      have hi : (k : Int) < 64 := by omega
      have hi0 : (0 : Int) ≤ (k : Int) := Int.natCast_nonneg _
      have hd : decide ((k : Int) < 64) = true := by simp; omega
      go_wp2_with fail
      go_roundg (63 - k)
      case measure => have := HK.out; omega
      case rel => exact ⟨k + 1, by omega, by go_num, rfl⟩
    · have hd : decide ((k : Int) < 64) = false := by simp; omega
      go_wp2_with fail
      go_ret
      exact ⟨rfl, HBB.out⟩

set_option maxHeartbeats 4000000 in
theorem awake_true (w : World) : Calls Try.prog 14 #[] w (fun e w' => e = .returned (.bool true) ∧ Below w.heap.size w w') := by
  have W1 := Lib.hid (weighs_good 1 0 (by omega) (by omega) 2009 (by decide))
  have W2 := Lib.hid (weighs_good 2 3 (by omega) (by omega) (-1892) (by decide))
  go_enter Try.func14, Try.ntmps14
  go_wp2_with (first
    | (go_at_call 23; refine (flat_good 8 1 (by omega) (by omega) (by decide) _).mono ?_; rintro e w3 ⟨rfl, b3⟩)
    | (go_at_call 22; refine (W2.out w1).mono ?_; rintro e w2 ⟨rfl, b2⟩)
    | (go_at_call 22; refine (W1.out w).mono ?_; rintro e w1 ⟨rfl, b1⟩))
  go_ret
  exact ⟨rfl, bt (bt b1 b2) b3⟩

end Go.Proofs.Ytpdggfjpbdidlaa
