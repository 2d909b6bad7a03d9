/-
  The walks of the reference's Value, of both DC, of Pick, of, values and dc. Conditions: those that each theorem names.
-/
import Derived.Test.YtlgpagaclfcoaaaWalkA
namespace Go.Proofs.Ytlgpagaclfcoaaa
open Go.RowKit

theorem refValue_bad (l q : Int) (h : l < -127 ∨ 127 < l ∨ q < 1 ∨ 31 < q) (w : World) :
    Calls Try.prog 11 #[.int .i64 l, .int .i64 q] w fun e w' => e = .returned (.tuple #[.int .i64 0, .int .i64 3]) ∧ w = w' := by
  by_cases h1 : -127 ≤ l ∧ l ≤ 127
  · have hA := inB_yes h1.1 h1.2
    have hB : inB q 1 31 = false := inB_no (by omega)
    clear h h1
    go_enter Try.func11, Try.ntmps11
    go_wp2_with (first
      | (go_at_call 32; refine (level_any _ _).mono ?_; rintro e w' ⟨rfl, rfl⟩)
      | (go_at_call 33; refine (quantiser_any _ _).mono ?_; rintro e w' ⟨rfl, rfl⟩))
    go_ret2
    exact ⟨rfl, rfl⟩
  · have hA : inB l (-127) 127 = false := inB_no (by omega)
    clear h h1
    go_enter Try.func11, Try.ntmps11
    go_wp2_with (go_at_call 32; refine (level_any _ _).mono ?_; rintro e w' ⟨rfl, rfl⟩)
    go_ret2
    exact ⟨rfl, rfl⟩

theorem refValue_good (l q : Int) (h1 : -127 ≤ l) (h2 : l ≤ 127) (h3 : 1 ≤ q) (h4 : q ≤ 31) (w : World) :
    Calls Try.prog 11 #[.int .i64 l, .int .i64 q] w fun e w' => e = .returned (.tuple #[.int .i64 (vV l q), .int .i64 0]) ∧ w = w' := by
  have hA := inB_yes h1 h2
  have hB := inB_yes h3 h4
  have h5 : q % 2 = 0 ∨ q % 2 = 1 := by omega
  rcases (by omega : 0 < l ∨ l < 0 ∨ l = 0) with h | h | h
  · have hb := prod_bd l q (by omega) h2 h3 h4
    obtain ⟨hb1, hb2⟩ := hb
    have hm : -l < l := by omega
    rcases h5 with h5 | h5
    · have hv : vM l q = q * (2 * l + 1) - 1 := by unfold vM; rw [if_pos h5]
      have hV : vV l q = min (q * (2 * l + 1) - 1) 2047 := by unfold vV; rw [if_pos h, hv]
      rw [hV]
      clear hv hV
      go_enter Try.func11, Try.ntmps11
      go_wp2_with (first
        | (go_at_call 32; refine (level_any _ _).mono ?_; rintro e w' ⟨rfl, rfl⟩)
        | (go_at_call 33; refine (quantiser_any _ _).mono ?_; rintro e w' ⟨rfl, rfl⟩))
      all_goals
        go_ret2
        exact ⟨ret_int2 (by omega) rfl, rfl⟩
    · have hv : vM l q = q * (2 * l + 1) := by unfold vM; rw [if_neg (by omega)]
      have hV : vV l q = min (q * (2 * l + 1)) 2047 := by unfold vV; rw [if_pos h, hv]
      rw [hV]
      clear hv hV
      go_enter Try.func11, Try.ntmps11
      go_wp2_with (first
        | (go_at_call 32; refine (level_any _ _).mono ?_; rintro e w' ⟨rfl, rfl⟩)
        | (go_at_call 33; refine (quantiser_any _ _).mono ?_; rintro e w' ⟨rfl, rfl⟩))
      all_goals
        go_ret2
        exact ⟨ret_int2 (by omega) rfl, rfl⟩
  · have hb := prod_bd (-l) q (by omega) (by omega) h3 h4
    obtain ⟨hb1, hb2⟩ := hb
    have hm : l < -l := by omega
    rcases h5 with h5 | h5
    · have hv : vM (-l) q = q * (2 * -l + 1) - 1 := by unfold vM; rw [if_pos h5]
      have hV : vV l q = max (-(q * (2 * -l + 1) - 1)) (-2048) := by unfold vV; rw [if_neg (by omega), if_pos h, hv]
      rw [hV]
      clear hv hV
      go_enter Try.func11, Try.ntmps11
      go_wp2_with (first
        | (go_at_call 32; refine (level_any _ _).mono ?_; rintro e w' ⟨rfl, rfl⟩)
        | (go_at_call 33; refine (quantiser_any _ _).mono ?_; rintro e w' ⟨rfl, rfl⟩))
      all_goals
        go_ret2
        exact ⟨ret_int2 (by omega) rfl, rfl⟩
    · have hv : vM (-l) q = q * (2 * -l + 1) := by unfold vM; rw [if_neg (by omega)]
      have hV : vV l q = max (-(q * (2 * -l + 1))) (-2048) := by unfold vV; rw [if_neg (by omega), if_pos h, hv]
      rw [hV]
      clear hv hV
      go_enter Try.func11, Try.ntmps11
      go_wp2_with (first
        | (go_at_call 32; refine (level_any _ _).mono ?_; rintro e w' ⟨rfl, rfl⟩)
        | (go_at_call 33; refine (quantiser_any _ _).mono ?_; rintro e w' ⟨rfl, rfl⟩))
      all_goals
        go_ret2
        exact ⟨ret_int2 (by omega) rfl, rfl⟩
  · subst h
    go_enter Try.func11, Try.ntmps11
    go_wp2_with (first
      | (go_at_call 32; refine (level_any _ _).mono ?_; rintro e w' ⟨rfl, rfl⟩)
      | (go_at_call 33; refine (quantiser_any _ _).mono ?_; rintro e w' ⟨rfl, rfl⟩))
    go_ret2
    exact ⟨ret_int2 (by simp [vV]) rfl, rfl⟩

theorem DC_any (c : Int) (w : World) :
    Calls Try.prog 12 #[.int .i64 c] w fun e w' => e = .returned (.tuple #[.int .i64 (dV c), .int .i64 (dE c)]) ∧ w = w' := by
  rcases (by omega : (c < 0 ∨ 255 < c) ∨ c = 0 ∨ c = 128 ∨ c = 255 ∨ (0 < c ∧ c < 255 ∧ c ≠ 128)) with h | h | h | h | h
  · have hA : inB c 0 255 = false := inB_no h
    have e1 : dV c = 0 := by unfold dV; rw [if_pos h]
    have e2 : dE c = 3 := by unfold dE; rw [if_pos h]
    rw [e1, e2]
    clear h e1 e2
    go_enter Try.func12, Try.ntmps12
    go_wp2_with (go_at_call 29; refine (within_any _ _ _ _).mono ?_; rintro e w' ⟨rfl, rfl⟩)
    go_ret2
    exact ⟨rfl, rfl⟩
  · subst h
    go_enter Try.func12, Try.ntmps12
    go_wp2
    go_ret2
    exact ⟨rfl, rfl⟩
  · subst h
    go_enter Try.func12, Try.ntmps12
    go_wp2
    go_ret2
    exact ⟨rfl, rfl⟩
  · subst h
    go_enter Try.func12, Try.ntmps12
    go_wp2
    go_ret2
    exact ⟨rfl, rfl⟩
  · obtain ⟨h1, h2, h3⟩ := h
    have hA : inB c 0 255 = true := inB_yes (by omega) (by omega)
    have e1 : dV c = 8 * c := by unfold dV; rw [if_neg (by omega), if_neg (by omega), if_neg (by omega)]
    have e2 : dE c = 0 := by unfold dE; rw [if_neg (by omega), if_neg (by omega)]
    rw [e1, e2]
    clear e1 e2
    have k1 : (c == 128) = false := by simpa using h3
    go_enter Try.func12, Try.ntmps12
    go_wp2_with (go_at_call 29; refine (within_any _ _ _ _).mono ?_; rintro e w' ⟨rfl, rfl⟩)
    go_ret2
    exact ⟨rfl, rfl⟩

theorem refDC_any (c : Int) (w : World) :
    Calls Try.prog 13 #[.int .i64 c] w fun e w' => e = .returned (.tuple #[.int .i64 (dV c), .int .i64 (dE c)]) ∧ w = w' := by
  rcases (by omega : c < 0 ∨ 255 < c ∨ c = 0 ∨ c = 128 ∨ c = 255 ∨ (0 < c ∧ c < 255 ∧ c ≠ 128)) with h | h | h | h | h | h
  · have e1 : dV c = 0 := by unfold dV; rw [if_pos (.inl h)]
    have e2 : dE c = 3 := by unfold dE; rw [if_pos (.inl h)]
    rw [e1, e2]
    clear e1 e2
    go_enter Try.func13, Try.ntmps13
    go_wp2
    go_ret2
    exact ⟨rfl, rfl⟩
  · have e1 : dV c = 0 := by unfold dV; rw [if_pos (.inr h)]
    have e2 : dE c = 3 := by unfold dE; rw [if_pos (.inr h)]
    rw [e1, e2]
    clear e1 e2
    have k0 : decide (c < 0) = false := by simp; omega
    go_enter Try.func13, Try.ntmps13
    go_wp2
    go_ret2
    exact ⟨rfl, rfl⟩
  · subst h
    go_enter Try.func13, Try.ntmps13
    go_wp2
    go_ret2
    exact ⟨rfl, rfl⟩
  · subst h
    go_enter Try.func13, Try.ntmps13
    go_wp2
    go_ret2
    exact ⟨rfl, rfl⟩
  · subst h
    go_enter Try.func13, Try.ntmps13
    go_wp2
    go_ret2
    exact ⟨rfl, rfl⟩
  · obtain ⟨h1, h2, h3⟩ := h
    have e1 : dV c = 8 * c := by unfold dV; rw [if_neg (by omega), if_neg (by omega), if_neg (by omega)]
    have e2 : dE c = 0 := by unfold dE; rw [if_neg (by omega), if_neg (by omega)]
    rw [e1, e2]
    clear e1 e2
    have k1 : (c == 128) = false := by simpa using h3
    have k2 : decide (255 < c) = false := by simp; omega
    have k3 : decide (c < 0) = false := by simp; omega
    go_enter Try.func13, Try.ntmps13
    go_wp2
    go_ret2
    exact ⟨rfl, rfl⟩

/-- One of the numbers from 0 on below n. -/
def PickR (n : Int) (w : World) (e : Ending) (w' : World) : Prop := ∃ r : Int, (0 ≤ r ∧ r < n) ∧ e = .returned (.int .i64 r) ∧ w = w'

theorem pick_any (x n : Int) (hn : 0 < n) (hn2 : n ≤ 65536) (w : World) : Calls Try.prog 21 #[.int .i64 x, .int .i64 n] w (PickR n w) := by
  have t1 := Int.tmod_lt_of_pos x hn
  have t2 := Int.lt_tmod_of_pos x hn
  rcases (by omega : x.tmod n < 0 ∨ 0 ≤ x.tmod n) with h | h
  · refine Calls.mono (R := fun e w' => e = .returned (.int .i64 (x.tmod n + n)) ∧ w = w') ?_ fun e w' hh => ⟨x.tmod n + n, by omega, hh⟩
    by_cases hx : 0 ≤ x
    · have := Int.tmod_nonneg n hx
      omega
    · go_enter Try.func21, Try.ntmps21
      go_wp2
      go_ret
      exact ⟨rfl, rfl⟩
  · refine Calls.mono (R := fun e w' => e = .returned (.int .i64 (x.tmod n)) ∧ w = w') ?_ fun e w' hh => ⟨x.tmod n, by omega, hh⟩
    by_cases hx : 0 ≤ x
    · have hq := Int.tmod_eq_emod_of_nonneg (b := n) hx
      have h0 : 0 ≤ x % n := by omega
      rw [hq]
      clear hq h t1 t2
      go_enter Try.func21, Try.ntmps21
      go_wp2
      go_ret
      exact ⟨rfl, rfl⟩
    · go_enter Try.func21, Try.ntmps21
      go_wp2
      go_ret
      exact ⟨rfl, rfl⟩

/-- A level from -127 to 127, a quantiser. -/
def OfR (w : World) (e : Ending) (w' : World) : Prop := ∃ l q : Int, (-127 ≤ l ∧ l ≤ 127 ∧ 1 ≤ q ∧ q ≤ 31) ∧ e = .returned (.tuple #[.int .i64 l, .int .i64 q]) ∧ w = w'

theorem of_any (l q : Int) (w : World) : Calls Try.prog 20 #[.int .i64 l, .int .i64 q] w (OfR w) := by
  go_enter Try.func20, Try.ntmps20
  go_wp2_with (go_at_call 21; refine (pick_any _ _ (by omega) (by omega) _).mono ?_; rintro e w' ⟨r, ⟨hr1, hr2⟩, rfl, rfl⟩)
  refine bodyPost_ret (results_tmp2 rfl _ _ _) rfl ?_
  exact ⟨_, _, ⟨by omega, by omega, by omega, by omega⟩, rfl, rfl⟩

theorem values_yes (l q n : Int) (h1 : -127 ≤ l) (h2 : l ≤ 127) (h3 : 1 ≤ q) (h4 : q ≤ 31) (hn : vV l q = n) (w : World) :
    Calls Try.prog 17 #[.int .i64 l, .int .i64 q, .int .i64 n] w fun e w' => e = .returned (.bool true) ∧ Below w.heap.size w w' := by
  subst hn
  go_enter Try.func17, Try.ntmps17
  go_wp2_with (go_at_call 10; refine (Value_good l q h1 h2 h3 h4 _).mono ?_; rintro e w' ⟨rfl, hb⟩)
  go_ret
  exact ⟨rfl, hb⟩

theorem dc_yes (c n k : Int) (hn : dV c = n) (hk : dE c = k) (w : World) :
    Calls Try.prog 18 #[.int .i64 c, .int .i64 n, .int .i64 k] w fun e w' => e = .returned (.bool true) ∧ w = w' := by
  subst hn
  subst hk
  go_enter Try.func18, Try.ntmps18
  go_wp2_with (go_at_call 12; refine (DC_any c _).mono ?_; rintro e w' ⟨rfl, rfl⟩)
  go_ret
  exact ⟨rfl, rfl⟩

end Go.Proofs.Ytlgpagaclfcoaaa
