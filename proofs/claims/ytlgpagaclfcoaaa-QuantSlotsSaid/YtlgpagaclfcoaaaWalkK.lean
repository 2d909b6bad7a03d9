/-
  The walks of Inter, of the reference's Inter, of Intra and of the reference's Intra. Conditions: those that each theorem names.
-/
import Derived.Test.YtlgpagaclfcoaaaWalkJ
import Derived.Maps.AppendAt
namespace Go.Proofs.Ytlgpagaclfcoaaa
open Go.RowKit

/-- Is every level of a block worth something? -/
def allOk (xs : List Int) (q : Int) : Prop := ∀ l ∈ xs, vE l q = 0
open Classical in
/-- What Inter answers. -/
noncomputable def interE (xs : List Int) (q : Int) : Int := if xs.length = 64 then (if allOk xs q then 0 else 3) else 2
open Classical in
noncomputable def interL (xs : List Int) (q : Int) : List Int := if xs.length = 64 ∧ allOk xs q then xs.map (fun l => vT l q) else []

theorem vE_or (l q : Int) : vE l q = 0 ∨ vE l q = 3 := by unfold vE; split <;> simp

theorem allOk_snoc {xs : List Int} {q : Int} {k : Nat} (h : allOk (xs.take k) q) (hk : k < xs.length) (hz : vE (xs.getD k 0) q = 0) : allOk (xs.take (k + 1)) q := by
  rw [getD_cons_take xs k hk]
  intro l hl
  rcases List.mem_append.1 hl with hl | hl
  · exact h l hl
  · rw [List.mem_singleton.1 hl]; exact hz

theorem not_allOk {xs : List Int} {q : Int} {k : Nat} (hk : k < xs.length) (hz : vE (xs.getD k 0) q = 3) : ¬ allOk xs q := by
  intro h
  have := h (xs.getD k 0) (by rw [List.getD_eq_getElem?_getD, List.getElem?_eq_getElem hk]; exact List.getElem_mem hk)
  omega

/-- A row of the call's own, and an error. -/
def IntsR (base : Nat) (er : Int) (ys : List Int) (w : World) (e : Ending) (w' : World) : Prop :=
  ∃ v, e = .returned (.tuple #[v, .int .i64 er]) ∧ Own w' base v ys ∧ Below w.heap.size w w'

theorem own_snoc {w' : World} {base : Nat} {v' : Value} {xs : List Int} {q z : Int} {k : Nat} (hk : k < xs.length) (hz : xs.getD k 0 = z)
    (h : w'.ownsRow base 3 1 v' (((xs.take k).map (fun l => vT l q)).length + 1) (((xs.take k).map (fun l => vT l q)).map (Value.int .i64) ++ [.int .i64 (vT z q)])) :
    Own w' base v' ((xs.take (k + 1)).map (fun l => vT l q)) := by
  unfold Own
  rw [getD_cons_take xs k hk, hz, List.map_append, List.map_append, List.length_append]
  exact h

set_option maxRecDepth 100000 in
set_option maxHeartbeats 1000000 in
theorem Inter_64 (v : Value) (xs : List Int) (q : Int) (hlen : xs.length = 64) (w : World) (h : Rd w w.heap.size v xs) :
    Calls Try.prog 23 #[v, .int .i64 q] w (IntsR w.heap.size (interE xs q) (interL xs q) w) := by
  obtain ⟨i0, hi0, hz0, hz1, hz2⟩ := info_parts int_info
  obtain ⟨a, cap, rfl, _, hc⟩ := h
  obtain ⟨b, off, rfl, hb, hc⟩ := hc (by intro e; subst e; simp at hlen)
  have HC := Lib.hid hc
  clear hc
  have HL := Lib.hid hlen
  rw [hlen]
  clear hlen
  go_enter Try.func23, Try.ntmps23
  go_wp2
  go_loopg [6, 16] 64 (fun g o i wr => ∃ k : Nat, g + k = 64 ∧ i = .int .i64 (k : Int) ∧ Own wr w.heap.size o ((xs.take k).map (fun l => vT l q)) ∧ Below w.heap.size w wr ∧ allOk (xs.take k) q)
  case atStart => exact ⟨0, rfl, rfl, Own.nil _ _, Below.refl _ _, fun l hl => by simp at hl⟩
  case round =>
    obtain ⟨k, hk, rfl, hO, hB, hA⟩ := hrel
    have hk64 : k ≤ 64 := by omega
    have HK := Lib.hid hk
    have HA := Lib.hid hA
    have HO := Lib.hid hO
    clear hk hA hO
    by_cases hlt : k < 64
    · obtain ⟨z, hz⟩ : ∃ z, xs.getD k 0 = z := ⟨_, rfl⟩
      have hcell : wr.cell? ⟨b, off + k, none⟩ = some (.int .i64 z) := by rw [← hz]; exact (hB.cell (p := ⟨b, off + k, none⟩) hb).trans (HC.out k (by rw [HL.out]; exact hlt))
      have HZ := Lib.hid hz
      clear hz
      have hi : (k : Int) < 64 := by omega
      go_wp2_with fail
      refine (Value_any z q _).mono ?_
      rintro e w1 ⟨rfl, hb1⟩
      clear hcell
      rcases vE_or z q with he | he
      · have HO1 := Lib.hid (HO.out.below hb1)
        have hlen1 : ((xs.take k).map (fun l => vT l q)).length = k := by rw [List.length_map, List.length_take, HL.out]; omega
        have HL1 := Lib.hid hlen1
        clear hlen1
        go_wp2_with (at_builtin; refine wpList_append_own _ rfl _ _ 35 rfl w.heap.size 3 i0 (.int .i64 0) 1 8 Try.underlying35 hi0 hz0 hz1 hz2 rfl (by decide) _ _ _ rfl (World.ownsRow.alloc HO1.out _) ⟨w1.heap.size, 0, none⟩ 1 1 [.int .i64 (vT z q)] rfl rfl (cell_one_new _ _ _) (by intro u hu; simp at hu; subst hu; rfl) (by rw [HL1.out]; simp only [maxLen]; omega) (by rw [HL1.out]; omega) (by have := hb1.size; have := hB.size; simp; omega) ?_; intro v' w2 hown2 hg2 hnil2)
        have hS := own_snoc (by rw [HL.out]; exact hlt) HZ.out hown2
        have hB1 := hB.trans (hb1.mono hB.size)
        have hB2 : Below w.heap.size w w2 := (hB1.alloc hB1.size _).grown hg2 (by have := hB1.size; simp; omega) (fun j hj => (World.ownsRow.lt HO1.out j hj).1)
        have HS := Lib.hid hS
        clear hS hown2 hg2 hnil2 hb1
        go_wp2
        go_roundg (63 - k)
        case measure => have := HK.out; omega
        case rel => exact ⟨k + 1, by omega, by go_num, HS.out, hB2, allOk_snoc HA.out (by rw [HL.out]; exact hlt) (by rw [HZ.out]; exact he)⟩
      · go_wp2
        refine bodyPost_ret (results_tmp2 rfl _ _ _) rfl ?_
        have hno : ¬ allOk xs q := not_allOk (k := k) (by rw [HL.out]; exact hlt) (by rw [HZ.out]; exact he)
        have e1 : interE xs q = 3 := by unfold interE; rw [if_pos HL.out, if_neg hno]
        have e2 : interL xs q = [] := by unfold interL; rw [if_neg (fun h => hno h.2)]
        rw [e1, e2]
        exact ⟨_, rfl, Own.nil _ _, hB.trans (hb1.mono hB.size)⟩
    · have hge : 64 ≤ k := by omega
      clear hlt
      go_wp2
      refine bodyPost_ret (results_tmp2 rfl _ _ _) rfl ?_
      have ht : xs.take k = xs := List.take_of_length_le (by rw [HL.out]; exact hge)
      have hA := HA.out
      have hO := HO.out
      rw [ht] at hA hO
      have e1 : interE xs q = 0 := by unfold interE; rw [if_pos HL.out, if_pos hA]
      have e2 : interL xs q = xs.map (fun l => vT l q) := by unfold interL; rw [if_pos ⟨HL.out, hA⟩]
      rw [e1, e2]
      exact ⟨_, rfl, hO, hB⟩

set_option maxRecDepth 100000 in
set_option maxHeartbeats 1000000 in
theorem refInter_64 (v : Value) (xs : List Int) (q : Int) (hlen : xs.length = 64) (w : World) (h : Rd w w.heap.size v xs) :
    Calls Try.prog 24 #[v, .int .i64 q] w (IntsR w.heap.size (interE xs q) (interL xs q) w) := by
  obtain ⟨i0, hi0, hz0, hz1, hz2⟩ := info_parts int_info
  obtain ⟨a, cap, rfl, _, hc⟩ := h
  obtain ⟨b, off, rfl, hb, hc⟩ := hc (by intro e; subst e; simp at hlen)
  have HC := Lib.hid hc
  clear hc
  have HL := Lib.hid hlen
  rw [hlen]
  clear hlen
  go_enter Try.func24, Try.ntmps24
  go_wp2
  go_loopg [6, 7] 64 (fun g o i wr => ∃ k : Nat, g + k = 64 ∧ i = .int .i64 (k : Int) ∧ Own wr w.heap.size o ((xs.take k).map (fun l => vT l q)) ∧ Below w.heap.size w wr ∧ allOk (xs.take k) q)
  case atStart => exact ⟨0, rfl, rfl, Own.nil _ _, Below.refl _ _, fun l hl => by simp at hl⟩
  case round =>
    obtain ⟨k, hk, rfl, hO, hB, hA⟩ := hrel
    have hk64 : k ≤ 64 := by omega
    have HK := Lib.hid hk
    have HA := Lib.hid hA
    have HO := Lib.hid hO
    clear hk hA hO
    by_cases hlt : k < 64
    · obtain ⟨z, hz⟩ : ∃ z, xs.getD k 0 = z := ⟨_, rfl⟩
      have hcell : wr.cell? ⟨b, off + k, none⟩ = some (.int .i64 z) := by rw [← hz]; exact (hB.cell (p := ⟨b, off + k, none⟩) hb).trans (HC.out k (by rw [HL.out]; exact hlt))
      have HZ := Lib.hid hz
      clear hz
      have hi : (k : Int) < 64 := by omega
      go_wp2_with fail
      refine (refValue_any z q _).mono ?_
      rintro e w1 ⟨rfl, hw1⟩
      have hb1 : Below wr.heap.size wr w1 := by rw [← hw1]; exact Below.refl _ _
      clear hw1
      clear hcell
      rcases vE_or z q with he | he
      · have HO1 := Lib.hid (HO.out.below hb1)
        have hlen1 : ((xs.take k).map (fun l => vT l q)).length = k := by rw [List.length_map, List.length_take, HL.out]; omega
        have HL1 := Lib.hid hlen1
        clear hlen1
        go_wp2_with (at_builtin; refine wpList_append_own _ rfl _ _ 35 rfl w.heap.size 3 i0 (.int .i64 0) 1 8 Try.underlying35 hi0 hz0 hz1 hz2 rfl (by decide) _ _ _ rfl (World.ownsRow.alloc HO1.out _) ⟨w1.heap.size, 0, none⟩ 1 1 [.int .i64 (vT z q)] rfl rfl (cell_one_new _ _ _) (by intro u hu; simp at hu; subst hu; rfl) (by rw [HL1.out]; simp only [maxLen]; omega) (by rw [HL1.out]; omega) (by have := hb1.size; have := hB.size; simp; omega) ?_; intro v' w2 hown2 hg2 hnil2)
        have hS := own_snoc (by rw [HL.out]; exact hlt) HZ.out hown2
        have hB1 := hB.trans (hb1.mono hB.size)
        have hB2 : Below w.heap.size w w2 := (hB1.alloc hB1.size _).grown hg2 (by have := hB1.size; simp; omega) (fun j hj => (World.ownsRow.lt HO1.out j hj).1)
        have HS := Lib.hid hS
        clear hS hown2 hg2 hnil2 hb1
        go_wp2
        go_roundg (63 - k)
        case measure => have := HK.out; omega
        case rel => exact ⟨k + 1, by omega, by go_num, HS.out, hB2, allOk_snoc HA.out (by rw [HL.out]; exact hlt) (by rw [HZ.out]; exact he)⟩
      · go_wp2
        refine bodyPost_ret (results_tmp2 rfl _ _ _) rfl ?_
        have hno : ¬ allOk xs q := not_allOk (k := k) (by rw [HL.out]; exact hlt) (by rw [HZ.out]; exact he)
        have e1 : interE xs q = 3 := by unfold interE; rw [if_pos HL.out, if_neg hno]
        have e2 : interL xs q = [] := by unfold interL; rw [if_neg (fun h => hno h.2)]
        rw [e1, e2]
        exact ⟨_, rfl, Own.nil _ _, hB.trans (hb1.mono hB.size)⟩
    · have hge : 64 ≤ k := by omega
      clear hlt
      go_wp2
      refine bodyPost_ret (results_tmp2 rfl _ _ _) rfl ?_
      have ht : xs.take k = xs := List.take_of_length_le (by rw [HL.out]; exact hge)
      have hA := HA.out
      have hO := HO.out
      rw [ht] at hA hO
      have e1 : interE xs q = 0 := by unfold interE; rw [if_pos HL.out, if_pos hA]
      have e2 : interL xs q = xs.map (fun l => vT l q) := by unfold interL; rw [if_pos ⟨HL.out, hA⟩]
      rw [e1, e2]
      exact ⟨_, rfl, hO, hB⟩

theorem len_ne {n : Nat} (h : n ≠ 64) : (!((n : Int) == 64)) = true := by simp; omega

theorem Inter_any (v : Value) (xs : List Int) (q : Int) (w : World) (h : Rd w w.heap.size v xs) :
    Calls Try.prog 23 #[v, .int .i64 q] w (IntsR w.heap.size (interE xs q) (interL xs q) w) := by
  by_cases hlen : xs.length = 64
  · exact Inter_64 v xs q hlen w h
  · have e1 : interE xs q = 2 := by unfold interE; rw [if_neg hlen]
    have e2 : interL xs q = [] := by unfold interL; rw [if_neg (fun h => hlen h.1)]
    rw [e1, e2]
    obtain ⟨a, cap, rfl, _⟩ := h
    clear e1 e2
    generalize xs.length = n at hlen
    have hd : ((n : Int) == 64) = false := by simp; omega
    have hd2 : ((n : Int) != 64) = true := by simp; omega
    go_enter Try.func23, Try.ntmps23
    go_wp2
    refine bodyPost_ret (results_tmp2 rfl _ _ _) rfl ?_
    exact ⟨_, rfl, Own.nil _ _, Below.refl _ _⟩

theorem refInter_any (v : Value) (xs : List Int) (q : Int) (w : World) (h : Rd w w.heap.size v xs) :
    Calls Try.prog 24 #[v, .int .i64 q] w (IntsR w.heap.size (interE xs q) (interL xs q) w) := by
  by_cases hlen : xs.length = 64
  · exact refInter_64 v xs q hlen w h
  · have e1 : interE xs q = 2 := by unfold interE; rw [if_neg hlen]
    have e2 : interL xs q = [] := by unfold interL; rw [if_neg (fun h => hlen h.1)]
    rw [e1, e2]
    obtain ⟨a, cap, rfl, _⟩ := h
    clear e1 e2
    generalize xs.length = n at hlen
    have hd : ((n : Int) == 64) = false := by simp; omega
    have hd2 : ((n : Int) != 64) = true := by simp; omega
    go_enter Try.func24, Try.ntmps24
    go_wp2
    refine bodyPost_ret (results_tmp2 rfl _ _ _) rfl ?_
    exact ⟨_, rfl, Own.nil _ _, Below.refl _ _⟩

theorem interE_or (xs : List Int) (q : Int) : (interE xs q = 0 ∧ (interL xs q).length = 64) ∨ ((interE xs q = 2 ∨ interE xs q = 3) ∧ interL xs q = []) := by
  unfold interE interL
  by_cases h : xs.length = 64
  · by_cases h2 : allOk xs q
    · left; rw [if_pos h, if_pos h2, if_pos ⟨h, h2⟩]; exact ⟨rfl, by rw [List.length_map]; exact h⟩
    · right; rw [if_pos h, if_neg h2, if_neg (fun k => h2 k.2)]; exact ⟨.inr rfl, rfl⟩
  · right; rw [if_neg h, if_neg (fun k => h k.1)]; exact ⟨.inl rfl, rfl⟩

open Classical in
/-- What Intra answers. -/
noncomputable def intraE (xs : List Int) (q c : Int) : Int := if interE xs q = 0 then dE c else interE xs q
open Classical in
noncomputable def intraL (xs : List Int) (q c : Int) : List Int := if interE xs q = 0 ∧ dE c = 0 then (interL xs q).set 0 (dV c) else []

theorem dE_or (c : Int) : dE c = 0 ∨ dE c = 3 ∨ dE c = 10 := by unfold dE; split <;> (try split) <;> simp

set_option maxRecDepth 100000 in
set_option maxHeartbeats 1000000 in
theorem Intra_any (v : Value) (xs : List Int) (q c : Int) (w : World) (h : Rd w w.heap.size v xs) :
    Calls Try.prog 25 #[v, .int .i64 q, .int .i64 c] w (IntsR w.heap.size (intraE xs q c) (intraL xs q c) w) := by
  have H := Lib.hid h
  clear h
  go_enter Try.func25, Try.ntmps25
  go_wp2_with fail
  refine (Inter_any v xs q _ H.out).mono ?_
  rintro e w1 ⟨v1, rfl, hO, hB⟩
  have HO := Lib.hid hO
  clear hO
  rcases interE_or xs q with ⟨he, hl⟩ | ⟨he, hl⟩
  · have HE := Lib.hid he
    obtain ⟨g, cap, rfl, hg1, hg2⟩ := HO.out.form (by intro e; rw [e] at hl; simp at hl)
    have hcell := HO.out.cell 0 (by omega)
    have hf := HO.out.frozen 0
    have hS := HO.out.set 0 (dV c)
    have HS := Lib.hid hS
    obtain ⟨z, hz⟩ : ∃ z, (interL xs q).getD 0 0 = z := ⟨_, rfl⟩
    rw [hz] at hcell
    clear hz
    rw [hl]
    clear hS he
    have he := HE.out
    have hp : (0 : Int) < 64 := by omega
    go_wp2_with fail
    refine (DC_any c _).mono ?_
    rintro e w2 ⟨rfl, rfl⟩
    clear he
    rcases dE_or c with hd | hd | hd
    · go_wp2
      refine bodyPost_ret (results_tmp2 rfl _ _ _) rfl ?_
      have e1 : intraE xs q c = 0 := by unfold intraE; rw [if_pos HE.out]; exact hd
      have e2 : intraL xs q c = (interL xs q).set 0 (dV c) := by unfold intraL; rw [if_pos ⟨HE.out, hd⟩]
      rw [e1, e2]
      refine ⟨_, rfl, ?_, hB.grown HS.out.2 hB.size (fun k hk => by cases hk; exact hg1)⟩
      have := HS.out.1
      rw [hl] at this
      exact this
    · go_wp2
      refine bodyPost_ret (results_tmp2 rfl _ _ _) rfl ?_
      have e1 : intraE xs q c = 3 := by unfold intraE; rw [if_pos HE.out]; exact hd
      have e2 : intraL xs q c = [] := by unfold intraL; rw [if_neg (fun k => by have := k.2; omega)]
      rw [e1, e2]
      exact ⟨_, rfl, Own.nil _ _, hB.grown HS.out.2 hB.size (fun k hk => by cases hk; exact hg1)⟩
    · go_wp2
      refine bodyPost_ret (results_tmp2 rfl _ _ _) rfl ?_
      have e1 : intraE xs q c = 10 := by unfold intraE; rw [if_pos HE.out]; exact hd
      have e2 : intraL xs q c = [] := by unfold intraL; rw [if_neg (fun k => by have := k.2; omega)]
      rw [e1, e2]
      exact ⟨_, rfl, Own.nil _ _, hB.grown HS.out.2 hB.size (fun k hk => by cases hk; exact hg1)⟩
  · have E1 : Hid (intraE xs q c = interE xs q) := Lib.hid (by unfold intraE; rw [if_neg (by omega)])
    have E2 : Hid (intraL xs q c = []) := Lib.hid (by unfold intraL; rw [if_neg (fun k => by have := k.1; omega)])
    clear hl
    rcases he with he | he
    · have HE := Lib.hid he
      go_wp2
      refine bodyPost_ret (results_tmp2 rfl _ _ _) rfl ?_
      rw [E1.out, E2.out, HE.out]
      exact ⟨_, rfl, Own.nil _ _, hB⟩
    · have HE := Lib.hid he
      go_wp2
      refine bodyPost_ret (results_tmp2 rfl _ _ _) rfl ?_
      rw [E1.out, E2.out, HE.out]
      exact ⟨_, rfl, Own.nil _ _, hB⟩

set_option maxRecDepth 100000 in
set_option maxHeartbeats 1000000 in
theorem refIntra_any (v : Value) (xs : List Int) (q c : Int) (w : World) (h : Rd w w.heap.size v xs) :
    Calls Try.prog 26 #[v, .int .i64 q, .int .i64 c] w (IntsR w.heap.size (intraE xs q c) (intraL xs q c) w) := by
  have H := Lib.hid h
  clear h
  go_enter Try.func26, Try.ntmps26
  go_wp2_with fail
  refine (refInter_any v xs q _ H.out).mono ?_
  rintro e w1 ⟨v1, rfl, hO, hB⟩
  have HO := Lib.hid hO
  clear hO
  rcases interE_or xs q with ⟨he, hl⟩ | ⟨he, hl⟩
  · have HE := Lib.hid he
    obtain ⟨g, cap, rfl, hg1, hg2⟩ := HO.out.form (by intro e; rw [e] at hl; simp at hl)
    have hcell := HO.out.cell 0 (by omega)
    have hf := HO.out.frozen 0
    have hS := HO.out.set 0 (dV c)
    have HS := Lib.hid hS
    obtain ⟨z, hz⟩ : ∃ z, (interL xs q).getD 0 0 = z := ⟨_, rfl⟩
    rw [hz] at hcell
    clear hz
    rw [hl]
    clear hS he
    have he := HE.out
    have hp : (0 : Int) < 64 := by omega
    go_wp2_with fail
    refine (refDC_any c _).mono ?_
    rintro e w2 ⟨rfl, rfl⟩
    clear he
    rcases dE_or c with hd | hd | hd
    · go_wp2
      refine bodyPost_ret (results_tmp2 rfl _ _ _) rfl ?_
      have e1 : intraE xs q c = 0 := by unfold intraE; rw [if_pos HE.out]; exact hd
      have e2 : intraL xs q c = (interL xs q).set 0 (dV c) := by unfold intraL; rw [if_pos ⟨HE.out, hd⟩]
      rw [e1, e2]
      refine ⟨_, rfl, ?_, hB.grown HS.out.2 hB.size (fun k hk => by cases hk; exact hg1)⟩
      have := HS.out.1
      rw [hl] at this
      exact this
    · go_wp2
      refine bodyPost_ret (results_tmp2 rfl _ _ _) rfl ?_
      have e1 : intraE xs q c = 3 := by unfold intraE; rw [if_pos HE.out]; exact hd
      have e2 : intraL xs q c = [] := by unfold intraL; rw [if_neg (fun k => by have := k.2; omega)]
      rw [e1, e2]
      exact ⟨_, rfl, Own.nil _ _, hB⟩
    · go_wp2
      refine bodyPost_ret (results_tmp2 rfl _ _ _) rfl ?_
      have e1 : intraE xs q c = 10 := by unfold intraE; rw [if_pos HE.out]; exact hd
      have e2 : intraL xs q c = [] := by unfold intraL; rw [if_neg (fun k => by have := k.2; omega)]
      rw [e1, e2]
      exact ⟨_, rfl, Own.nil _ _, hB⟩
  · have E1 : Hid (intraE xs q c = interE xs q) := Lib.hid (by unfold intraE; rw [if_neg (by omega)])
    have E2 : Hid (intraL xs q c = []) := Lib.hid (by unfold intraL; rw [if_neg (fun k => by have := k.1; omega)])
    clear hl
    rcases he with he | he
    · have HE := Lib.hid he
      go_wp2
      refine bodyPost_ret (results_tmp2 rfl _ _ _) rfl ?_
      rw [E1.out, E2.out, HE.out]
      exact ⟨_, rfl, Own.nil _ _, hB⟩
    · have HE := Lib.hid he
      go_wp2
      refine bodyPost_ret (results_tmp2 rfl _ _ _) rfl ?_
      rw [E1.out, E2.out, HE.out]
      exact ⟨_, rfl, Own.nil _ _, hB⟩

end Go.Proofs.Ytlgpagaclfcoaaa
