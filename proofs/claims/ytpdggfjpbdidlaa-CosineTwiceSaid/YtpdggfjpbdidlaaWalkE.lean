/-
  The walk of Line: it returns the eight sums, or why not. Conditions: what comes in reads as a list of numbers.
-/
import Derived.Test.YtpdggfjpbdidlaaWalkD
import Derived.Deep.MidRow
import Derived.WalkLawsBesides
import Derived.WalkSpells
namespace Go.Proofs.Ytpdggfjpbdidlaa
open Go.RowKit

open Classical in
/-- What Line answers. -/
noncomputable def lineE (xs : List Int) : Int := if xs.length = 8 then (if Eight 1099511627776 xs then 0 else 3) else 2
open Classical in
noncomputable def lineR (xs : List Int) : List Int := if Eight 1099511627776 xs then lineL xs else []

/-- A slice of the call's own, and an error. -/
def IntsR (base : Nat) (er : Int) (ys : List Int) (w : World) (e : Ending) (w' : World) : Prop :=
  ∃ v, e = .returned (.tuple #[v, .int .i64 er]) ∧ Res w' base v ys ∧ Below w.heap.size w w'

theorem lineE_len {xs : List Int} (h : xs.length ≠ 8) : lineE xs = 2 ∧ lineR xs = [] := by
  unfold lineE lineR
  rw [if_neg h, if_neg (fun k => h k.1)]
  exact ⟨rfl, rfl⟩
theorem lineE_bad {xs : List Int} (h : xs.length = 8) {k : Nat} (hk : k < 8) (hz : xs.getD k 0 < -1099511627776 ∨ 1099511627776 < xs.getD k 0) : lineE xs = 3 ∧ lineR xs = [] := by
  have hn : ¬ Eight 1099511627776 xs := fun h8 => by have := h8.2 k hk; omega
  unfold lineE lineR
  rw [if_pos h, if_neg hn, if_neg hn]
  exact ⟨rfl, rfl⟩
theorem lineE_good {xs : List Int} (h : Eight 1099511627776 xs) : lineE xs = 0 ∧ lineR xs = lineL xs := by
  unfold lineE lineR
  rw [if_pos h.1, if_pos h, if_pos h]
  exact ⟨rfl, rfl⟩

theorem range_of {w : World} {b off : Nat} {xs : List Int} (h : ∀ i, i < xs.length → w.cell? ⟨b, off + i, none⟩ = some (.int .i64 (xs.getD i 0))) : w.rangeAt b off (xs.map (Value.int .i64)) := by
  intro j v hv
  rw [List.getElem?_map] at hv
  rcases hj : xs[j]? with _ | z
  · rw [hj] at hv; cases hv
  · rw [hj] at hv
    cases hv
    have hlt := (List.getElem?_eq_some_iff.1 hj).1
    have := h j hlt
    rw [List.getD_eq_getElem?_getD, hj] at this
    exact this

/-- A whole array into the block that was made last. -/
theorem wpList_store_new {ops : Array Oper} {rest : List Oper} {o : Oper} {a : Act} {Q : Exit → Act → World → Prop} (hgd : o.guard = none) (ty : TypeId) (x y : Operand) (ho : o.op = .store ty x y)
    (w : World) (old : Array Value) (ys : List Int) (hx : a.eval x = .pointer (some ⟨w.heap.size, 0, none⟩)) (hy : a.eval y = .agg (cel ys))
    (hi : (Try.prog.info? ty).map (·.size) = some (cel ys).size) (hold : old.size = (cel ys).size)
    (h : ∀ W2, Blk W2 w.heap.size ty ys → Below w.heap.size w W2 → w.heap.size < W2.heap.size → wpList Try.prog ops Q rest (a.put o.dst undef) W2) :
    wpList Try.prog ops Q (o :: rest) a (w.alloc (.cells old ty)) := by
  refine wpList_store_row hgd ty x y ho w.heap.size (cel ys) hx hy ty old (heap_alloc_new w _) hi hold (cel_one ys) ?_
  rw [World.setRow_alloc_new]
  exact h _ (Blk.new w ty ys) ((Below.refl _ _).alloc (Nat.le_refl _) _) (by simp)

/-- A whole array out of the middle of a block. -/
theorem wpList_load_cel {ops : Array Oper} {rest : List Oper} {o : Oper} {a : Act} {w : World} {Q : Exit → Act → World → Prop} (hgd : o.guard = none) (ty : TypeId) (x : Operand) (ho : o.op = .load ty x)
    (b off : Nat) (xs : List Int) (hx : a.eval x = .pointer (some ⟨b, off, none⟩)) (d : TypeDesc) (hc : w.rangeAt b off (xs.map (Value.int .i64)))
    (hu : Try.prog.underlying ty = some d) (hd : d.isRow = true) (hi : (Try.prog.info? ty).map (·.size) = some xs.length)
    (h : wpList Try.prog ops Q rest (a.put o.dst (.agg (cel xs))) w) : wpList Try.prog ops Q (o :: rest) a w :=
  wpList_load_mid hgd ty x ho b off hx (xs.map (Value.int .i64)) d hc hu hd (by rw [List.length_map]; exact hi) h

theorem array_at41 (b off cap : Nat) (w : World) : (Instr.arrayAt 41 (.slice (some ⟨b, off, none⟩) 8 cap)).run Try.prog w = .ok (.pointer (some ⟨b, off, none⟩)) w := by kernel_rfl

set_option maxRecDepth 100000 in
set_option maxHeartbeats 2000000 in
theorem Line_8 (v : Value) (xs : List Int) (hlen : xs.length = 8) (w : World) (h : Rd w w.heap.size v xs) :
    Calls Try.prog 19 #[v] w (IntsR w.heap.size (lineE xs) (lineR xs) w) := by
  obtain ⟨a, cap, rfl, _, hc⟩ := h
  obtain ⟨b, off, rfl, hb, hc⟩ := hc (by intro e; subst e; simp at hlen)
  have HC := Lib.hid hc
  have HL := Lib.hid hlen
  rw [hlen]
  clear hc hlen
  go_enter Try.func19, Try.ntmps19
  go_wp2_with fail
  go_loopg [13] 8 (fun gh i wr => ∃ k : Nat, gh + k = 8 ∧ i = .int .i64 (k : Int) ∧ w = wr ∧ ∀ j, j < k → -1099511627776 ≤ xs.getD j 0 ∧ xs.getD j 0 ≤ 1099511627776)
  case atStart => exact ⟨0, rfl, rfl, rfl, fun j hj => by omega⟩
  case round =>
    obtain ⟨k, hk, rfl, rfl, hA⟩ := hrel
    have HK := Lib.hid hk
    have HA := Lib.hid hA
    have hk8 : k ≤ 8 := by omega
    clear hk hA
    by_cases hlt : k < 8
    · obtain ⟨z, hz⟩ : ∃ z, xs.getD k 0 = z := ⟨_, rfl⟩
      have hcell := HC.out k (by rw [HL.out]; exact hlt)
      rw [hz] at hcell
      have HZ := Lib.hid hz
      clear hz
      have hi : (k : Int) < 8 := by omega
      have hd : decide ((k : Int) < 8) = true := by simp; omega
      rcases (by omega : z < -1099511627776 ∨ (-1099511627776 ≤ z ∧ 1099511627776 < z) ∨ (-1099511627776 ≤ z ∧ z ≤ 1099511627776)) with hz | ⟨hz1, hz2⟩ | ⟨hz1, hz2⟩
      · have d1 : decide (z < -1099511627776) = true := by simp; omega
        go_wp2_with fail
        refine bodyPost_ret (results_tmp2 rfl _ _ _) rfl ?_
        have he := lineE_bad HL.out hlt (by rw [HZ.out]; exact .inl hz)
        rw [he.1, he.2]
        exact ⟨_, rfl, Res.nil _ _, Below.refl _ _⟩
      · have d1 : decide (z < -1099511627776) = false := by simp; omega
        have d2 : decide (1099511627776 < z) = true := by simp; omega
        go_wp2_with fail
        refine bodyPost_ret (results_tmp2 rfl _ _ _) rfl ?_
        have he := lineE_bad HL.out hlt (by rw [HZ.out]; exact .inr hz2)
        rw [he.1, he.2]
        exact ⟨_, rfl, Res.nil _ _, Below.refl _ _⟩
      · have d1 : decide (z < -1099511627776) = false := by simp; omega
        have d2 : decide (1099511627776 < z) = false := by simp; omega
        go_wp2_with fail
        go_roundg (7 - k)
        case measure => have := HK.out; omega
        case rel => exact ⟨k + 1, by omega, by go_num, rfl, fun j hj => by
          rcases (by omega : j < k ∨ j = k) with h1 | h1
          · exact HA.out j h1
          · rw [h1, HZ.out]; exact ⟨hz1, hz2⟩⟩
    · have hge : 8 ≤ k := by omega
      have h8 : Eight 1099511627776 xs := ⟨HL.out, fun u hu => HA.out u (by omega)⟩
      have H8 := Lib.hid h8
      clear hlt h8
      have hAA := array_at41 b off cap
      have HR : Hid (∀ W, Below w.heap.size w W → W.rangeAt b off (xs.map (Value.int .i64))) := Lib.hid (fun W hW => range_of (fun i hi => (hW.cell (p := ⟨b, off + i, none⟩) hb).trans (HC.out i hi)))
      go_wp2_with (first
        | (go_at_call 25; refine (weights_any _).mono ?_; rintro e w1 ⟨rfl, b1⟩)
        | (refine wpList_store_new rfl 42 (.tmp 6) (.tmp 24) rfl w1 _ wL rfl rfl (by kernel_rfl) rfl ?_; intro W2 k2 b2 s2)
        | (refine wpList_load_cel rfl 41 (.tmp 26) rfl b off xs rfl _ (HR.out _ (bt b1 b2)) Try.underlying41 rfl (by rw [HL.out]; kernel_rfl) ?_)
        | (go_at_call 28; refine (line_any xs w1.heap.size _ H8.out k2).mono ?_; rintro e w3 ⟨rfl, b3⟩)
        | (refine wpList_store_new rfl 41 (.tmp 7) (.tmp 28) rfl w3 _ (lineL xs) rfl rfl (by rw [cel_size, lineL_len]; kernel_rfl) (by rw [cel_size, lineL_len]; rfl) ?_; intro W4 k4 b4 s4))
      refine bodyPost_ret (results_tmp2 rfl _ _ _) rfl ?_
      have he := lineE_good H8.out
      rw [he.1, he.2]
      have B3 := bt (bt b1 b2) b3
      exact ⟨_, rfl, Res.of_blk k4 B3.size 8 (lineL_len _), bt B3 b4⟩

theorem Line_any (v : Value) (xs : List Int) (w : World) (h : Rd w w.heap.size v xs) :
    Calls Try.prog 19 #[v] w (IntsR w.heap.size (lineE xs) (lineR xs) w) := by
  by_cases hlen : xs.length = 8
  · exact Line_8 v xs hlen w h
  · have he := lineE_len hlen
    rw [he.1, he.2]
    obtain ⟨a, cap, rfl, _⟩ := h
    clear he
    generalize xs.length = n at hlen
    have hd : ((n : Int) == 8) = false := by simp; omega
    have hd2 : ((n : Int) != 8) = true := by simp; omega
    go_enter Try.func19, Try.ntmps19
    go_wp2
    refine bodyPost_ret (results_tmp2 rfl _ _ _) rfl ?_
    exact ⟨_, rfl, Res.nil _ _, Below.refl _ _⟩

end Go.Proofs.Ytpdggfjpbdidlaa
