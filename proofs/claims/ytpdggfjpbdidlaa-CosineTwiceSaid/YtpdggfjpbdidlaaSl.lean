/-
  Plain facts on slices of int in the model's world: what a slice reads as, a row of the call's own, and what is kept of both. No program here.
-/
import Derived.WalkKit
import Derived.Below
import Derived.OwnWalk
import Derived.Laws.OwnMore
import Derived.Deep.Draws
namespace Go.Proofs.Ytpdggfjpbdidlaa
open Go.RowKit

/-- The slice v reads as xs; its cells lie below block B. -/
def Rd (w : World) (B : Nat) (v : Value) (xs : List Int) : Prop :=
  ∃ a cap, v = .slice a xs.length cap ∧ (a = none → cap = 0) ∧
    (xs ≠ [] → ∃ b off, a = some ⟨b, off, none⟩ ∧ b < B ∧ ∀ i, i < xs.length → w.cell? ⟨b, off + i, none⟩ = some (.int .i64 (xs.getD i 0)))

/-- The slice v is a row of the call's own (its block from base on), of the numbers xs. -/
def Own (w : World) (base : Nat) (v : Value) (xs : List Int) : Prop := w.ownsRow base 3 1 v xs.length (xs.map (Value.int .i64))

theorem Rd.below {w w' : World} {B : Nat} {v : Value} {xs : List Int} (h : Rd w B v xs) (hb : Below B w w') : Rd w' B v xs := by
  obtain ⟨a, cap, hv, hz, hc⟩ := h
  refine ⟨a, cap, hv, hz, fun hn => ?_⟩
  obtain ⟨b, off, ha, hlt, hcell⟩ := hc hn
  exact ⟨b, off, ha, hlt, fun i hi => (hb.cell (p := ⟨b, off + i, none⟩) hlt).trans (hcell i hi)⟩

theorem Rd.mono {w : World} {B B' : Nat} {v : Value} {xs : List Int} (h : Rd w B v xs) (hB : B ≤ B') : Rd w B' v xs := by
  obtain ⟨a, cap, hv, hz, hc⟩ := h
  refine ⟨a, cap, hv, hz, fun hn => ?_⟩
  obtain ⟨b, off, ha, hlt, hcell⟩ := hc hn
  exact ⟨b, off, ha, by omega, hcell⟩

theorem Rd.cut {w : World} {B : Nat} {v : Value} {xs : List Int} (h : Rd w B v xs) :
    (xs = [] ∧ v = .slice none 0 0) ∨ (∃ a cap, xs = [] ∧ v = .slice (some a) 0 cap) ∨
    (∃ b off cap, xs ≠ [] ∧ v = .slice (some ⟨b, off, none⟩) xs.length cap ∧ b < B ∧ ∀ i, i < xs.length → w.cell? ⟨b, off + i, none⟩ = some (.int .i64 (xs.getD i 0))) := by
  obtain ⟨a, cap, hv, hz, hc⟩ := h
  by_cases hn : xs = []
  · subst hn
    cases a with
    | none => left; rw [hz rfl] at hv; exact ⟨rfl, hv⟩
    | some a => right; left; exact ⟨a, cap, rfl, hv⟩
  · right; right
    obtain ⟨b, off, ha, hlt, hcell⟩ := hc hn
    subst ha
    exact ⟨b, off, cap, hn, hv, hlt, hcell⟩

theorem drawn_below {B : Nat} {a w : World} (h : Below B a w) (n : Nat) : Below B a (w.drewN n) := ⟨h.os, h.tape, h.output, h.size, h.block⟩

theorem grown_of_below {w w' : World} (h : Below w.heap.size w w') (row : Option Nat) : w.grownBy w' row := ⟨h.os, h.tape, h.output, h.size, fun i hi _ => h.block i hi⟩

theorem Own.below {w w' : World} {base : Nat} {v : Value} {xs : List Int} (h : Own w base v xs) (hb : Below w.heap.size w w') : Own w' base v xs :=
  World.ownsRow.kept h (grown_of_below hb none) (by cases v.ownBlock <;> simp)

theorem Own.kept {w w' : World} {base : Nat} {v : Value} {xs : List Int} {row : Option Nat} (h : Own w base v xs) (hg : w.grownBy w' row) (hne : v.ownBlock = none ∨ v.ownBlock ≠ row) : Own w' base v xs :=
  World.ownsRow.kept h hg hne

theorem Own.nil (w : World) (base : Nat) : Own w base (.slice none 0 0) [] := World.ownsRow_nil w base 3 1

theorem Own.rd {w : World} {base : Nat} {v : Value} {xs : List Int} (h : Own w base v xs) : Rd w w.heap.size v xs := by
  rcases h.2 with ⟨rfl, hn⟩ | ⟨g, cap, cur, rfl, hb, hg, hnc, hcm, hcs, htake⟩
  · exact ⟨none, 0, by rw [hn], fun _ => rfl, fun hx => absurd (List.eq_nil_of_length_eq_zero hn) hx⟩
  · refine ⟨_, cap, rfl, (fun h => by cases h), fun _ => ⟨g, 0, rfl, (Array.getElem?_eq_some_iff.1 hg).1, fun i hi => ?_⟩⟩
    have := World.ownsRow.cellAt h i (by omega)
    rw [Nat.zero_add, this, List.getElem?_map, List.getD_eq_getElem?_getD, List.getElem?_eq_getElem hi]
    rfl

/-- A row that is not empty has a block. -/
theorem Own.form {w : World} {base : Nat} {v : Value} {xs : List Int} (h : Own w base v xs) (hn : xs ≠ []) : ∃ g cap, v = .slice (some ⟨g, 0, none⟩) xs.length cap ∧ base ≤ g ∧ g < w.heap.size := by
  rcases h.2 with ⟨rfl, hn'⟩ | ⟨g, cap, cur, rfl, hb, hg, _⟩
  · exact absurd (List.eq_nil_of_length_eq_zero hn') hn
  · exact ⟨g, cap, rfl, hb, (Array.getElem?_eq_some_iff.1 hg).1⟩

theorem Own.cases {w : World} {base : Nat} {v : Value} {xs : List Int} (h : Own w base v xs) : (∃ a cap, xs = [] ∧ v = .slice a 0 cap) ∨ (∃ g cap, xs ≠ [] ∧ v = .slice (some ⟨g, 0, none⟩) xs.length cap ∧ base ≤ g ∧ g < w.heap.size) := by
  by_cases hn : xs = []
  · left
    subst hn
    rcases h.2 with ⟨rfl, _⟩ | ⟨g, cap, cur, rfl, _⟩
    · exact ⟨none, 0, rfl, rfl⟩
    · exact ⟨_, cap, rfl, rfl⟩
  · right
    obtain ⟨g, cap, hv, hb, hg⟩ := h.form hn
    exact ⟨g, cap, hn, hv, hb, hg⟩

theorem Own.cell {w : World} {base g cap : Nat} {xs : List Int} (h : Own w base (.slice (some ⟨g, 0, none⟩) xs.length cap) xs) (i : Nat) (hi : i < xs.length) : w.cell? ⟨g, i, none⟩ = some (.int .i64 (xs.getD i 0)) := by
  have := World.ownsRow.cellAt h i (by omega)
  rw [this, List.getElem?_map, List.getD_eq_getElem?_getD, List.getElem?_eq_getElem hi]
  rfl

theorem Own.frozen {w : World} {base g cap : Nat} {xs : List Int} (h : Own w base (.slice (some ⟨g, 0, none⟩) xs.length cap) xs) (i : Nat) : w.frozen? ⟨g, i, none⟩ = false := World.ownsRow.frozenAt h i

theorem Own.set {w : World} {base g cap : Nat} {xs : List Int} (h : Own w base (.slice (some ⟨g, 0, none⟩) xs.length cap) xs) (i : Nat) (z : Int) :
    Own (w.setCell ⟨g, i, none⟩ (.int .i64 z)) base (.slice (some ⟨g, 0, none⟩) xs.length cap) (xs.set i z) ∧ w.grownBy (w.setCell ⟨g, i, none⟩ (.int .i64 z)) (some g) := by
  have := World.ownsRow.stored h i (.int .i64 z)
  refine ⟨?_, this.2⟩
  unfold Own
  rw [List.length_set, List.map_set]
  exact this.1

/-- What the row's frame tells of a slice of int that came in, as a list of its elements. -/
theorem rd_of_row {w : World} {a : Option Addr} {len cap : Nat} {zs : List Int}
    (h : (a = none ∧ len = 0 ∧ cap = 0 ∧ zs = []) ∨
      ∃ x, a = some x ∧ len ≤ cap ∧ cap ≤ maxLen ∧ zs.length = cap ∧ (∀ i, i < zs.length → w.cell? (x.add i) = some (.int .i64 (zs.getD i 0))) ∧ ∀ n ∈ zs, (Lit.int .i64 n).wf = true) :
    ∃ xs : List Int, xs.length = len ∧ len ≤ 9223372036854775807 ∧ Rd w w.heap.size (.slice a len cap) xs := by
  rcases h with ⟨rfl, rfl, rfl, rfl⟩ | ⟨x, rfl, hl, hm, hz, hcell, _⟩
  · exact ⟨[], rfl, by omega, none, 0, rfl, fun _ => rfl, fun hn => absurd rfl hn⟩
  · have hm' : cap ≤ 9223372036854775807 := by simpa [maxLen] using hm
    have hlen : (zs.take len).length = len := by rw [List.length_take]; omega
    refine ⟨zs.take len, hlen, by omega, some x, cap, by rw [hlen], (fun h => by cases h), fun hn => ?_⟩
    have hpos : 0 < len := by
      rcases Nat.eq_zero_or_pos len with h0 | h0
      · exact absurd (by rw [h0]; rfl) hn
      · exact h0
    obtain ⟨b, off, spot⟩ := x
    have hc0 := hcell 0 (by omega)
    have hspot : spot = none := by simpa [Addr.add] using World.cell?_spot hc0
    subst hspot
    have hadd : ∀ i, (⟨b, off, none⟩ : Addr).add i = ⟨b, off + i, none⟩ := fun i => by simp [Addr.add]
    refine ⟨b, off, rfl, ?_, fun i hi => ?_⟩
    · have := World.block_lt_of_cell? w _ hc0
      rw [hadd] at this
      exact this
    · rw [hlen] at hi
      have := hcell i (by omega)
      rw [hadd] at this
      rw [this]
      have e : (zs.take len).getD i 0 = zs.getD i 0 := by
        rw [List.getD_eq_getElem?_getD, List.getD_eq_getElem?_getD, List.getElem?_take, if_pos hi]
      rw [e]

theorem grown_trans {a b c : World} {row : Option Nat} (h : a.grownBy b row) (k : b.grownBy c row) : a.grownBy c row :=
  ⟨k.os.trans h.os, k.tape.trans h.tape, k.output.trans h.output, Nat.le_trans h.size k.size, fun i hi hne => (k.block i (Nat.lt_of_lt_of_le hi h.size) hne).trans (h.block i hi hne)⟩

theorem getD_cons_take (xs : List Int) (k : Nat) (h : k < xs.length) : xs.take (k + 1) = xs.take k ++ [xs.getD k 0] := by
  rw [List.take_succ_eq_append_getElem h, List.getD_eq_getElem?_getD, List.getElem?_eq_getElem h]
  rfl

end Go.Proofs.Ytpdggfjpbdidlaa
