/-
  The walks of CopyInts, SameInts and OverInts. Conditions: those that each theorem names.
-/
import Derived.Test.YtpdggfjpbdidlaaWalkC
import Derived.Test.YtpdggfjpbdidlaaSl
import Derived.Laws.AppendOwnNone
namespace Go.Proofs.Ytpdggfjpbdidlaa
open Go.RowKit

theorem int_info : (Try.prog.info? 3).map (fun i => (i.zero, i.size, i.bytes)) = some (some (.int .i64 0), 1, 8) := by kernel_rfl

/-- A copy of the call's own. -/
def CopyR (xs : List Int) (w : World) (e : Ending) (w' : World) : Prop := ∃ v', e = .returned v' ∧ Own w' w.heap.size v' xs ∧ Below w.heap.size w w'

theorem mapped_one (xs : List Int) : ∀ u ∈ xs.map (Value.int .i64), u.oneCell' = true := by
  intro u hu
  obtain ⟨z, _, rfl⟩ := List.mem_map.1 hu
  rfl

theorem copy_any (v : Value) (xs : List Int) (hlen : xs.length ≤ 80) (w : World) (h : Rd w w.heap.size v xs) :
    Calls Try.prog 15 #[v] w (CopyR xs w) := by
  obtain ⟨i0, hi, hz0, hz1, hz2⟩ := info_parts int_info
  have hown : ∀ base, base ≤ w.heap.size → (w.alloc (.cells #[] 3)).ownsRow base 3 1 (.slice (some ⟨w.heap.size, 0, none⟩) 0 0) 0 [] := fun base hb => World.ownsRow_lit w #[] 0 hb (by simp [maxLen]) rfl
  have hown0 := hown w.heap.size (Nat.le_refl _)
  clear hown
  rcases h.cut with ⟨rfl, rfl⟩ | ⟨a, cap, rfl, rfl⟩ | ⟨b, off, cap, hn, rfl, hb, hc⟩
  · go_enter Try.func15, Try.ntmps15
    go_wp2_with (at_builtin; refine wpList_append_own_none rfl (.tmp 3) (.tmp 4) 22 rfl w.heap.size 3 i0 1 Try.underlying22 hi _ 0 [] rfl hown0 rfl ?_)
    go_ret
    exact ⟨_, rfl, hown0, (Below.refl _ _).alloc (Nat.le_refl _) _⟩
  · go_enter Try.func15, Try.ntmps15
    go_wp2_with (at_builtin; refine wpList_append_own _ rfl (.tmp 3) (.tmp 4) 22 rfl w.heap.size 3 i0 (.int .i64 0) 1 8 Try.underlying22 hi hz0 hz1 hz2 rfl (by decide) _ 0 [] rfl hown0 a 0 cap [] rfl rfl (fun j u hu => by simp at hu) (fun u hu => by simp at hu) (by simp [maxLen]) (by omega) (by simp) ?_; intro v' w1 hown1 hg1 hnil1)
    go_ret
    exact ⟨v', rfl, hown1, ((Below.refl w.heap.size w).alloc (Nat.le_refl _) _).grown hg1 (by simp) (fun k hk => by cases hk; exact Nat.le_refl _)⟩
  · have hc1 : ∀ j u, (xs.map (Value.int .i64))[j]? = some u → (w.alloc (.cells #[] 3)).cell? ((⟨b, off, none⟩ : Addr).add j) = some u := by
      intro j u hu
      rw [List.getElem?_map] at hu
      rcases hj : xs[j]? with _ | z
      · rw [hj] at hu; cases hu
      · rw [hj] at hu
        cases hu
        have hlt := (List.getElem?_eq_some_iff.1 hj).1
        have := hc j hlt
        rw [List.getD_eq_getElem?_getD, hj] at this
        have e : (⟨b, off, none⟩ : Addr).add j = ⟨b, off + j, none⟩ := by simp [Addr.add]
        rw [e, World.cell?_alloc_lt w _ _ hb]
        exact this
    have HC := Lib.hid hc1
    clear hc1 hc h hn
    go_enter Try.func15, Try.ntmps15
    go_wp2_with (at_builtin; refine wpList_append_own _ rfl (.tmp 3) (.tmp 4) 22 rfl w.heap.size 3 i0 (.int .i64 0) 1 8 Try.underlying22 hi hz0 hz1 hz2 rfl (by decide) _ 0 [] rfl hown0 ⟨b, off, none⟩ xs.length cap (xs.map (Value.int .i64)) rfl (by simp) HC.out (mapped_one xs) (by simp only [maxLen]; omega) (by omega) (by simp) ?_; intro v' w1 hown1 hg1 hnil1)
    go_ret
    refine ⟨v', rfl, ?_, ((Below.refl w.heap.size w).alloc (Nat.le_refl _) _).grown hg1 (by simp) (fun k hk => by cases hk; exact Nat.le_refl _)⟩
    unfold Own
    rw [Nat.zero_add, List.nil_append] at hown1
    exact hown1

set_option maxRecDepth 100000 in
theorem same_any (v1 v2 : Value) (xs : List Int) (w : World) (hlen : xs.length ≤ 65536) (h1 : Rd w w.heap.size v1 xs) (h2 : Rd w w.heap.size v2 xs) :
    Calls Try.prog 17 #[v1, v2] w fun e w' => e = .returned (.bool true) ∧ Below w.heap.size w w' := by
  by_cases hn : xs = []
  · subst hn
    obtain ⟨a1, c1, rfl, _⟩ := h1
    obtain ⟨a2, c2, rfl, _⟩ := h2
    go_enter Try.func17, Try.ntmps17
    go_wp2
    refine wp_loop_rounds 1 ?_
    rw [rounds_succ]
    go_wp2
    go_ret
    exact ⟨rfl, Below.refl _ _⟩
  · obtain ⟨a1, c1, rfl, _, k1⟩ := h1
    obtain ⟨a2, c2, rfl, _, k2⟩ := h2
    obtain ⟨b1, o1, rfl, l1, e1⟩ := k1 hn
    obtain ⟨b2, o2, rfl, l2, e2⟩ := k2 hn
    obtain ⟨n, hN⟩ : ∃ n, xs.length = n := ⟨_, rfl⟩
    rw [hN] at e1 e2 hlen ⊢
    have hpos : 0 < n := by rw [← hN]; exact List.length_pos_iff.2 hn
    have E1 := Lib.hid e1
    have E2 := Lib.hid e2
    clear e1 e2 k1 k2 hN hn
    go_enter Try.func17, Try.ntmps17
    go_wp2
    go_loopg [5] n (fun g i wr => ∃ k : Nat, g + k = n ∧ i = .int .i64 (k : Int) ∧ Below w.heap.size w wr)
    case atStart => exact ⟨0, rfl, rfl, Below.refl _ _⟩
    case round =>
      obtain ⟨k, hk, rfl, hB⟩ := hrel
      have hkn : k ≤ n := by omega
      have HK := Lib.hid hk
      clear hk
      by_cases hlt : k < n
      · obtain ⟨z, hz1, hz2⟩ : ∃ z : Int, wr.cell? ⟨b1, o1 + k, none⟩ = some (.int .i64 z) ∧ wr.cell? ⟨b2, o2 + k, none⟩ = some (.int .i64 z) :=
          ⟨_, (hB.cell (p := ⟨b1, o1 + k, none⟩) l1).trans (E1.out k hlt), (hB.cell (p := ⟨b2, o2 + k, none⟩) l2).trans (E2.out k hlt)⟩
        have hi : (k : Int) < (n : Int) := by omega
        have hd : decide ((k : Int) < (n : Int)) = true := by simp; omega
        go_wp2
        go_quiet (fail)
        go_wp2
        go_roundg (n - (k + 1))
        case measure => have := HK.out; omega
        case rel => exact ⟨k + 1, by omega, by go_num, drawn_below hB _⟩
      · have hge : n ≤ k := by omega
        clear hlt
        go_wp2
        go_ret
        exact ⟨rfl, hB⟩

/-- A slice of the call's own (its block from base on), of the numbers xs: its cells may be written. -/
def Res (w : World) (base : Nat) (v : Value) (xs : List Int) : Prop :=
  (xs = [] ∧ v = .slice none 0 0) ∨
  ∃ g cap, v = .slice (some ⟨g, 0, none⟩) xs.length cap ∧ base ≤ g ∧ g < w.heap.size ∧ (∀ i, i < xs.length → w.cell? ⟨g, i, none⟩ = some (.int .i64 (xs.getD i 0))) ∧ ∀ i, w.frozen? ⟨g, i, none⟩ = false

theorem Res.nil (w : World) (base : Nat) : Res w base (.slice none 0 0) [] := .inl ⟨rfl, rfl⟩

theorem Res.of_own {w : World} {base : Nat} {v : Value} {xs : List Int} (h : Own w base v xs) : Res w base v xs := by
  rcases h.2 with ⟨rfl, hn⟩ | ⟨g, cap, cur, rfl, hb, hg, _⟩
  · exact .inl ⟨List.eq_nil_of_length_eq_zero hn, rfl⟩
  · exact .inr ⟨g, cap, rfl, hb, (Array.getElem?_eq_some_iff.1 hg).1, fun i hi => h.cell i hi, fun i => h.frozen i⟩

theorem Res.of_blk {w : World} {base g : Nat} {t : TypeId} {xs : List Int} (h : Blk w g t xs) (hb : base ≤ g) (n : Nat) (hn : xs.length = n) : Res w base (.slice (some ⟨g, 0, none⟩) n n) xs := by
  subst hn
  exact .inr ⟨g, _, rfl, hb, h.lt, fun i hi => h.cell i hi, fun i => h.frozen i⟩

theorem Res.rd {w : World} {base : Nat} {v : Value} {xs : List Int} (h : Res w base v xs) : Rd w w.heap.size v xs := by
  rcases h with ⟨rfl, rfl⟩ | ⟨g, cap, rfl, hb, hg, hc, _⟩
  · exact ⟨none, 0, rfl, fun _ => rfl, fun hx => absurd rfl hx⟩
  · exact ⟨_, cap, rfl, (fun h => by cases h), fun _ => ⟨g, 0, rfl, hg, fun i hi => by rw [Nat.zero_add]; exact hc i hi⟩⟩

theorem Res.keep {w w' : World} {base : Nat} {v : Value} {xs : List Int} (h : Res w base v xs) (hs : w.heap.size ≤ w'.heap.size) (hb : ∀ k, v.ownBlock = some k → w'.heap[k]? = w.heap[k]?) : Res w' base v xs := by
  rcases h with h | ⟨g, cap, rfl, h1, hg, hc, hf⟩
  · exact .inl h
  · have e := hb g rfl
    exact .inr ⟨g, cap, rfl, h1, by omega, fun i hi => (World.cell?_of_block (a := ⟨g, i, none⟩) e).trans (hc i hi), fun i => (World.frozen?_of_block (a := ⟨g, i, none⟩) e).trans (hf i)⟩

theorem Res.lt {w : World} {base : Nat} {v : Value} {xs : List Int} (h : Res w base v xs) : ∀ k, v.ownBlock = some k → base ≤ k ∧ k < w.heap.size := by
  intro k hk
  rcases h with ⟨_, rfl⟩ | ⟨g, cap, rfl, h1, hg, _⟩
  · simp [Value.ownBlock] at hk
  · simp [Value.ownBlock] at hk
    subst hk
    exact ⟨h1, hg⟩

theorem Res.below {w w' : World} {base : Nat} {v : Value} {xs : List Int} (h : Res w base v xs) (hb : Below w.heap.size w w') : Res w' base v xs := h.keep hb.size fun k hk => hb.block k (h.lt k hk).2

theorem Res.kept {w w' : World} {base : Nat} {v : Value} {xs : List Int} {row : Option Nat} (h : Res w base v xs) (hg : w.grownBy w' row) (hne : v.ownBlock = none ∨ v.ownBlock ≠ row) : Res w' base v xs :=
  h.keep hg.size fun k hk => hg.block k (h.lt k hk).2 (by
    rcases hne with hn | hn
    · rw [hn] at hk; cases hk
    · rw [← hk]; exact hn)

theorem Res.rd2 {w w' : World} {base : Nat} {v : Value} {xs : List Int} (h : Res w base v xs) (hb : Below w.heap.size w w') : Rd w' w'.heap.size v xs := (h.below hb).rd
theorem Rd.later {w w' : World} {v : Value} {xs : List Int} (h : Rd w w.heap.size v xs) (hb : Below w.heap.size w w') : Rd w' w'.heap.size v xs := (h.below hb).mono hb.size
theorem Own.rd2 {w w' : World} {base : Nat} {v : Value} {xs : List Int} (h : Own w base v xs) (hb : Below w.heap.size w w') : Rd w' w'.heap.size v xs := (h.below hb).rd

/-- Nothing comes back; no block but the row's own has turned. -/
def OverR (v : Value) (w : World) (e : Ending) (w' : World) : Prop := (∃ u, e = .returned u) ∧ w.grownBy w' v.ownBlock

theorem cell_set_some {w : World} {a : Addr} (h : (w.cell? a).isSome = true) (p : Addr) (u : Value) : ((w.setCell p u).cell? a).isSome = true := by
  obtain ⟨x, hx⟩ := Option.isSome_iff_exists.1 h
  obtain ⟨v', hv⟩ := cell?_setCell_some (w := w) (p := p) (x := u) (q := a) (v := x) hx
  rw [hv]
  rfl

set_option maxRecDepth 100000 in
theorem over_any (v : Value) (xs : List Int) (base : Nat) (w : World) (hlen : xs.length ≤ 65536) (h : Res w base v xs) :
    Calls Try.prog 18 #[v] w (OverR v w) := by
  rcases h with ⟨rfl, rfl⟩ | ⟨g, cap, rfl, hb, hg, hc, hf⟩
  · go_enter Try.func18, Try.ntmps18
    go_wp2
    refine wp_loop_rounds 1 ?_
    rw [rounds_succ]
    go_wp2
    go_end0
    exact ⟨⟨_, rfl⟩, World.grownBy.refl _ _⟩
  · have hO : (∀ i, i < xs.length → (w.cell? ⟨g, i, none⟩).isSome = true) ∧ ∀ i, w.frozen? ⟨g, i, none⟩ = false := ⟨fun i hi => by rw [hc i hi]; rfl, hf⟩
    clear hc hf
    generalize xs.length = n at *
    have HO := Lib.hid hO
    clear hO
    go_enter Try.func18, Try.ntmps18
    go_wp2
    go_loopg [2] n (fun gh i wr => ∃ k : Nat, gh + k = n ∧ i = .int .i64 (k : Int) ∧ w.grownBy wr (some g) ∧ (∀ i, i < n → (wr.cell? ⟨g, i, none⟩).isSome = true) ∧ ∀ i, wr.frozen? ⟨g, i, none⟩ = false)
    case atStart => exact ⟨0, rfl, rfl, World.grownBy.refl _ _, HO.out.1, HO.out.2⟩
    case round =>
      obtain ⟨k, hk, rfl, hG, hs, hf⟩ := hrel
      have hkn : k ≤ n := by omega
      have HK := Lib.hid hk
      have HS := Lib.hid hs
      have HF := Lib.hid hf
      clear hk hs hf
      by_cases hlt : k < n
      · obtain ⟨z, hz⟩ := Option.isSome_iff_exists.1 (HS.out k hlt)
        have hf := HF.out k
        have hi : (k : Int) < (n : Int) := by omega
        go_wp2
        go_roundg (n - (k + 1))
        case measure => have := HK.out; omega
        case rel =>
          refine ⟨k + 1, by omega, by go_num, grown_trans hG ⟨rfl, rfl, rfl, by simp [World.setCell], fun j _ hj => heap_setCell_other wr ⟨g, k, none⟩ j _ (fun e => hj (by rw [e]))⟩, fun i hi => ?_, fun i => by rw [World.frozen?_setCell]; exact HF.out i⟩
          exact cell_set_some (HS.out i hi) _ _
      · have hge : n ≤ k := by omega
        clear hlt
        go_wp2
        go_end0
        exact ⟨⟨_, rfl⟩, hG⟩

end Go.Proofs.Ytpdggfjpbdidlaa
