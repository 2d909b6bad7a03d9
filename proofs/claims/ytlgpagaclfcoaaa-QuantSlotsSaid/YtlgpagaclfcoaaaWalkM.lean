/-
  The walk of QuantSlots: it returns true, whatever the arguments. Conditions: none.
-/
import Derived.Test.YtlgpagaclfcoaaaWalkL
import Derived.Deep.RegionHeld3
import Derived.Laws.MakeOwn
namespace Go.Proofs.Ytlgpagaclfcoaaa
open Go.RowKit

/-- The numbers of a list are levels. -/
def Lev (ys : List Int) : Prop := ys.length = 64 ∧ ∀ l ∈ ys, -127 ≤ l ∧ l ≤ 127

theorem Lev.set {ys : List Int} (h : Lev ys) (i : Nat) (z : Int) (h1 : -127 ≤ z) (h2 : z ≤ 127) : Lev (ys.set i z) := by
  refine ⟨by rw [List.length_set]; exact h.1, fun l hl => ?_⟩
  rcases List.mem_or_eq_of_mem_set hl with h3 | rfl
  · exact h.2 l h3
  · exact ⟨h1, h2⟩

theorem Lev.getD {ys : List Int} (h : Lev ys) (i : Nat) (hi : i < 64) : -127 ≤ ys.getD i 0 ∧ ys.getD i 0 ≤ 127 := by
  have hi' : i < ys.length := by rw [h.1]; exact hi
  rw [List.getD_eq_getElem?_getD, List.getElem?_eq_getElem hi']
  exact h.2 _ (List.getElem_mem hi')

theorem Lev.ok {ys : List Int} (h : Lev ys) (q : Int) (h3 : 1 ≤ q) (h4 : q ≤ 31) : allOk ys q := by
  intro l hl
  have := h.2 l hl
  unfold vE
  rw [if_pos ⟨this.1, this.2, h3, h4⟩]

theorem Lev.inter {ys : List Int} (h : Lev ys) (q : Int) (h3 : 1 ≤ q) (h4 : q ≤ 31) : interE ys q = 0 ∧ interL ys q = ys.map (fun l => vT l q) := by
  unfold interE interL
  rw [if_pos h.1, if_pos (h.ok q h3 h4), if_pos ⟨h.1, h.ok q h3 h4⟩]
  exact ⟨rfl, rfl⟩

theorem Lev.intra {ys : List Int} (h : Lev ys) (q c : Int) (h3 : 1 ≤ q) (h4 : q ≤ 31) (hc1 : 1 ≤ c) (hc2 : c ≤ 254) (hc3 : c ≠ 128) :
    intraE ys q c = 0 ∧ intraL ys q c = (ys.map (fun l => vT l q)).set 0 (8 * c) := by
  have e1 : dV c = 8 * c := by unfold dV; rw [if_neg (by omega), if_neg (by omega), if_neg (by omega)]
  have e2 : dE c = 0 := by unfold dE; rw [if_neg (by omega), if_neg (by omega)]
  unfold intraE intraL
  rw [if_pos (h.inter q h3 h4).1, if_pos ⟨(h.inter q h3 h4).1, e2⟩, e1, (h.inter q h3 h4).2]
  exact ⟨e2, rfl⟩

theorem lev_zero : Lev (List.replicate 64 0) := ⟨by simp, fun l hl => by rw [List.eq_of_mem_replicate hl]; omega⟩

/-- Sixty-four noughts. -/
def zeros64 : Array Value := madeCells #[.int .i64 0] 64

theorem own_made (w : World) : Own (w.alloc (.cells zeros64 3)) w.heap.size (.slice (some ⟨w.heap.size, 0, none⟩) 64 64) (List.replicate 64 0) := by
  have h := World.ownsRow_lit (base := w.heap.size) (e := 3) (size := 1) w zeros64 64 (Nat.le_refl _) (by simp [maxLen]) (by unfold zeros64; rw [size_madeCells])
  unfold Own
  unfold zeros64 at h ⊢
  rw [toList_madeCells_one] at h
  rw [List.length_replicate, List.map_replicate]
  exact h

theorem make64 (w : World) : (Instr.makeSlice 35 (.int .i64 64) (.int .i64 64)).run Try.prog w = .ok (.slice (some ⟨w.heap.size, 0, none⟩) 64 64) (w.alloc (.cells zeros64 3)) := by
  obtain ⟨i0, hi, hz0, hz1, hz2⟩ := info_parts int_info
  have hr := run_make (P := Try.prog) w 35 3 i0 (.int .i64 0) Try.underlying35 hi hz0 .i64 .i64 64 64 (by omega) (Int.le_refl _) (by rw [hz2]; omega) (by omega)
  rw [hz1] at hr
  exact hr

theorem vT_good (l q : Int) (h1 : -127 ≤ l) (h2 : l ≤ 127) (h3 : 1 ≤ q) (h4 : q ≤ 31) : vV l q = vT l q := by
  unfold vT
  rw [if_pos ⟨h1, h2, h3, h4⟩]

/-- values, beside three cells that stay. -/
theorem values_keep3 (l q n : Int) (h1 : -127 ≤ l) (h2 : l ≤ 127) (h3 : 1 ≤ q) (h4 : q ≤ 31) (hn : vV l q = n) (w : World) (a b c : Addr) {x y z : Value}
    (ha : w.cell? a = some x) (hb : w.cell? b = some y) (hc : w.cell? c = some z) :
    Calls Try.prog 17 #[.int .i64 l, .int .i64 q, .int .i64 n] w fun e w' => e = .returned (.bool true) ∧ w'.cell? a = some x ∧ w'.cell? b = some y ∧ w'.cell? c = some z ∧ Below w.heap.size w w' := by
  refine (values_yes l q n h1 h2 h3 h4 hn w).mono fun e w' ⟨he, hB⟩ => ⟨he, ?_, ?_, ?_, hB⟩
  · exact (hB.cell (World.block_lt_of_cell? w a ha)).trans ha
  · exact (hB.cell (World.block_lt_of_cell? w b hb)).trans hb
  · exact (hB.cell (World.block_lt_of_cell? w c hc)).trans hc

theorem values_keep2 (l q n : Int) (h1 : -127 ≤ l) (h2 : l ≤ 127) (h3 : 1 ≤ q) (h4 : q ≤ 31) (hn : vV l q = n) (w : World) (a b : Addr) {x y : Value}
    (ha : w.cell? a = some x) (hb : w.cell? b = some y) :
    Calls Try.prog 17 #[.int .i64 l, .int .i64 q, .int .i64 n] w fun e w' => e = .returned (.bool true) ∧ w'.cell? a = some x ∧ w'.cell? b = some y ∧ Below w.heap.size w w' :=
  (values_keep3 l q n h1 h2 h3 h4 hn w a b b ha hb hb).mono fun _ _ ⟨he, h1, h2, _, hB⟩ => ⟨he, h1, h2, hB⟩

set_option maxRecDepth 100000 in
set_option maxHeartbeats 2000000 in
theorem slots_walk (a0 a1 a2 a3 a4 : Int) (w : World) :
    Calls Try.prog 9 #[.int .i64 a0, .int .i64 a1, .int .i64 a2, .int .i64 a3, .int .i64 a4] w fun e w' => e = .returned (.bool true) ∧ Below w.heap.size w w' := by
  go_enter Try.func9, Try.ntmps9
  go_wp2_with fail
  refine (awake_any _).mono ?_
  rintro e w1 ⟨rfl, b1⟩
  go_wp2_with fail
  refine (pick_any _ _ (by omega) (by omega) _).mono ?_
  rintro e w2 ⟨p, ⟨hp1, hp2⟩, rfl, rfl⟩
  go_wp2_with fail
  refine (of_any _ _ _).mono ?_
  rintro e w2 ⟨l, q, ⟨h1, h2, h3, h4⟩, rfl, rfl⟩
  go_wp2_with fail
  refine (of_any _ _ _).mono ?_
  rintro e w2 ⟨o, q2, ⟨k1, k2, _, _⟩, rfl, rfl⟩
  go_wp2_with fail
  refine (pick_any _ _ (by omega) (by omega) _).mono ?_
  rintro e w2 ⟨c, ⟨hc1, hc2⟩, rfl, rfl⟩
  by_cases hc : c = 127
  · subst hc
    go_wp2_with fail
    go_ret
    exact ⟨rfl, b1⟩
  · have hd : (1 + c == 128) = false := by simp; omega
    have hmk := make64
    go_wp2_with fail
    clear hmk hd
    have O1 := own_made w1
    have b2 : Below w.heap.size w (w1.alloc (.cells zeros64 3)) := b1.alloc b1.size _
    have hs1 := b1.size
    obtain ⟨W, hW⟩ : ∃ W, w1.alloc (.cells zeros64 3) = W := ⟨_, rfl⟩
    obtain ⟨g, hg⟩ : ∃ g, w1.heap.size = g := ⟨_, rfl⟩
    rw [hW, hg] at O1 ⊢
    rw [hW] at b2
    rw [hg] at hs1
    clear hW hg b1
    go_loopg [13] 64 (fun gh i wr => ∃ k : Nat, gh + k = 64 ∧ i = .int .i64 (k : Int) ∧ Below w.heap.size w wr ∧ ∃ ys : List Int, Lev ys ∧ Own wr g (.slice (some ⟨g, 0, none⟩) 64 64) ys)
    case atStart => exact ⟨0, rfl, rfl, b2, _, lev_zero, O1⟩
    case round =>
      obtain ⟨k, hk, rfl, hB, ys, hy, hO⟩ := hrel
      have HK := Lib.hid hk
      have hk64 : k ≤ 64 := by omega
      clear hk
      have hO' : Own wr g (.slice (some ⟨g, 0, none⟩) ys.length 64) ys := by rw [hy.1]; exact hO
      by_cases hlt : k < 64
      · obtain ⟨z, hz⟩ : ∃ z : Int, wr.cell? ⟨g, k, none⟩ = some (.int .i64 z) := ⟨_, hO'.cell k (by rw [hy.1]; exact hlt)⟩
        have hf := hO'.frozen k
        have hs := hO'.set k o
        rw [hy.1] at hs
        have HS := Lib.hid hs
        clear hs hO hO'
        have hi : (k : Int) < 64 := by omega
        go_wp2
        go_roundg (63 - k)
        case measure => have := HK.out; omega
        case rel => exact ⟨k + 1, by omega, by go_num, hB.setCell (p := ⟨g, k, none⟩) hs1 _, _, hy.set k o k1 k2, HS.out.1⟩
      · have hge : 64 ≤ k := by omega
        clear hlt
        obtain ⟨P, rfl⟩ : ∃ P : Nat, p = (P : Int) := ⟨p.toNat, by omega⟩
        have hP : P < 64 := by omega
        obtain ⟨z, hz⟩ : ∃ z : Int, wr.cell? ⟨g, P, none⟩ = some (.int .i64 z) := ⟨_, hO'.cell P (by rw [hy.1]; exact hP)⟩
        have hf := hO'.frozen P
        have hs := hO'.set P l
        rw [hy.1] at hs
        obtain ⟨hs1', hs2'⟩ := hs
        have hy2 := hy.set P l h1 h2
        obtain ⟨zs, hzs⟩ : ∃ zs, ys.set P l = zs := ⟨_, rfl⟩
        rw [hzs] at hs1' hy2
        have b3 : Below w.heap.size w (wr.setCell ⟨g, P, none⟩ (.int .i64 l)) := hB.setCell (p := ⟨g, P, none⟩) hs1 _
        have hr3 := hs1'.rd
        obtain ⟨W3, hW3⟩ : ∃ W3, wr.setCell ⟨g, P, none⟩ (.int .i64 l) = W3 := ⟨_, rfl⟩
        have HW3 := Lib.hid hW3
        rw [hW3] at hs1' hr3 b3
        clear hO hO' hzs hy hs2' hW3 hB O1 b2
        go_wp2_with fail
        rw [HW3.out]
        clear HW3 hz hf
        refine (Inter_any _ zs q _ hr3).mono ?_
        rintro e W4 ⟨va, rfl, Oa, b4⟩
        rw [(hy2.inter q h3 h4).1]
        rw [(hy2.inter q h3 h4).2] at Oa
        go_wp2_with fail
        refine (Intra_any _ zs q (1 + c) _ (hr3.later b4)).mono ?_
        rintro e W5 ⟨vb, rfl, Ob, b5⟩
        have hq2 := hy2.intra q (1 + c) h3 h4 (by omega) (by omega) (by omega)
        rw [hq2.1]
        rw [hq2.2] at Ob
        clear hq2
        have Ol := hs1'.below (bt b4 b5)
        have Oa5 := Oa.below b5
        have B5 := bt b3 (bt b4 b5)
        have hla : (zs.map (fun l => vT l q)).length = 64 := by rw [List.length_map]; exact hy2.1
        have hlb : ((zs.map (fun l => vT l q)).set 0 (8 * (1 + c))).length = 64 := by rw [List.length_set]; exact hla
        obtain ⟨ga, ca, rfl, _, lga⟩ := Oa5.form (by intro e; rw [e] at hla; simp at hla)
        obtain ⟨gb, cb, rfl, _, lgb⟩ := Ob.form (by intro e; rw [e] at hlb; simp at hlb)
        have E1 : Hid (∀ i, i < 64 → W5.cell? ⟨g, i, none⟩ = some (.int .i64 (zs.getD i 0))) := Lib.hid (fun i hi => by
          have h : Own W5 g (.slice (some ⟨g, 0, none⟩) zs.length 64) zs := by rw [hy2.1]; exact Ol
          exact h.cell i (by rw [hy2.1]; exact hi))
        have E2 : Hid (∀ i, i < 64 → W5.cell? ⟨ga, i, none⟩ = some (.int .i64 (vT (zs.getD i 0) q))) := Lib.hid (fun i hi => by
          rw [Oa5.cell i (by rw [hla]; exact hi)]
          congr 2
          rw [List.getD_eq_getElem?_getD, List.getElem?_map, List.getD_eq_getElem?_getD, List.getElem?_eq_getElem (by rw [hy2.1]; exact hi)]
          rfl)
        have E3 : Hid (∀ i, 0 < i → i < 64 → W5.cell? ⟨gb, i, none⟩ = some (.int .i64 (vT (zs.getD i 0) q))) := Lib.hid (fun i h0 hi => by
          rw [Ob.cell i (by rw [hlb]; exact hi)]
          congr 2
          rw [List.getD_eq_getElem?_getD, List.getElem?_set_ne (by omega), List.getElem?_map, List.getD_eq_getElem?_getD, List.getElem?_eq_getElem (by rw [hy2.1]; exact hi)]
          rfl)
        have E4 : Hid (W5.cell? ⟨gb, 0, none⟩ = some (.int .i64 (8 * (1 + c)))) := Lib.hid (by
          rw [Ob.cell 0 (by rw [hlb]; omega)]
          congr 2
          rw [List.getD_eq_getElem?_getD, List.getElem?_set_self (by rw [hla]; omega)]
          rfl)
        have lg : g < W5.heap.size := by
          obtain ⟨g', c', hv, _, hlt⟩ := Ol.form (by intro e; rw [e] at hy2; simp [Lev] at hy2)
          injection hv with e1
          injection e1 with e1
          injection e1 with e1
          rw [e1]
          exact hlt
        rw [hla, hlb]
        have HY := Lib.hid hy2
        clear hla hlb hs1' hr3 Oa b4 b5 Oa5 Ob Ol hy2 b3
        go_wp2_with fail
        go_loopg [18] 64 (fun gh i wr => ∃ k : Nat, gh + k = 64 ∧ i = .int .i64 (k : Int) ∧ Below W5.heap.size W5 wr)
        case atStart => exact ⟨0, rfl, rfl, Below.refl _ _⟩
        case round =>
          obtain ⟨j, hj, rfl, hB⟩ := hrel
          have HJ := Lib.hid hj
          have hj64 : j ≤ 64 := by omega
          clear hj
          by_cases hlt : j < 64
          · obtain ⟨z, hz⟩ : ∃ z, zs.getD j 0 = z := ⟨_, rfl⟩
            have hzb := HY.out.getD j hlt
            rw [hz] at hzb
            obtain ⟨hz1, hz2⟩ := hzb
            have c1 : wr.cell? ⟨g, j, none⟩ = some (.int .i64 z) := by rw [← hz]; exact (hB.cell (p := ⟨g, j, none⟩) lg).trans (E1.out j hlt)
            have c2 : wr.cell? ⟨ga, j, none⟩ = some (.int .i64 (vT z q)) := by rw [← hz]; exact (hB.cell (p := ⟨ga, j, none⟩) lga).trans (E2.out j hlt)
            have hi0 : (0 : Int) ≤ (j : Int) := Int.natCast_nonneg _
            have hi1 : (j : Int) < 64 := by omega
            have hd : decide ((j : Int) < 64) = true := by simp; omega
            rcases (by omega : j = 0 ∨ 0 < j) with h0 | h0
            · subst h0
              clear hz
              rw [show ((0 : Nat) : Int) = (0 : Int) from rfl]
              rw [show ((0 : Nat) : Int) = (0 : Int) from rfl] at hi0 hi1 hd
              go_wp2_with fail
              refine wp_region_held_drew (S := fun w' => w'.cell? ⟨g, 0, none⟩ = some (.int .i64 z) ∧ w'.cell? ⟨ga, 0, none⟩ = some (.int .i64 (vT z q))) (by kernel_rfl) ⟨c1, c2⟩ (fun hHeld => ?_)
              refine wpAnyH_take (i := 0) (oi := _) (v := ?_) rfl (by kernel_rfl) (by kernel_rfl) (by kernel_rfl) (fun _ _ _ h => h) (Or.inl ⟨by kernel_rfl, ?_⟩) (by assumption) ?_
              rotate_left
              · rintro w0 ⟨d1, d2⟩
                first | (go_simp; done) | (go_simp; with_reducible rfl)
              refine wpAnyH_take (i := 1) (oi := _) (v := ?_) rfl (by kernel_rfl) (by kernel_rfl) (by kernel_rfl) (fun _ _ _ h => h) (Or.inl ⟨by kernel_rfl, ?_⟩) (by assumption) ?_
              rotate_left
              · rintro w0 ⟨d1, d2⟩
                first | (go_simp; done) | (go_simp; with_reducible rfl)
              refine wpAnyH_take (i := 2) (oi := _) (v := ?_) rfl (by kernel_rfl) (by kernel_rfl) (by kernel_rfl) (fun _ _ _ h => h) (Or.inl ⟨by kernel_rfl, ?_⟩) (by assumption) ?_
              rotate_left
              · rintro w0 ⟨d1, d2⟩
                first | (go_simp; done) | (go_simp; with_reducible rfl)
              refine wpAnyH_take (i := 3) (oi := _) (v := ?_) rfl (by kernel_rfl) (by kernel_rfl) (by kernel_rfl) (fun _ _ _ h => h) (Or.inl ⟨by kernel_rfl, ?_⟩) (by assumption) ?_
              rotate_left
              · rintro w0 ⟨d1, d2⟩
                first | (go_simp; done) | (go_simp; with_reducible rfl)
              refine wpAnyH_take (i := 4) (oi := _) (v := ?_) rfl (by kernel_rfl) (by kernel_rfl) (by kernel_rfl) (fun _ _ _ h => h) (Or.inl ⟨by kernel_rfl, ?_⟩) (by assumption) ?_
              rotate_left
              · rintro w0 ⟨d1, d2⟩
                first | (go_simp; done) | (go_simp; with_reducible rfl)
              refine wpAnyH_take (i := 5) (oi := _) (v := ?_) rfl (by kernel_rfl) (by kernel_rfl) (by kernel_rfl) (fun _ _ _ h => h) (Or.inl ⟨by kernel_rfl, ?_⟩) (by assumption) ?_
              rotate_left
              · rintro w0 ⟨d1, d2⟩
                first | (go_simp; done) | (go_simp; with_reducible rfl)
              refine wpAnyH_take (i := 6) (oi := _) (v := ?_) rfl (by kernel_rfl) (by kernel_rfl) (by kernel_rfl) (fun _ _ _ h => h) (Or.inl ⟨by kernel_rfl, ?_⟩) (by assumption) ?_
              rotate_left
              · rintro w0 ⟨d1, d2⟩
                first | (go_simp; done) | (go_simp; with_reducible rfl)
              refine wpAnyH_take (i := 7) (oi := _) (v := ?_) rfl (by kernel_rfl) (by kernel_rfl) (by kernel_rfl) (fun _ _ _ h => h) (Or.inl ⟨by kernel_rfl, ?_⟩) (by assumption) ?_
              rotate_left
              · rintro w0 ⟨d1, d2⟩
                first | (go_simp; done) | (go_simp; with_reducible rfl)
              refine wpAnyH_take (i := 8) (oi := _) (v := ?_) rfl (by kernel_rfl) (by kernel_rfl) (by kernel_rfl) (fun _ _ _ h => h) (Or.inl ⟨by kernel_rfl, ?_⟩) (by assumption) ?_
              rotate_left
              · rintro w0 ⟨d1, d2⟩
                first | (go_simp; done) | (go_simp; with_reducible rfl)
              simp only [Act.put, List.getElem_toArray, List.getElem_cons_succ, List.getElem_cons_zero, List.setIfInBounds_toArray, List.set_cons_zero, List.set_cons_succ]
              refine wpAnyH_ready (rs := [9]) (by kernel_rfl) (by simp) ?_
              refine AllReadyH.cons (o := _) rfl (fun K hK => ?_) AllReadyH.nil
              go_simp
              refine (values_keep2 z q (vT z q) hz1 hz2 h3 h4 (vT_good z q hz1 hz2 h3 h4) wr.drew ⟨g, 0, none⟩ ⟨ga, 0, none⟩ c1 c2).mono ?_
              rintro e w' ⟨rfl, c1', c2', hb'⟩
              refine hK.out _ _ ⟨c1', c2'⟩ (fun hHeld2 => ?_)
              clear hK K
              refine wpAnyH_take (i := 10) (oi := _) (v := ?_) rfl (by kernel_rfl) (by kernel_rfl) (by kernel_rfl) (fun _ _ _ h => h) (Or.inl ⟨by kernel_rfl, ?_⟩) (by assumption) ?_
              rotate_left
              · rintro w0 ⟨d1, d2⟩
                first | (go_simp; done) | (go_simp; with_reducible rfl)
              refine wpAnyH_take (i := 11) (oi := _) (v := ?_) rfl (by kernel_rfl) (by kernel_rfl) (by kernel_rfl) (fun _ _ _ h => h) (Or.inl ⟨by kernel_rfl, ?_⟩) (by assumption) ?_
              rotate_left
              · rintro w0 ⟨d1, d2⟩
                first | (go_simp; done) | (go_simp; with_reducible rfl)
              refine wpAnyH_take (i := 12) (oi := _) (v := ?_) rfl (by kernel_rfl) (by kernel_rfl) (by kernel_rfl) (fun _ _ _ h => h) (Or.inl ⟨by kernel_rfl, ?_⟩) (by assumption) ?_
              rotate_left
              · rintro w0 ⟨d1, d2⟩
                first | (go_simp; done) | (go_simp; with_reducible rfl)
              refine wpAnyH_take (i := 13) (oi := _) (v := ?_) rfl (by kernel_rfl) (by kernel_rfl) (by kernel_rfl) (fun _ _ _ h => h) (Or.inl ⟨by kernel_rfl, ?_⟩) (by assumption) ?_
              rotate_left
              · rintro w0 ⟨d1, d2⟩
                first | (go_simp; done) | (go_simp; with_reducible rfl)
              refine wpAnyH_take (i := 14) (oi := _) (v := ?_) rfl (by kernel_rfl) (by kernel_rfl) (by kernel_rfl) (fun _ _ _ h => h) (Or.inl ⟨by kernel_rfl, ?_⟩) (by assumption) ?_
              rotate_left
              · rintro w0 ⟨d1, d2⟩
                first | (go_simp; done) | (go_simp; with_reducible rfl)
              simp only [Act.put, List.getElem_toArray, List.getElem_cons_succ, List.getElem_cons_zero, List.setIfInBounds_toArray, List.set_cons_zero, List.set_cons_succ]
              refine wpAnyH_take (i := 15) (oi := _) (v := undef) rfl (by kernel_rfl) (by kernel_rfl) (by kernel_rfl) (fun _ _ _ h => h) (Or.inr ⟨by kernel_rfl, rfl⟩) (by assumption) ?_
              refine wpAnyH_take (i := 16) (oi := _) (v := undef) rfl (by kernel_rfl) (by kernel_rfl) (by kernel_rfl) (fun _ _ _ h => h) (Or.inr ⟨by kernel_rfl, rfl⟩) (by assumption) ?_
              refine wpAnyH_take (i := 17) (oi := _) (v := undef) rfl (by kernel_rfl) (by kernel_rfl) (by kernel_rfl) (fun _ _ _ h => h) (Or.inr ⟨by kernel_rfl, rfl⟩) (by assumption) ?_
              refine wpAnyH_take (i := 18) (oi := _) (v := undef) rfl (by kernel_rfl) (by kernel_rfl) (by kernel_rfl) (fun _ _ _ h => h) (Or.inr ⟨by kernel_rfl, rfl⟩) (by assumption) ?_
              refine wpAnyH_take (i := 19) (oi := _) (v := undef) rfl (by kernel_rfl) (by kernel_rfl) (by kernel_rfl) (fun _ _ _ h => h) (Or.inr ⟨by kernel_rfl, rfl⟩) (by assumption) ?_
              refine wpAnyH_take (i := 20) (oi := _) (v := undef) rfl (by kernel_rfl) (by kernel_rfl) (by kernel_rfl) (fun _ _ _ h => h) (Or.inr ⟨by kernel_rfl, rfl⟩) (by assumption) ?_
              refine wpAnyH_take (i := 21) (oi := _) (v := undef) rfl (by kernel_rfl) (by kernel_rfl) (by kernel_rfl) (fun _ _ _ h => h) (Or.inr ⟨by kernel_rfl, rfl⟩) (by assumption) ?_
              refine wpAnyH_take (i := 22) (oi := _) (v := undef) rfl (by kernel_rfl) (by kernel_rfl) (by kernel_rfl) (fun _ _ _ h => h) (Or.inr ⟨by kernel_rfl, rfl⟩) (by assumption) ?_
              refine wpAnyH_take (i := 23) (oi := _) (v := undef) rfl (by kernel_rfl) (by kernel_rfl) (by kernel_rfl) (fun _ _ _ h => h) (Or.inr ⟨by kernel_rfl, rfl⟩) (by assumption) ?_
              refine wpAnyH_take (i := 24) (oi := _) (v := ?_) rfl (by kernel_rfl) (by kernel_rfl) (by kernel_rfl) (fun _ _ _ h => h) (Or.inl ⟨by kernel_rfl, ?_⟩) (by assumption) ?_
              rotate_left
              · rintro w0 ⟨d1, d2⟩
                first | (go_simp; done) | (go_simp; with_reducible rfl)
              refine wpAnyH_take (i := 25) (oi := _) (v := ?_) rfl (by kernel_rfl) (by kernel_rfl) (by kernel_rfl) (fun _ _ _ h => h) (Or.inl ⟨by kernel_rfl, ?_⟩) (by assumption) ?_
              rotate_left
              · rintro w0 ⟨d1, d2⟩
                first | (go_simp; done) | (go_simp; with_reducible rfl)
              refine wpAnyH_done (by kernel_rfl) ?_ _
              simp only [Act.put, List.getElem_toArray, List.getElem_cons_succ, List.getElem_cons_zero, List.setIfInBounds_toArray, List.set_cons_zero, List.set_cons_succ]
              clear hHeld hHeld2
              go_wp2_with fail
              go_roundg 63
              case measure => have := HJ.out; omega
              case rel => exact ⟨1, by omega, rfl, bt hB.drew hb'⟩
            · have c3 : wr.cell? ⟨gb, j, none⟩ = some (.int .i64 (vT z q)) := by rw [← hz]; exact (hB.cell (p := ⟨gb, j, none⟩) lgb).trans (E3.out j h0 hlt)
              have hd2 : decide ((0 : Int) < (j : Int)) = true := by simp; omega
              clear hz
              go_wp2_with fail
              go_region_held3 (fun w' => w'.cell? ⟨g, j, none⟩ = some (.int .i64 z) ∧ w'.cell? ⟨ga, j, none⟩ = some (.int .i64 (vT z q)) ∧ w'.cell? ⟨gb, j, none⟩ = some (.int .i64 (vT z q)))
                (go_keep)
                (first | (go_at_call 17; go_must (refine (values_keep3 z q (vT z q) hz1 hz2 h3 h4 (vT_good z q hz1 hz2 h3 h4) wr.drew ⟨g, j, none⟩ ⟨ga, j, none⟩ ⟨gb, j, none⟩ c1 c2 c3).mono ?_); rintro e w' ⟨rfl, c1', c2', c3', hb'⟩))
              go_wp2_with fail
              go_roundg (63 - j)
              case measure => have := HJ.out; omega
              case rel => exact ⟨j + 1, by omega, by go_num, bt hB.drew hb'⟩
          · have hge2 : 64 ≤ j := by omega
            clear hlt
            have c4 : wr.cell? ⟨gb, 0, none⟩ = some (.int .i64 (8 * (1 + c))) := (hB.cell (p := ⟨gb, 0, none⟩) lgb).trans E4.out
            go_wp2
            go_ret
            exact ⟨rfl, bt B5 hB⟩

end Go.Proofs.Ytlgpagaclfcoaaa
