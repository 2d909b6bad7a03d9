/-
  The walk of CosineKnown. Conditions: none.
-/
import Derived.Test.YtpdggfjpbdidlaaWalkK
namespace Go.Proofs.Ytpdggfjpbdidlaa
open Go.RowKit

theorem line_good (v : Value) (xs : List Int) (w : World) (h : Rd w w.heap.size v xs) (h8 : Eight 1099511627776 xs) : Calls Try.prog 19 #[v] w fun e w' =>
    ∃ u, e = .returned (.tuple #[u, .int .i64 0]) ∧ Res w' w.heap.size u (lineL xs) ∧ Below w.heap.size w w' := by
  refine (Line_any v xs w h).mono ?_
  rintro e w' ⟨u, rfl, hr, hB⟩
  have he := lineE_good h8
  rw [he.2] at hr
  rw [he.1]
  exact ⟨u, rfl, hr, hB⟩

theorem alloc_below (w : World) (o : Obj) : Below w.heap.size w (w.alloc o) := (Below.refl _ w).alloc (Nat.le_refl _) _
theorem rd_lit (w : World) (xs : List Int) (n : Nat) (hn : xs.length = n) : Rd (w.alloc (.cells (cel xs) 3)) (w.alloc (.cells (cel xs) 3)).heap.size (.slice (some ⟨w.heap.size, 0, none⟩) n n) xs :=
  (Res.of_blk (Blk.new w 3 xs) (Nat.le_refl _) n hn).rd

theorem line_lit (xs : List Int) (h8 : Eight 1099511627776 xs) (ys : List Int) (hy : lineL xs = ys) (w : World) : Calls Try.prog 19 #[.slice (some ⟨w.heap.size, 0, none⟩) 8 8] (w.alloc (.cells (cel xs) 3)) fun e w' =>
    ∃ u, e = .returned (.tuple #[u, .int .i64 0]) ∧ Res w' w.heap.size u ys ∧ Below w.heap.size w w' := by
  subst hy
  refine (line_good _ xs _ (rd_lit w xs 8 h8.1) h8).mono ?_
  rintro e w' ⟨u, rfl, hr, hB⟩
  refine ⟨u, rfl, ?_, bt (alloc_below w _) hB⟩
  rcases hr with hr | ⟨g, cap, h1, h2, h3⟩
  · exact .inl hr
  · exact .inr ⟨g, cap, h1, by have : w.heap.size ≤ (w.alloc (.cells (cel xs) 3)).heap.size := (alloc_below w _).size; omega, h3⟩

theorem inv_short (xs : List Int) (n : Nat) (hn : xs.length = n) (h : n ≠ 64) (w : World) : Calls Try.prog 11 #[.slice (some ⟨w.heap.size, 0, none⟩) n n] (w.alloc (.cells (cel xs) 3)) fun e w' =>
    ∃ u, e = .returned (.tuple #[u, .int .i64 2]) ∧ Below w.heap.size w w' := by
  refine (Inverse_any _ xs _ (rd_lit w xs n hn)).mono ?_
  rintro e w' ⟨u, rfl, _, hB⟩
  rw [(invE_len (by omega)).1]
  exact ⟨u, rfl, bt (alloc_below w _) hB⟩

theorem inv_great (w : World) : Calls Try.prog 11 #[.slice (some ⟨w.heap.size, 0, none⟩) 64 64] (w.alloc (.cells (zeros64.setIfInBounds 0 (.int .i64 2048)) 3)) fun e w' =>
    ∃ u, e = .returned (.tuple #[u, .int .i64 3]) ∧ Below w.heap.size w w' := by
  refine (Inverse_any _ (oneL 2048) _ ((own_one 2048 w).rd2 (Below.refl _ _))).mono ?_
  rintro e w' ⟨u, rfl, _, hB⟩
  rw [(invE_bad (oneL_len 2048) (k := 0) (by omega) (.inr (by decide))).1]
  exact ⟨u, rfl, bt (alloc_below w _) hB⟩

theorem same_lit (u : Value) (ys : List Int) (n : Nat) (hn : ys.length = n) (hm : n ≤ 65536) (w : World) (h : Rd w w.heap.size u ys) : Calls Try.prog 17 #[u, .slice (some ⟨w.heap.size, 0, none⟩) n n] (w.alloc (.cells (cel ys) 3)) fun e w' =>
    e = .returned (.bool true) ∧ Below w.heap.size w w' := by
  refine (same_any u _ ys _ (by omega) (h.later (alloc_below w _)) (rd_lit w ys n hn)).mono ?_
  rintro e w' ⟨rfl, hB⟩
  exact ⟨rfl, bt (alloc_below w _) hB⟩

theorem fresh_cell (w : World) : (w.alloc (.cells zeros64 3)).cell? ⟨w.heap.size, 0, none⟩ = some (.int .i64 0) := by
  have := (own_made w).cell 0 (by simp)
  simpa using this
theorem fresh_frozen (w : World) : (w.alloc (.cells zeros64 3)).frozen? ⟨w.heap.size, 0, none⟩ = false := (own_made w).frozen 0

set_option maxRecDepth 100000 in
set_option maxHeartbeats 8000000 in
theorem known_true (w : World) : Calls Try.prog 8 #[] w (fun e w' => e = .returned (.bool true) ∧ Below w.heap.size w w') := by
  have L1 := Lib.hid (line_lit [1, 0, 0, 0, 0, 0, 0, 0] ⟨rfl, by decide⟩ [1448, 1448, 1448, 1448, 1448, 1448, 1448, 1448] (by decide))
  have L2 := Lib.hid (line_lit [0, 1, 0, 0, 0, 0, 0, 0] ⟨rfl, by decide⟩ [2009, 1703, 1138, 400, -400, -1138, -1703, -2009] (by decide))
  have I1 := Lib.hid (inv_short [1, 2, 3] 3 rfl (by omega))
  have I2 := Lib.hid inv_great
  have W1 := Lib.hid (weighs_good 0 5 (by omega) (by omega) 1448 (by decide))
  have W2 := Lib.hid (weighs_good 1 7 (by omega) (by omega) (-2009) (by decide))
  have W3 := Lib.hid (weighs_good 4 1 (by omega) (by omega) (-1448) (by decide))
  have hmk := make64
  have hfc := fresh_cell
  have hff := fresh_frozen
  go_enter Try.func8, Try.ntmps8
  go_wp2_with (first
    | (go_at_call 23; refine (flat_good 0 0 (by omega) (by omega) (by decide) w13).mono ?_; rintro e w14 ⟨rfl, b14⟩)
    | (go_at_call 23; refine (flat_good (-8) (-1) (by omega) (by omega) (by decide) w12).mono ?_; rintro e w13 ⟨rfl, b13⟩)
    | (go_at_call 23; refine (flat_good 2032 254 (by omega) (by omega) (by decide) w11).mono ?_; rintro e w12 ⟨rfl, b12⟩)
    | (go_at_call 14; refine (awake_true w10).mono ?_; rintro e w11 ⟨rfl, b11⟩)
    | (go_at_call 17; refine (same_lit _ [2009, 1703, 1138, 400, -400, -1138, -1703, -2009] 8 rfl (by omega) w9 (r2.out.rd2 (bt (bt (bt (bt (bt (bt (bt b3 b4) b5) b6) b7) b8) b9) (Below.refl _ _)))).mono ?_; rintro e w10 ⟨rfl, b10⟩)
    | (go_at_call 17; refine (same_lit _ [1448, 1448, 1448, 1448, 1448, 1448, 1448, 1448] 8 rfl (by omega) w8 (r1.out.rd2 (bt (bt (bt (bt (bt (bt b2 b3) b4) b5) b6) b7) b8))).mono ?_; rintro e w9 ⟨rfl, b9⟩)
    | (go_at_call 22; refine (weighs_bad w7).mono ?_; rintro e w8 ⟨rfl, b8⟩)
    | (go_at_call 22; refine (W3.out w6).mono ?_; rintro e w7 ⟨rfl, b7⟩)
    | (go_at_call 22; refine (W2.out w5).mono ?_; rintro e w6 ⟨rfl, b6⟩)
    | (go_at_call 22; refine (W1.out w4).mono ?_; rintro e w5 ⟨rfl, b5⟩)
    | (go_at_call 11; refine (I2.out w3).mono ?_; rintro e w4 ⟨v4, rfl, b4⟩)
    | (go_at_call 11; refine (I1.out w2).mono ?_; rintro e w3 ⟨v3, rfl, b3⟩)
    | (go_at_call 19; refine (L2.out w1).mono ?_; rintro e w2 ⟨v2, rfl, r2', b2⟩; have r2 := Lib.hid r2'; clear r2')
    | (go_at_call 19; refine (L1.out w).mono ?_; rintro e w1 ⟨v1, rfl, r1', b1⟩; have r1 := Lib.hid r1'; clear r1'))
  go_ret
  exact ⟨rfl, bt (bt (bt (bt (bt (bt (bt (bt (bt (bt (bt (bt (bt b1 b2) b3) b4) b5) b6) b7) b8) b9) b10) b11) b12) b13) b14⟩

end Go.Proofs.Ytpdggfjpbdidlaa
