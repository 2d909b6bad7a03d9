/-
  The walk of Nearest: it returns the best level that nearL finds. Conditions: those that each theorem names.
-/
import Derived.Test.YtlgpagaclfcoaaaWalkB
import Derived.Deep.LoopGhost
namespace Go.Proofs.Ytlgpagaclfcoaaa
open Go.RowKit

theorem far_any (l q v : Int) (h1 : -127 ≤ l) (h2 : l ≤ 127) (h3 : 1 ≤ q) (h4 : q ≤ 31) (hv1 : -2048 ≤ v) (hv2 : v ≤ 2047) (bq bt : Nat) (w : World)
    (hbt : bt < w.heap.size)
    (hq : w.cell? ⟨bq, 0, none⟩ = some (.int .i64 q)) (ht : w.cell? ⟨bt, 0, none⟩ = some (.int .i64 v)) :
    Calls Try.prog 34 #[.int .i64 l, .pointer (some ⟨bq, 0, none⟩), .pointer (some ⟨bt, 0, none⟩)] w fun e w' => e = .returned (.int .i64 (farS l q v)) ∧ Below w.heap.size w w' := by
  have hb := vV_bd l q h1 h2 h3 h4
  obtain ⟨hb1, hb2⟩ := hb
  go_enter Try.func34, Try.ntmps34
  go_wp2_with (go_at_call 10; refine (Value_good l q h1 h2 h3 h4 _).mono ?_; rintro e w' ⟨rfl, hb⟩; have ht' : w'.cell? ⟨bt, 0, none⟩ = some (.int .i64 v) := (hb.cell (p := ⟨bt, 0, none⟩) hbt).trans ht)
  all_goals
    go_ret
    exact ⟨ret_int (by unfold farS; omega), hb⟩


theorem Nearest_bad (v q : Int) (h : v < -2048 ∨ 2047 < v ∨ q < 1 ∨ 31 < q) (w : World) :
    Calls Try.prog 14 #[.int .i64 v, .int .i64 q] w fun e w' => e = .returned (.tuple #[.int .i64 0, .int .i64 3]) ∧ Below w.heap.size w w' := by
  by_cases h1 : -2048 ≤ v ∧ v ≤ 2047
  · have hA := inB_yes h1.1 h1.2
    have hB : inB q 1 31 = false := inB_no (by omega)
    clear h h1
    go_enter Try.func14, Try.ntmps14
    go_wp2_with (go_at_call 29; refine (within_any _ _ _ _).mono ?_; rintro e w' ⟨rfl, rfl⟩)
    go_ret2
    exact ⟨rfl, by repeat (first | exact Below.refl _ _ | refine Below.alloc ?_ (by simp) _)⟩
  · have hA : inB v (-2048) 2047 = false := inB_no (by omega)
    clear h h1
    go_enter Try.func14, Try.ntmps14
    go_wp2_with (go_at_call 29; refine (within_any _ _ _ _).mono ?_; rintro e w' ⟨rfl, rfl⟩)
    go_ret2
    exact ⟨rfl, by repeat (first | exact Below.refl _ _ | refine Below.alloc ?_ (by simp) _)⟩

/-- The two boxed numbers of Nearest lie at n and n + 1; nothing below n has turned since w. -/
def FarW (n : Nat) (q v : Int) (w wr : World) : Prop :=
  n + 2 ≤ wr.heap.size ∧ wr.cell? ⟨n + 1, 0, none⟩ = some (.int .i64 q) ∧ wr.cell? ⟨n, 0, none⟩ = some (.int .i64 v) ∧ Below n w wr

theorem far_at (l q v : Int) (h1 : -127 ≤ l) (h2 : l ≤ 127) (h3 : 1 ≤ q) (h4 : q ≤ 31) (hv1 : -2048 ≤ v) (hv2 : v ≤ 2047) (n : Nat) (w wr : World) (h : FarW n q v w wr) :
    Calls Try.prog 34 #[.int .i64 l, .pointer (some ⟨n + 1, 0, none⟩), .pointer (some ⟨n, 0, none⟩)] wr fun e w' => e = .returned (.int .i64 (farS l q v)) ∧ FarW n q v w w' := by
  obtain ⟨hs, hq, ht, hb⟩ := h
  refine (far_any l q v h1 h2 h3 h4 hv1 hv2 (n + 1) n wr (by omega) hq ht).mono ?_
  rintro e w' ⟨he, hB⟩
  exact ⟨he, by have := hB.size; omega, (hB.cell (p := ⟨n + 1, 0, none⟩) (by show n + 1 < _; omega)).trans hq, (hB.cell (p := ⟨n, 0, none⟩) (by show n < _; omega)).trans ht,
    hb.trans (hB.mono (by omega))⟩

theorem step_bd (q v b l : Int) (hb1 : -127 ≤ b) (hb2 : b ≤ 127) (h1 : -127 ≤ l) (h2 : l ≤ 127) : -127 ≤ stepN q v b l ∧ stepN q v b l ≤ 127 := by
  rcases step_or q v b l with h | h <;> rw [h] <;> omega

theorem index2_0 (a b : Value) (w : World) : (Instr.index 47 (.agg #[a, b]) (.int .i64 0)).run Try.prog w = .ok a w := by kernel_rfl
theorem index2_1 (a b : Value) (w : World) : (Instr.index 47 (.agg #[a, b]) (.int .i64 1)).run Try.prog w = .ok b w := by kernel_rfl

/-- What the inner loop has found behind i rounds. -/
def innL (q v b m : Int) : Nat → Int
  | 0 => b
  | 1 => stepN q v b m
  | _ => stepN q v (stepN q v b m) (-m)

theorem innL_bd (q v b m : Int) (h1 : -127 ≤ b) (h2 : b ≤ 127) (h3 : -127 ≤ m) (h4 : m ≤ 127) : ∀ i : Nat, -127 ≤ innL q v b m i ∧ innL q v b m i ≤ 127
  | 0 => ⟨h1, h2⟩
  | 1 => step_bd q v b m h1 h2 h3 h4
  | _ + 2 => step_bd q v _ (-m) (step_bd q v b m h1 h2 h3 h4).1 (step_bd q v b m h1 h2 h3 h4).2 (by omega) (by omega)

set_option maxRecDepth 100000 in
set_option maxHeartbeats 1000000 in
theorem Nearest_good (v q : Int) (hv1 : -2048 ≤ v) (hv2 : v ≤ 2047) (h3 : 1 ≤ q) (h4 : q ≤ 31) (w : World) :
    Calls Try.prog 14 #[.int .i64 v, .int .i64 q] w fun e w' => e = .returned (.tuple #[.int .i64 (nearL q v 127), .int .i64 0]) ∧ Below w.heap.size w w' := by
  have hA := inB_yes hv1 hv2
  have hB := inB_yes h3 h4
  go_enter Try.func14, Try.ntmps14
  go_wp2_with (go_at_call 29; refine (within_any _ _ _ _).mono ?_; rintro e w' ⟨rfl, rfl⟩)
  clear hA hB
  go_loopg [7, 8] 127 (fun g best m wr => ∃ k : Nat, g + k = 127 ∧ best = .int .i64 (nearL q v k) ∧ m = .int .i64 ((k : Int) + 1) ∧ FarW w.heap.size q v w wr)
  case atStart => exact ⟨0, rfl, rfl, rfl, by simp, by go_simp, by go_simp, by repeat (first | exact Below.refl _ _ | refine Below.alloc ?_ (by simp) _)⟩
  case round =>
    obtain ⟨k, hk, rfl, rfl, hF⟩ := hrel
    have hbd := nearL_bd q v k
    obtain ⟨hb1, hb2⟩ := hbd
    have hk1 : k ≤ 127 := by omega
    have HK := Lib.hid hk
    clear hk
    by_cases hlt : k < 127
    · have hd0 : decide ((k : Int) + 1 ≤ 127) = true := by simp; omega
      go_wp2_with fail
      obtain ⟨wo, rfl⟩ : ∃ wo : World, wo = wr := ⟨_, rfl⟩
      go_loopg [7, 28] 2 (fun g best j wr => ∃ i : Nat, g + i = 2 ∧ best = .int .i64 (innL q v (nearL q v k) ((k : Int) + 1) i) ∧ j = .int .i64 (i : Int) ∧ FarW w.heap.size q v w wr)
      case atStart => exact ⟨0, rfl, rfl, rfl, hF⟩
      case round =>
        clear hF
        obtain ⟨i, hi, rfl, rfl, hF⟩ := hrel
        rcases (by omega : i = 0 ∨ i = 1 ∨ i = 2) with rfl | rfl | rfl
        · have HI := Lib.hid hi
          clear hi
          have i0 := index2_0 (.int .i64 ((k : Int) + 1)) (.int .i64 (-((k : Int) + 1)))
          have hn := innL_bd q v (nearL q v k) ((k : Int) + 1) (by omega) (by omega) (by omega) (by omega) 0
          obtain ⟨hn1, hn2⟩ := hn
          go_wp2_with fail
          refine (far_at ((k : Int) + 1) q v (by omega) (by omega) h3 h4 hv1 hv2 w.heap.size w wr hF).mono ?_
          rintro e w1 ⟨rfl, hF1⟩
          clear hF i0
          go_wp2_with fail
          refine (far_at (innL q v (nearL q v k) ((k : Int) + 1) 0) q v (by omega) (by omega) h3 h4 hv1 hv2 w.heap.size w w1 hF1).mono ?_
          rintro e w2 ⟨rfl, hF2⟩
          clear hF1
          by_cases hd : farS ((k : Int) + 1) q v < farS (innL q v (nearL q v k) ((k : Int) + 1) 0) q v
          · go_wp2_with fail
            go_roundg 1
            case measure => have := HI.out; omega
            case rel => exact ⟨1, rfl, by rw [show innL q v (nearL q v k) ((k : Int) + 1) 1 = stepN q v (innL q v (nearL q v k) ((k : Int) + 1) 0) ((k : Int) + 1) from rfl]; unfold stepN; rw [if_pos hd], rfl, hF2⟩
          · go_wp2_with fail
            go_roundg 1
            case measure => have := HI.out; omega
            case rel => exact ⟨1, rfl, by rw [show innL q v (nearL q v k) ((k : Int) + 1) 1 = stepN q v (innL q v (nearL q v k) ((k : Int) + 1) 0) ((k : Int) + 1) from rfl]; unfold stepN; rw [if_neg (by omega)], rfl, hF2⟩
        · have HI := Lib.hid hi
          clear hi
          have i0 := index2_1 (.int .i64 ((k : Int) + 1)) (.int .i64 (-((k : Int) + 1)))
          have hn := innL_bd q v (nearL q v k) ((k : Int) + 1) (by omega) (by omega) (by omega) (by omega) 1
          obtain ⟨hn1, hn2⟩ := hn
          go_wp2_with fail
          refine (far_at (-((k : Int) + 1)) q v (by omega) (by omega) h3 h4 hv1 hv2 w.heap.size w wr hF).mono ?_
          rintro e w1 ⟨rfl, hF1⟩
          clear hF i0
          go_wp2_with fail
          refine (far_at (innL q v (nearL q v k) ((k : Int) + 1) 1) q v (by omega) (by omega) h3 h4 hv1 hv2 w.heap.size w w1 hF1).mono ?_
          rintro e w2 ⟨rfl, hF2⟩
          clear hF1
          by_cases hd : farS (-((k : Int) + 1)) q v < farS (innL q v (nearL q v k) ((k : Int) + 1) 1) q v
          · go_wp2_with fail
            go_roundg 0
            case measure => have := HI.out; omega
            case rel => exact ⟨2, rfl, by rw [show innL q v (nearL q v k) ((k : Int) + 1) 2 = stepN q v (innL q v (nearL q v k) ((k : Int) + 1) 1) (-((k : Int) + 1)) from rfl]; unfold stepN; rw [if_pos hd], rfl, hF2⟩
          · go_wp2_with fail
            go_roundg 0
            case measure => have := HI.out; omega
            case rel => exact ⟨2, rfl, by rw [show innL q v (nearL q v k) ((k : Int) + 1) 2 = stepN q v (innL q v (nearL q v k) ((k : Int) + 1) 1) (-((k : Int) + 1)) from rfl]; unfold stepN; rw [if_neg (by omega)], rfl, hF2⟩
        · clear hi
          go_wp2_with fail
          go_roundg (126 - k)
          case measure => have := HK.out; omega
          case rel => exact ⟨k + 1, by omega, by rw [nearL_succ]; rfl, by go_num, hF⟩
    · have hge : 127 ≤ k := by omega
      clear hlt
      go_wp2
      go_ret2
      exact ⟨ret_int2 (by rw [show k = 127 from by omega]) rfl, hF.2.2.2⟩

end Go.Proofs.Ytlgpagaclfcoaaa
