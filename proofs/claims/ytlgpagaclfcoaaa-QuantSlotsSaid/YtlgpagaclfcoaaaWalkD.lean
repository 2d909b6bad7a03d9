/-
  The walk of the reference's Nearest: it returns the best level that nearR finds. Conditions: those that each theorem names.
-/
import Derived.Test.YtlgpagaclfcoaaaWalkC
namespace Go.Proofs.Ytlgpagaclfcoaaa
open Go.RowKit

theorem refNearest_bad (v q : Int) (h : v < -2048 ∨ 2047 < v ∨ q < 1 ∨ 31 < q) (w : World) :
    Calls Try.prog 15 #[.int .i64 v, .int .i64 q] w fun e w' => e = .returned (.tuple #[.int .i64 0, .int .i64 3]) ∧ w = w' := by
  rcases (by omega : v < -2048 ∨ 2047 < v ∨ (-2048 ≤ v ∧ v ≤ 2047)) with h1 | h1 | h1
  · clear h
    go_enter Try.func15, Try.ntmps15
    go_wp2_with (go_at_call 33; refine (quantiser_any _ _).mono ?_; rintro e w' ⟨rfl, rfl⟩)
    go_ret2
    exact ⟨rfl, rfl⟩
  · clear h
    have h2 : decide (v < -2048) = false := by simp; omega
    go_enter Try.func15, Try.ntmps15
    go_wp2_with (go_at_call 33; refine (quantiser_any _ _).mono ?_; rintro e w' ⟨rfl, rfl⟩)
    go_ret2
    exact ⟨rfl, rfl⟩
  · have hB : inB q 1 31 = false := inB_no (by omega)
    obtain ⟨h1, h2⟩ := h1
    clear h
    have h3 : decide (v < -2048) = false := by simp; omega
    have h4 : decide (2047 < v) = false := by simp; omega
    go_enter Try.func15, Try.ntmps15
    go_wp2_with (go_at_call 33; refine (quantiser_any _ _).mono ?_; rintro e w' ⟨rfl, rfl⟩)
    go_ret2
    exact ⟨rfl, rfl⟩

/-- What the reference's inner loop has found behind i rounds. -/
def innR (q v b m : Int) : Nat → Int
  | 0 => b
  | 1 => stepN q v b (-m)
  | _ => stepN q v (stepN q v b (-m)) m

theorem innR_bd (q v b m : Int) (h1 : -127 ≤ b) (h2 : b ≤ 127) (h3 : -127 ≤ m) (h4 : m ≤ 127) : ∀ i : Nat, -127 ≤ innR q v b m i ∧ innR q v b m i ≤ 127
  | 0 => ⟨h1, h2⟩
  | 1 => step_bd q v b (-m) h1 h2 (by omega) (by omega)
  | _ + 2 => step_bd q v _ m (step_bd q v b (-m) h1 h2 (by omega) (by omega)).1 (step_bd q v b (-m) h1 h2 (by omega) (by omega)).2 h3 h4

theorem farR_zero (q v : Int) : farS (nearR q v 0) q v = max (0 - v) (v - 0) := by simp [nearR, farS, vV]

set_option maxRecDepth 100000 in
set_option maxHeartbeats 1000000 in
theorem refNearest_good (v q : Int) (hv1 : -2048 ≤ v) (hv2 : v ≤ 2047) (h3 : 1 ≤ q) (h4 : q ≤ 31) (w : World) :
    Calls Try.prog 15 #[.int .i64 v, .int .i64 q] w fun e w' => e = .returned (.tuple #[.int .i64 (nearR q v 127), .int .i64 0]) ∧ w = w' := by
  have hB := inB_yes h3 h4
  have hx1 : decide (v < -2048) = false := by simp; omega
  have hx2 : decide (2047 < v) = false := by simp; omega
  rcases (by omega : v < -v ∨ -v ≤ v) with hs | hs
  · go_enter Try.func15, Try.ntmps15
    go_wp2_with (go_at_call 33; refine (quantiser_any _ _).mono ?_; rintro e w' ⟨rfl, rfl⟩)
    clear hB hx1 hx2
    go_loopg [6, 7, 8] 127 (fun g best far m wr => ∃ k : Nat, g + k = 127 ∧ best = .int .i64 (nearR q v k) ∧ far = .int .i64 (farS (nearR q v k) q v) ∧ m = .int .i64 ((k : Int) + 1) ∧ w = wr)
    case atStart => exact ⟨0, rfl, rfl, by rw [farR_zero]; congr 1; omega, rfl, rfl⟩
    case round =>
      obtain ⟨k, hk, rfl, rfl, rfl, rfl⟩ := hrel
      have hbd := nearR_bd q v k
      obtain ⟨hb1, hb2⟩ := hbd
      have hk1 : k ≤ 127 := by omega
      have HK := Lib.hid hk
      clear hk
      by_cases hlt : k < 127
      · have hd0 : decide ((k : Int) + 1 ≤ 127) = true := by simp; omega
        go_wp2_with fail
        go_loopg [6, 7, 9] 2 (fun g best far sd wr => ∃ i : Nat, g + i = 2 ∧ (i = 0 ∧ sd = .int .i64 (-1) ∨ i = 1 ∧ sd = .int .i64 1 ∨ i = 2 ∧ sd = .int .i64 3) ∧ best = .int .i64 (innR q v (nearR q v k) ((k : Int) + 1) i) ∧ far = .int .i64 (farS (innR q v (nearR q v k) ((k : Int) + 1) i) q v) ∧ w = wr)
        case atStart => exact ⟨0, rfl, .inl ⟨rfl, rfl⟩, rfl, rfl, rfl⟩
        case round =>
          obtain ⟨i, hi, hsd, rfl, rfl, rfl⟩ := hrel
          rcases hsd with ⟨rfl, rfl⟩ | ⟨rfl, rfl⟩ | ⟨rfl, rfl⟩
          · have HI := Lib.hid hi
            clear hi
            have hn := innR_bd q v (nearR q v k) ((k : Int) + 1) (by omega) (by omega) (by omega) (by omega) 0
            obtain ⟨hn1, hn2⟩ := hn
            have hV := vV_bd (-((k : Int) + 1)) q (by omega) (by omega) h3 h4
            obtain ⟨hV1, hV2⟩ := hV
            go_wp2_with fail
            refine (refValue_good (-((k : Int) + 1)) q (by omega) (by omega) h3 h4 _).mono ?_
            rintro e w1 ⟨rfl, rfl⟩
            by_cases hx : vV (-((k : Int) + 1)) q - v < v - vV (-((k : Int) + 1)) q
            · have HD : Hid (farS (-((k : Int) + 1)) q v = v - vV (-((k : Int) + 1)) q) := Lib.hid (by unfold farS; omega)
              by_cases hd : v - vV (-((k : Int) + 1)) q < farS (innR q v (nearR q v k) ((k : Int) + 1) 0) q v
              · go_wp2_with fail
                go_roundg 1
                case measure => have := HI.out; omega
                case rel => exact ⟨1, rfl, by simp, by rw [show innR q v (nearR q v k) ((k : Int) + 1) 1 = stepN q v (innR q v (nearR q v k) ((k : Int) + 1) 0) (-((k : Int) + 1)) from rfl]; unfold stepN; rw [if_pos (by have := HD.out; omega)],
                  by rw [show innR q v (nearR q v k) ((k : Int) + 1) 1 = stepN q v (innR q v (nearR q v k) ((k : Int) + 1) 0) (-((k : Int) + 1)) from rfl]; unfold stepN; rw [if_pos (by have := HD.out; omega)]; rw [HD.out], rfl⟩
              · go_wp2_with fail
                go_roundg 1
                case measure => have := HI.out; omega
                case rel => exact ⟨1, rfl, by simp, by rw [show innR q v (nearR q v k) ((k : Int) + 1) 1 = stepN q v (innR q v (nearR q v k) ((k : Int) + 1) 0) (-((k : Int) + 1)) from rfl]; unfold stepN; rw [if_neg (by have := HD.out; omega)],
                  by rw [show innR q v (nearR q v k) ((k : Int) + 1) 1 = stepN q v (innR q v (nearR q v k) ((k : Int) + 1) 0) (-((k : Int) + 1)) from rfl]; unfold stepN; rw [if_neg (by have := HD.out; omega)], rfl⟩
            · have HD : Hid (farS (-((k : Int) + 1)) q v = vV (-((k : Int) + 1)) q - v) := Lib.hid (by unfold farS; omega)
              by_cases hd : vV (-((k : Int) + 1)) q - v < farS (innR q v (nearR q v k) ((k : Int) + 1) 0) q v
              · go_wp2_with fail
                go_roundg 1
                case measure => have := HI.out; omega
                case rel => exact ⟨1, rfl, by simp, by rw [show innR q v (nearR q v k) ((k : Int) + 1) 1 = stepN q v (innR q v (nearR q v k) ((k : Int) + 1) 0) (-((k : Int) + 1)) from rfl]; unfold stepN; rw [if_pos (by have := HD.out; omega)],
                  by rw [show innR q v (nearR q v k) ((k : Int) + 1) 1 = stepN q v (innR q v (nearR q v k) ((k : Int) + 1) 0) (-((k : Int) + 1)) from rfl]; unfold stepN; rw [if_pos (by have := HD.out; omega)]; rw [HD.out], rfl⟩
              · go_wp2_with fail
                go_roundg 1
                case measure => have := HI.out; omega
                case rel => exact ⟨1, rfl, by simp, by rw [show innR q v (nearR q v k) ((k : Int) + 1) 1 = stepN q v (innR q v (nearR q v k) ((k : Int) + 1) 0) (-((k : Int) + 1)) from rfl]; unfold stepN; rw [if_neg (by have := HD.out; omega)],
                  by rw [show innR q v (nearR q v k) ((k : Int) + 1) 1 = stepN q v (innR q v (nearR q v k) ((k : Int) + 1) 0) (-((k : Int) + 1)) from rfl]; unfold stepN; rw [if_neg (by have := HD.out; omega)], rfl⟩
          · have HI := Lib.hid hi
            clear hi
            have hn := innR_bd q v (nearR q v k) ((k : Int) + 1) (by omega) (by omega) (by omega) (by omega) 1
            obtain ⟨hn1, hn2⟩ := hn
            have hV := vV_bd ((k : Int) + 1) q (by omega) (by omega) h3 h4
            obtain ⟨hV1, hV2⟩ := hV
            go_wp2_with fail
            refine (refValue_good ((k : Int) + 1) q (by omega) (by omega) h3 h4 _).mono ?_
            rintro e w1 ⟨rfl, rfl⟩
            by_cases hx : vV ((k : Int) + 1) q - v < v - vV ((k : Int) + 1) q
            · have HD : Hid (farS ((k : Int) + 1) q v = v - vV ((k : Int) + 1) q) := Lib.hid (by unfold farS; omega)
              by_cases hd : v - vV ((k : Int) + 1) q < farS (innR q v (nearR q v k) ((k : Int) + 1) 1) q v
              · go_wp2_with fail
                go_roundg 0
                case measure => have := HI.out; omega
                case rel => exact ⟨2, rfl, by simp, by rw [show innR q v (nearR q v k) ((k : Int) + 1) 2 = stepN q v (innR q v (nearR q v k) ((k : Int) + 1) 1) ((k : Int) + 1) from rfl]; unfold stepN; rw [if_pos (by have := HD.out; omega)],
                  by rw [show innR q v (nearR q v k) ((k : Int) + 1) 2 = stepN q v (innR q v (nearR q v k) ((k : Int) + 1) 1) ((k : Int) + 1) from rfl]; unfold stepN; rw [if_pos (by have := HD.out; omega)]; rw [HD.out], rfl⟩
              · go_wp2_with fail
                go_roundg 0
                case measure => have := HI.out; omega
                case rel => exact ⟨2, rfl, by simp, by rw [show innR q v (nearR q v k) ((k : Int) + 1) 2 = stepN q v (innR q v (nearR q v k) ((k : Int) + 1) 1) ((k : Int) + 1) from rfl]; unfold stepN; rw [if_neg (by have := HD.out; omega)],
                  by rw [show innR q v (nearR q v k) ((k : Int) + 1) 2 = stepN q v (innR q v (nearR q v k) ((k : Int) + 1) 1) ((k : Int) + 1) from rfl]; unfold stepN; rw [if_neg (by have := HD.out; omega)], rfl⟩
            · have HD : Hid (farS ((k : Int) + 1) q v = vV ((k : Int) + 1) q - v) := Lib.hid (by unfold farS; omega)
              by_cases hd : vV ((k : Int) + 1) q - v < farS (innR q v (nearR q v k) ((k : Int) + 1) 1) q v
              · go_wp2_with fail
                go_roundg 0
                case measure => have := HI.out; omega
                case rel => exact ⟨2, rfl, by simp, by rw [show innR q v (nearR q v k) ((k : Int) + 1) 2 = stepN q v (innR q v (nearR q v k) ((k : Int) + 1) 1) ((k : Int) + 1) from rfl]; unfold stepN; rw [if_pos (by have := HD.out; omega)],
                  by rw [show innR q v (nearR q v k) ((k : Int) + 1) 2 = stepN q v (innR q v (nearR q v k) ((k : Int) + 1) 1) ((k : Int) + 1) from rfl]; unfold stepN; rw [if_pos (by have := HD.out; omega)]; rw [HD.out], rfl⟩
              · go_wp2_with fail
                go_roundg 0
                case measure => have := HI.out; omega
                case rel => exact ⟨2, rfl, by simp, by rw [show innR q v (nearR q v k) ((k : Int) + 1) 2 = stepN q v (innR q v (nearR q v k) ((k : Int) + 1) 1) ((k : Int) + 1) from rfl]; unfold stepN; rw [if_neg (by have := HD.out; omega)],
                  by rw [show innR q v (nearR q v k) ((k : Int) + 1) 2 = stepN q v (innR q v (nearR q v k) ((k : Int) + 1) 1) ((k : Int) + 1) from rfl]; unfold stepN; rw [if_neg (by have := HD.out; omega)], rfl⟩
          · clear hi
            go_wp2_with fail
            go_roundg (126 - k)
            case measure => have := HK.out; omega
            case rel => exact ⟨k + 1, by omega, by rw [nearR_succ]; rfl, by rw [nearR_succ]; rfl, by go_num, rfl⟩
      · have hge : 127 ≤ k := by omega
        clear hlt
        go_wp2
        go_ret2
        exact ⟨ret_int2 (by rw [show k = 127 from by omega]) rfl, rfl⟩
  · go_enter Try.func15, Try.ntmps15
    go_wp2_with (go_at_call 33; refine (quantiser_any _ _).mono ?_; rintro e w' ⟨rfl, rfl⟩)
    clear hB hx1 hx2
    go_loopg [6, 7, 8] 127 (fun g best far m wr => ∃ k : Nat, g + k = 127 ∧ best = .int .i64 (nearR q v k) ∧ far = .int .i64 (farS (nearR q v k) q v) ∧ m = .int .i64 ((k : Int) + 1) ∧ w = wr)
    case atStart => exact ⟨0, rfl, rfl, by rw [farR_zero]; congr 1; omega, rfl, rfl⟩
    case round =>
      obtain ⟨k, hk, rfl, rfl, rfl, rfl⟩ := hrel
      have hbd := nearR_bd q v k
      obtain ⟨hb1, hb2⟩ := hbd
      have hk1 : k ≤ 127 := by omega
      have HK := Lib.hid hk
      clear hk
      by_cases hlt : k < 127
      · have hd0 : decide ((k : Int) + 1 ≤ 127) = true := by simp; omega
        go_wp2_with fail
        go_loopg [6, 7, 9] 2 (fun g best far sd wr => ∃ i : Nat, g + i = 2 ∧ (i = 0 ∧ sd = .int .i64 (-1) ∨ i = 1 ∧ sd = .int .i64 1 ∨ i = 2 ∧ sd = .int .i64 3) ∧ best = .int .i64 (innR q v (nearR q v k) ((k : Int) + 1) i) ∧ far = .int .i64 (farS (innR q v (nearR q v k) ((k : Int) + 1) i) q v) ∧ w = wr)
        case atStart => exact ⟨0, rfl, .inl ⟨rfl, rfl⟩, rfl, rfl, rfl⟩
        case round =>
          obtain ⟨i, hi, hsd, rfl, rfl, rfl⟩ := hrel
          rcases hsd with ⟨rfl, rfl⟩ | ⟨rfl, rfl⟩ | ⟨rfl, rfl⟩
          · have HI := Lib.hid hi
            clear hi
            have hn := innR_bd q v (nearR q v k) ((k : Int) + 1) (by omega) (by omega) (by omega) (by omega) 0
            obtain ⟨hn1, hn2⟩ := hn
            have hV := vV_bd (-((k : Int) + 1)) q (by omega) (by omega) h3 h4
            obtain ⟨hV1, hV2⟩ := hV
            go_wp2_with fail
            refine (refValue_good (-((k : Int) + 1)) q (by omega) (by omega) h3 h4 _).mono ?_
            rintro e w1 ⟨rfl, rfl⟩
            by_cases hx : vV (-((k : Int) + 1)) q - v < v - vV (-((k : Int) + 1)) q
            · have HD : Hid (farS (-((k : Int) + 1)) q v = v - vV (-((k : Int) + 1)) q) := Lib.hid (by unfold farS; omega)
              by_cases hd : v - vV (-((k : Int) + 1)) q < farS (innR q v (nearR q v k) ((k : Int) + 1) 0) q v
              · go_wp2_with fail
                go_roundg 1
                case measure => have := HI.out; omega
                case rel => exact ⟨1, rfl, by simp, by rw [show innR q v (nearR q v k) ((k : Int) + 1) 1 = stepN q v (innR q v (nearR q v k) ((k : Int) + 1) 0) (-((k : Int) + 1)) from rfl]; unfold stepN; rw [if_pos (by have := HD.out; omega)],
                  by rw [show innR q v (nearR q v k) ((k : Int) + 1) 1 = stepN q v (innR q v (nearR q v k) ((k : Int) + 1) 0) (-((k : Int) + 1)) from rfl]; unfold stepN; rw [if_pos (by have := HD.out; omega)]; rw [HD.out], rfl⟩
              · go_wp2_with fail
                go_roundg 1
                case measure => have := HI.out; omega
                case rel => exact ⟨1, rfl, by simp, by rw [show innR q v (nearR q v k) ((k : Int) + 1) 1 = stepN q v (innR q v (nearR q v k) ((k : Int) + 1) 0) (-((k : Int) + 1)) from rfl]; unfold stepN; rw [if_neg (by have := HD.out; omega)],
                  by rw [show innR q v (nearR q v k) ((k : Int) + 1) 1 = stepN q v (innR q v (nearR q v k) ((k : Int) + 1) 0) (-((k : Int) + 1)) from rfl]; unfold stepN; rw [if_neg (by have := HD.out; omega)], rfl⟩
            · have HD : Hid (farS (-((k : Int) + 1)) q v = vV (-((k : Int) + 1)) q - v) := Lib.hid (by unfold farS; omega)
              by_cases hd : vV (-((k : Int) + 1)) q - v < farS (innR q v (nearR q v k) ((k : Int) + 1) 0) q v
              · go_wp2_with fail
                go_roundg 1
                case measure => have := HI.out; omega
                case rel => exact ⟨1, rfl, by simp, by rw [show innR q v (nearR q v k) ((k : Int) + 1) 1 = stepN q v (innR q v (nearR q v k) ((k : Int) + 1) 0) (-((k : Int) + 1)) from rfl]; unfold stepN; rw [if_pos (by have := HD.out; omega)],
                  by rw [show innR q v (nearR q v k) ((k : Int) + 1) 1 = stepN q v (innR q v (nearR q v k) ((k : Int) + 1) 0) (-((k : Int) + 1)) from rfl]; unfold stepN; rw [if_pos (by have := HD.out; omega)]; rw [HD.out], rfl⟩
              · go_wp2_with fail
                go_roundg 1
                case measure => have := HI.out; omega
                case rel => exact ⟨1, rfl, by simp, by rw [show innR q v (nearR q v k) ((k : Int) + 1) 1 = stepN q v (innR q v (nearR q v k) ((k : Int) + 1) 0) (-((k : Int) + 1)) from rfl]; unfold stepN; rw [if_neg (by have := HD.out; omega)],
                  by rw [show innR q v (nearR q v k) ((k : Int) + 1) 1 = stepN q v (innR q v (nearR q v k) ((k : Int) + 1) 0) (-((k : Int) + 1)) from rfl]; unfold stepN; rw [if_neg (by have := HD.out; omega)], rfl⟩
          · have HI := Lib.hid hi
            clear hi
            have hn := innR_bd q v (nearR q v k) ((k : Int) + 1) (by omega) (by omega) (by omega) (by omega) 1
            obtain ⟨hn1, hn2⟩ := hn
            have hV := vV_bd ((k : Int) + 1) q (by omega) (by omega) h3 h4
            obtain ⟨hV1, hV2⟩ := hV
            go_wp2_with fail
            refine (refValue_good ((k : Int) + 1) q (by omega) (by omega) h3 h4 _).mono ?_
            rintro e w1 ⟨rfl, rfl⟩
            by_cases hx : vV ((k : Int) + 1) q - v < v - vV ((k : Int) + 1) q
            · have HD : Hid (farS ((k : Int) + 1) q v = v - vV ((k : Int) + 1) q) := Lib.hid (by unfold farS; omega)
              by_cases hd : v - vV ((k : Int) + 1) q < farS (innR q v (nearR q v k) ((k : Int) + 1) 1) q v
              · go_wp2_with fail
                go_roundg 0
                case measure => have := HI.out; omega
                case rel => exact ⟨2, rfl, by simp, by rw [show innR q v (nearR q v k) ((k : Int) + 1) 2 = stepN q v (innR q v (nearR q v k) ((k : Int) + 1) 1) ((k : Int) + 1) from rfl]; unfold stepN; rw [if_pos (by have := HD.out; omega)],
                  by rw [show innR q v (nearR q v k) ((k : Int) + 1) 2 = stepN q v (innR q v (nearR q v k) ((k : Int) + 1) 1) ((k : Int) + 1) from rfl]; unfold stepN; rw [if_pos (by have := HD.out; omega)]; rw [HD.out], rfl⟩
              · go_wp2_with fail
                go_roundg 0
                case measure => have := HI.out; omega
                case rel => exact ⟨2, rfl, by simp, by rw [show innR q v (nearR q v k) ((k : Int) + 1) 2 = stepN q v (innR q v (nearR q v k) ((k : Int) + 1) 1) ((k : Int) + 1) from rfl]; unfold stepN; rw [if_neg (by have := HD.out; omega)],
                  by rw [show innR q v (nearR q v k) ((k : Int) + 1) 2 = stepN q v (innR q v (nearR q v k) ((k : Int) + 1) 1) ((k : Int) + 1) from rfl]; unfold stepN; rw [if_neg (by have := HD.out; omega)], rfl⟩
            · have HD : Hid (farS ((k : Int) + 1) q v = vV ((k : Int) + 1) q - v) := Lib.hid (by unfold farS; omega)
              by_cases hd : vV ((k : Int) + 1) q - v < farS (innR q v (nearR q v k) ((k : Int) + 1) 1) q v
              · go_wp2_with fail
                go_roundg 0
                case measure => have := HI.out; omega
                case rel => exact ⟨2, rfl, by simp, by rw [show innR q v (nearR q v k) ((k : Int) + 1) 2 = stepN q v (innR q v (nearR q v k) ((k : Int) + 1) 1) ((k : Int) + 1) from rfl]; unfold stepN; rw [if_pos (by have := HD.out; omega)],
                  by rw [show innR q v (nearR q v k) ((k : Int) + 1) 2 = stepN q v (innR q v (nearR q v k) ((k : Int) + 1) 1) ((k : Int) + 1) from rfl]; unfold stepN; rw [if_pos (by have := HD.out; omega)]; rw [HD.out], rfl⟩
              · go_wp2_with fail
                go_roundg 0
                case measure => have := HI.out; omega
                case rel => exact ⟨2, rfl, by simp, by rw [show innR q v (nearR q v k) ((k : Int) + 1) 2 = stepN q v (innR q v (nearR q v k) ((k : Int) + 1) 1) ((k : Int) + 1) from rfl]; unfold stepN; rw [if_neg (by have := HD.out; omega)],
                  by rw [show innR q v (nearR q v k) ((k : Int) + 1) 2 = stepN q v (innR q v (nearR q v k) ((k : Int) + 1) 1) ((k : Int) + 1) from rfl]; unfold stepN; rw [if_neg (by have := HD.out; omega)], rfl⟩
          · clear hi
            go_wp2_with fail
            go_roundg (126 - k)
            case measure => have := HK.out; omega
            case rel => exact ⟨k + 1, by omega, by rw [nearR_succ]; rfl, by rw [nearR_succ]; rfl, by go_num, rfl⟩
      · have hge : 127 ≤ k := by omega
        clear hlt
        go_wp2
        go_ret2
        exact ⟨ret_int2 (by rw [show k = 127 from by omega]) rfl, rfl⟩

end Go.Proofs.Ytlgpagaclfcoaaa
