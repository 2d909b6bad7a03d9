/-
  The walk of QuantBlocks: it returns true. Conditions: what comes in reads as a list of numbers.
-/
import Derived.Test.YtlgpagaclfcoaaaWalkK
namespace Go.Proofs.Ytlgpagaclfcoaaa
open Go.RowKit

theorem interL_len (xs : List Int) (q : Int) : (interL xs q).length ≤ 64 := by
  rcases interE_or xs q with h | h
  · omega
  · rw [h.2]; simp

theorem intraL_len (xs : List Int) (q c : Int) : (intraL xs q c).length ≤ 64 := by
  unfold intraL
  split
  · rw [List.length_set]; exact interL_len xs q
  · simp

theorem Rd.later {w w' : World} {v : Value} {xs : List Int} (h : Rd w w.heap.size v xs) (hb : Below w.heap.size w w') : Rd w' w'.heap.size v xs := (h.below hb).mono hb.size

theorem Own.rd2 {w w' : World} {base : Nat} {v : Value} {xs : List Int} (h : Own w base v xs) (hb : Below w.heap.size w w') : Rd w' w'.heap.size v xs := (h.below hb).rd

set_option maxRecDepth 100000 in
set_option maxHeartbeats 2000000 in
theorem blocks_walk (v : Value) (xs : List Int) (q c : Int) (w : World) (hmax : xs.length ≤ 9223372036854775807) (h : Rd w w.heap.size v xs) :
    Calls Try.prog 8 #[v, .int .i64 q, .int .i64 c] w fun e w' => e = .returned (.bool true) ∧ Below w.heap.size w w' := by
  obtain ⟨a, cap, rfl, _⟩ := id h
  have H := Lib.hid h
  clear h
  by_cases hlen : 80 < xs.length
  · generalize xs.length = n at hlen hmax H
    have hd : decide ((80 : Int) < (n : Int)) = true := by simp; omega
    go_enter Try.func8, Try.ntmps8
    go_wp2_with (go_at_call 16; refine (awake_any _).mono ?_; rintro e w' ⟨rfl, hb'⟩)
    go_ret
    exact ⟨rfl, hb'⟩
  · have hl80 : xs.length ≤ 80 := by omega
    have HL := Lib.hid hl80
    obtain ⟨n, hn⟩ : ∃ n, xs.length = n := ⟨_, rfl⟩
    have HN := Lib.hid hn
    have hd : decide ((80 : Int) < (n : Int)) = false := by simp; omega
    rw [hn] at H ⊢
    clear hlen hl80 hmax hn
    go_enter Try.func8, Try.ntmps8
    go_wp2_with fail
    refine (copy_any _ xs HL.out _ H.out).mono ?_
    rintro e w1 ⟨v0, rfl, O0, b1⟩
    go_wp2_with fail
    refine (Inter_any v0 xs q _ O0.rd).mono ?_
    rintro e w2 ⟨va, rfl, Oa, b2⟩
    have B2 := bt b1 b2
    go_wp2_with fail
    refine (refInter_any _ xs q _ (H.out.later B2)).mono ?_
    rintro e w3 ⟨vb, rfl, Ob, b3⟩
    go_wp2_with fail
    refine (Intra_any v0 xs q c _ (O0.rd2 (bt b2 b3))).mono ?_
    rintro e w4 ⟨vc, rfl, Oc, b4⟩
    go_wp2_with fail
    have B4 := bt (bt B2 b3) b4
    refine (refIntra_any _ xs q c _ (H.out.later B4)).mono ?_
    rintro e w5 ⟨vd, rfl, Od, b5⟩
    go_wp2_with fail
    refine (same_any va vb (interL xs q) _ (by have := interL_len xs q; omega) (Oa.rd2 (bt (bt b3 b4) b5)) (Ob.rd2 (bt b4 b5))).mono ?_
    rintro e w6 ⟨rfl, b6⟩
    go_wp2_with fail
    refine (same_any vc vd (intraL xs q c) _ (by have := intraL_len xs q c; omega) (Oc.rd2 (bt b5 b6)) (Od.rd2 b6)).mono ?_
    rintro e w7 ⟨rfl, b7⟩
    go_wp2_with fail
    have Oa7 := Oa.below (bt (bt (bt (bt b3 b4) b5) b6) b7)
    refine (over_any va (interL xs q) w1.heap.size w7 (by have := interL_len xs q; omega) Oa7).mono ?_
    rintro e w8 ⟨⟨u, rfl⟩, g8⟩
    go_wp2_with fail
    have la := World.ownsRow.lt Oa
    have lc := World.ownsRow.lt Oc
    have Oc8 := (Oc.below (bt (bt b5 b6) b7)).kept g8 (by
      rcases hk : vc.ownBlock with _ | k
      · exact .inl rfl
      · right
        intro e
        have h1 := lc k hk
        have h2 := la k e.symm
        have := b3.size
        omega)
    refine (over_any vc (intraL xs q c) w3.heap.size w8 (by have := intraL_len xs q c; omega) Oc8).mono ?_
    rintro e w9 ⟨⟨u2, rfl⟩, g9⟩
    have B7 := bt (bt (bt B4 b5) b6) b7
    have s1 := b1.size
    have s2 := b2.size
    have s3 := b3.size
    have s4 := b4.size
    have s7 := B7.size
    have s8 := g8.size
    -- all that lies below w1's end is as it was
    have C7 : Below w1.heap.size w1 w7 := bt (bt (bt (bt (bt b2 b3) b4) b5) b6) b7
    have C9 : Below w1.heap.size w1 w9 := (C7.grown g8 C7.size (fun k hk => (la k hk).1)).grown g9 (by have := C7.size; omega) (fun k hk => by have := (lc k hk).1; omega)
    have B9 := bt b1 C9
    go_wp2_with fail
    refine (same_any v0 _ xs _ (by have := HL.out; omega) (O0.rd2 C9) (H.out.later B9)).mono ?_
    rintro e w10 ⟨rfl, b10⟩
    go_wp2_with fail
    refine (awake_any _).mono ?_
    rintro e w11 ⟨rfl, b11⟩
    go_wp2_with fail
    go_ret
    exact ⟨rfl, bt (bt B9 b10) b11⟩

end Go.Proofs.Ytlgpagaclfcoaaa
