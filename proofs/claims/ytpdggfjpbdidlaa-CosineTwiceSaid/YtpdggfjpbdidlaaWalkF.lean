/-
  The walk of the reference's Line: it returns the eight sums, or why not. Conditions: what comes in reads as a list of numbers.
-/
import Derived.Test.YtpdggfjpbdidlaaWalkE
import Derived.Maps.AppendAt
namespace Go.Proofs.Ytpdggfjpbdidlaa
open Go.RowKit

/-- The first n of the sums. -/
def lineN (l : List Int) (n : Nat) : List Int := (List.range n).map (fun x => lineP l x 8)
theorem lineN_succ (l : List Int) (n : Nat) : lineN l (n + 1) = lineN l n ++ [lineP l n 8] := by
  unfold lineN
  rw [List.range_succ, List.map_append]
  rfl
theorem lineN_len (l : List Int) (n : Nat) : (lineN l n).length = n := by simp [lineN]

theorem sum_bd (xs : List Int) (x : Nat) (hx : x < 8) (b : Int) (hb : 0 ≤ b) : ∀ u : Nat, u ≤ 8 → (∀ j, j < u → -b ≤ xs.getD j 0 ∧ xs.getD j 0 ≤ b) →
    -((u : Int) * (2048 * b)) ≤ lineP xs x u ∧ lineP xs x u ≤ (u : Int) * (2048 * b)
  | 0, _, _ => by simp [lineP]
  | u + 1, hu, h => by
    have ih := sum_bd xs x hx b hb u (by omega) (fun j hj => h j (by omega))
    have hw := wS_bd ⟨u, by omega⟩ ⟨x, hx⟩
    have hl := h u (by omega)
    have ht := mul_bd (wS u x) (xs.getD u 0) b hw.1 hw.2 hl.1 hl.2
    have e : ((u + 1 : Nat) : Int) * (2048 * b) = (u : Int) * (2048 * b) + 2048 * b := by
      rw [Int.natCast_add, Int.add_mul]; simp
    rw [e]
    simp only [lineP]
    omega

theorem weight_keep (u x : Nat) (hu : u < 8) (hx : x < 8) (w : World) (a : Addr) {y : Value} (ha : w.cell? a = some y) :
    Calls Try.prog 27 #[.int .i64 (u : Int), .int .i64 (x : Int)] w fun e w' => e = .returned (.int .i64 (wS u x)) ∧ w'.cell? a = some y ∧ Below w.heap.size w w' :=
  (weight_any u x hu hx w).mono fun _ _ ⟨he, hB⟩ => ⟨he, (hB.cell (World.block_lt_of_cell? w a ha)).trans ha, hB⟩

set_option maxRecDepth 100000 in
set_option maxHeartbeats 4000000 in
theorem refLine_8 (v : Value) (xs : List Int) (hlen : xs.length = 8) (w : World) (h : Rd w w.heap.size v xs) :
    Calls Try.prog 20 #[v] w (IntsR w.heap.size (lineE xs) (lineR xs) w) := by
  obtain ⟨i0, hi0, hz0, hz1, hz2⟩ := info_parts int_info
  obtain ⟨a, cap, rfl, _, hc⟩ := h
  obtain ⟨b, off, rfl, hb, hc⟩ := hc (by intro e; subst e; simp at hlen)
  have HC := Lib.hid hc
  have HL := Lib.hid hlen
  rw [hlen]
  clear hc hlen
  go_enter Try.func20, Try.ntmps20
  go_wp2_with fail
  go_loopg [4, 5] 8 (fun gh o i wr => ∃ x : Nat, gh + x = 8 ∧ i = .int .i64 (x : Int) ∧ Own wr w.heap.size o (lineN xs x) ∧ Below w.heap.size w wr ∧ (x = 0 ∨ Eight 1099511627776 xs))
  case atStart => exact ⟨0, rfl, rfl, Own.nil _ _, Below.refl _ _, .inl rfl⟩
  case round =>
    obtain ⟨x, hx, rfl, hO, hB, hE⟩ := hrel
    have HX := Lib.hid hx
    have hx8 : x ≤ 8 := by omega
    have HO := Lib.hid hO
    have HE := Lib.hid hE
    clear hx hO hE
    by_cases hlx : x < 8
    · have hdx : decide ((x : Int) < 8) = true := by simp; omega
      go_wp2_with fail
      obtain ⟨wo, rfl⟩ : ∃ wo : World, wo = wr := ⟨_, rfl⟩
      go_loopg [6, 7] 8 (fun gh s i wr => ∃ u : Nat, gh + u = 8 ∧ i = .int .i64 (u : Int) ∧ s = .int .i64 (lineP xs x u) ∧ Below wo.heap.size wo wr ∧ ∀ j, j < u → -1099511627776 ≤ xs.getD j 0 ∧ xs.getD j 0 ≤ 1099511627776)
      case atStart => exact ⟨0, rfl, rfl, rfl, Below.refl _ _, fun j hj => by omega⟩
      case round =>
        obtain ⟨u, hu, rfl, rfl, hB2, hA⟩ := hrel
        have HU := Lib.hid hu
        have hu8 : u ≤ 8 := by omega
        have HA := Lib.hid hA
        clear hu hA
        by_cases hlt : u < 8
        · obtain ⟨z, hz⟩ : ∃ z, xs.getD u 0 = z := ⟨_, rfl⟩
          have hcell : wr.cell? ⟨b, off + u, none⟩ = some (.int .i64 z) := by
            rw [← hz]
            exact ((hB.trans (hB2.mono hB.size)).cell (p := ⟨b, off + u, none⟩) hb).trans (HC.out u (by rw [HL.out]; exact hlt))
          have HZ := Lib.hid hz
          clear hz
          have i1 : (0 : Int) ≤ (u : Int) := Int.natCast_nonneg _
          have i2 : (u : Int) < 8 := by omega
          have hd : decide ((u : Int) < 8) = true := by simp; omega
          rcases (by omega : z < -1099511627776 ∨ (-1099511627776 ≤ z ∧ 1099511627776 < z) ∨ (-1099511627776 ≤ z ∧ z ≤ 1099511627776)) with hz | ⟨hz1, hz2⟩ | ⟨hz1, hz2⟩
          · have d1 : decide (z < -1099511627776) = true := by simp; omega
            go_wp2_with fail
            refine bodyPost_ret (results_tmp2 rfl _ _ _) rfl ?_
            have he := lineE_bad HL.out hlt (by rw [HZ.out]; exact .inl hz)
            rw [he.1, he.2]
            exact ⟨_, rfl, Res.nil _ _, hB.trans (hB2.mono hB.size)⟩
          · have d1 : decide (z < -1099511627776) = false := by simp; omega
            have d2 : decide (1099511627776 < z) = true := by simp; omega
            go_wp2_with fail
            refine bodyPost_ret (results_tmp2 rfl _ _ _) rfl ?_
            have he := lineE_bad HL.out hlt (by rw [HZ.out]; exact .inr hz2)
            rw [he.1, he.2]
            exact ⟨_, rfl, Res.nil _ _, hB.trans (hB2.mono hB.size)⟩
          · have d1 : decide (z < -1099511627776) = false := by simp; omega
            have d2 : decide (1099511627776 < z) = false := by simp; omega
            have hw := wS_bd ⟨u, hlt⟩ ⟨x, hlx⟩
            have t1 := mul_bd (wS u x) z 1099511627776 hw.1 hw.2 hz1 hz2
            have t2 := sum_bd xs x hlx 1099511627776 (by omega) u (by omega) HA.out
            obtain ⟨c, hc⟩ : ∃ c, wS u x = c := ⟨_, rfl⟩
            obtain ⟨y, hy⟩ : ∃ y, lineP xs x u = y := ⟨_, rfl⟩
            have hC : ∀ W, W.cell? ⟨b, off + u, none⟩ = some (.int .i64 z) → Calls Try.prog 27 #[.int .i64 (u : Int), .int .i64 (x : Int)] W fun e w' => e = .returned (.int .i64 c) ∧ w'.cell? ⟨b, off + u, none⟩ = some (.int .i64 z) ∧ Below W.heap.size W w' := by
              intro W hW
              rw [← hc]
              exact weight_keep u x hlt hlx W _ hW
            rw [hc] at t1
            rw [hy] at t2 ⊢
            have HCC := Lib.hid hC
            have HC2 := Lib.hid hc
            have HY := Lib.hid hy
            clear hC hc hy hw
            have t3 : -9007199254740992 * 2 ≤ y ∧ y ≤ 9007199254740992 * 2 := by
              have a1 : (u : Int) * (2048 * 1099511627776) ≤ 8 * (2048 * 1099511627776) := Int.mul_le_mul_of_nonneg_right (by omega) (by omega)
              omega
            obtain ⟨t1a, t1b⟩ := t1
            obtain ⟨t3a, t3b⟩ := t3
            clear t2
            go_wp2_with fail
            have j1 : IntKind.i64.wrap (c * z) = c * z := IntWalk.i64_in _ (by omega)
            have j2 : IntKind.i64.wrap (y + c * z) = y + c * z := IntWalk.i64_in _ (by omega)
            go_region_held3 (fun w' => w'.cell? ⟨b, off + u, none⟩ = some (.int .i64 z)) (go_keep)
              (first | (go_at_call 27; go_must (refine (HCC.out wr.drew hcell).mono ?_); rintro e w' ⟨rfl, hc', hb'⟩))
            clear j1 j2
            go_wp2_with fail
            go_roundg (7 - u)
            case measure => have := HU.out; omega
            case rel => exact ⟨u + 1, by omega, by go_num, by simp only [lineP]; rw [HC2.out, HY.out, HZ.out], bt hB2.drew hb', fun j hj => by
              rcases (by omega : j < u ∨ j = u) with h1 | h1
              · exact HA.out j h1
              · rw [h1, HZ.out]; exact ⟨hz1, hz2⟩⟩
        · have hu' : u = 8 := by omega
          subst hu'
          have h8 : Eight 1099511627776 xs := ⟨HL.out, fun j hj => HA.out j hj⟩
          have H8 := Lib.hid h8
          have HO2 := Lib.hid (HO.out.below hB2)
          have HL2 := Lib.hid (lineN_len xs x)
          clear hlt h8 hu8
          obtain ⟨y, hy⟩ : ∃ y, lineP xs x 8 = y := ⟨_, rfl⟩
          rw [hy]
          have HY := Lib.hid hy
          clear hy
          go_wp2_with (at_builtin; refine wpList_append_own _ rfl _ _ 22 rfl w.heap.size 3 i0 (.int .i64 0) 1 8 Try.underlying22 hi0 hz0 hz1 hz2 rfl (by decide) _ _ _ rfl (World.ownsRow.alloc HO2.out _) ⟨wr.heap.size, 0, none⟩ 1 1 [.int .i64 y] rfl rfl (cell_one_new _ _ _) (by intro u hu; simp at hu; subst hu; rfl) (by rw [HL2.out]; simp only [maxLen]; omega) (by rw [HL2.out]; omega) (by have := hB2.size; have := hB.size; simp; omega) ?_; intro v' w2 hown2 hg2 hnil2)
          have hS : Own w2 w.heap.size v' (lineN xs (x + 1)) := by
            unfold Own
            rw [lineN_succ, HY.out, List.map_append, List.length_append]
            exact hown2
          have hB3 := hB.trans (hB2.mono hB.size)
          have hB4 : Below w.heap.size w w2 := (hB3.alloc hB3.size _).grown hg2 (by have := hB3.size; simp; omega) (fun j hj => (World.ownsRow.lt HO2.out j hj).1)
          have HS := Lib.hid hS
          clear hS hown2 hg2 hnil2 hB3
          go_wp2_with fail
          go_roundg (7 - x)
          case measure => have := HX.out; omega
          case rel => exact ⟨x + 1, by omega, by go_num, HS.out, hB4, .inr H8.out⟩
    · have hx' : x = 8 := by omega
      subst hx'
      clear hlx hx8
      have h8 : Eight 1099511627776 xs := by
        rcases HE.out with h | h
        · omega
        · exact h
      have H8 := Lib.hid h8
      clear h8
      go_wp2
      refine bodyPost_ret (results_tmp2 rfl _ _ _) rfl ?_
      have he := lineE_good H8.out
      rw [he.1, he.2]
      exact ⟨_, rfl, Res.of_own HO.out, hB⟩

theorem refLine_any (v : Value) (xs : List Int) (w : World) (h : Rd w w.heap.size v xs) :
    Calls Try.prog 20 #[v] w (IntsR w.heap.size (lineE xs) (lineR xs) w) := by
  by_cases hlen : xs.length = 8
  · exact refLine_8 v xs hlen w h
  · have he := lineE_len hlen
    rw [he.1, he.2]
    obtain ⟨a, cap, rfl, _⟩ := h
    clear he
    generalize xs.length = n at hlen
    have hd : ((n : Int) == 8) = false := by simp; omega
    have hd2 : ((n : Int) != 8) = true := by simp; omega
    go_enter Try.func20, Try.ntmps20
    go_wp2
    refine bodyPost_ret (results_tmp2 rfl _ _ _) rfl ?_
    exact ⟨_, rfl, Res.nil _ _, Below.refl _ _⟩

end Go.Proofs.Ytpdggfjpbdidlaa
