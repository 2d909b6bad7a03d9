/-
  The walk of the reference's Inverse: it returns the samples, or why not. Conditions: what comes in reads as a list of numbers.
-/
import Derived.Test.YtpdggfjpbdidlaaWalkN
import Derived.Test.YtpdggfjpbdidlaaRef
import Derived.BigRegion
namespace Go.Proofs.Ytpdggfjpbdidlaa
open Go.RowKit

theorem idx_facts (n k : Nat) (hn : n < 64) (hk : k < 64) : (n : Int).tdiv 8 = ((n / 8 : Nat) : Int) ∧ (n : Int).tmod 8 = ((n % 8 : Nat) : Int) ∧ (k : Int).tdiv 8 = ((k / 8 : Nat) : Int) ∧ (k : Int).tmod 8 = ((k % 8 : Nat) : Int) ∧
    wrap64 ((n / 8 : Nat) : Int) = ((n / 8 : Nat) : Int) ∧ wrap64 ((k / 8 : Nat) : Int) = ((k / 8 : Nat) : Int) ∧
    IntKind.i64.wrap (((n % 8 : Nat) : Int) * 8) = ((n % 8 : Nat) : Int) * 8 ∧ IntKind.i64.wrap (((n / 8 : Nat) : Int) * 8) = ((n / 8 : Nat) : Int) * 8 ∧
    IntKind.i64.wrap (((n % 8 : Nat) : Int) * 8 + ((k % 8 : Nat) : Int)) = ((8 * (n % 8) + k % 8 : Nat) : Int) ∧ IntKind.i64.wrap (((n / 8 : Nat) : Int) * 8 + ((k / 8 : Nat) : Int)) = ((8 * (n / 8) + k / 8 : Nat) : Int) ∧
    ((8 * (n % 8) + k % 8 : Nat) : Int) < 64 ∧ ((8 * (n / 8) + k / 8 : Nat) : Int) < 64 := by
  refine ⟨?_, ?_, ?_, ?_, ?_, ?_, ?_, ?_, ?_, ?_, ?_, ?_⟩
  · rw [Int.tdiv_eq_ediv_of_nonneg (by omega)]; rfl
  · rw [Int.tmod_eq_emod_of_nonneg (by omega)]; rfl
  · rw [Int.tdiv_eq_ediv_of_nonneg (by omega)]; rfl
  · rw [Int.tmod_eq_emod_of_nonneg (by omega)]; rfl
  · exact IntWalk.wrap64_in _ (by omega)
  · exact IntWalk.wrap64_in _ (by omega)
  · exact IntWalk.i64_in _ (by omega)
  · exact IntWalk.i64_in _ (by omega)
  · rw [IntWalk.i64_in _ (by omega)]; omega
  · rw [IntWalk.i64_in _ (by omega)]; omega
  · omega
  · omega

theorem blk_made (w : World) : Blk (w.alloc (.cells zeros64 3)) w.heap.size 3 (List.replicate 64 0) := by
  have e : zeros64 = cel (List.replicate 64 0) := by
    apply Array.ext'
    unfold zeros64 cel
    rw [toList_madeCells_one, List.map_replicate]
  rw [e]
  exact Blk.new w 3 _

set_option maxRecDepth 100000 in
set_option maxHeartbeats 4000000 in
theorem refInverse_64 (v : Value) (xs : List Int) (hlen : xs.length = 64) (w : World) (h : Rd w w.heap.size v xs) :
    Calls Try.prog 16 #[v] w (IntsR w.heap.size (invE xs) (invR xs) w) := by
  obtain ⟨a, cap, rfl, _, hc⟩ := h
  obtain ⟨b, off, rfl, hb, hc⟩ := hc (by intro e; subst e; simp at hlen)
  have HC := Lib.hid hc
  have HL := Lib.hid hlen
  rw [hlen]
  clear hc hlen
  go_enter Try.func16, Try.ntmps16
  go_wp2_with fail
  go_loopg [4] 64 (fun gh i wr => ∃ k : Nat, gh + k = 64 ∧ i = .int .i64 (k : Int) ∧ w = wr ∧ ∀ j, j < k → -2048 ≤ xs.getD j 0 ∧ xs.getD j 0 ≤ 2047)
  case atStart => exact ⟨0, rfl, rfl, rfl, fun j hj => by omega⟩
  case round =>
    obtain ⟨k, hk, rfl, rfl, hA⟩ := hrel
    have HK := Lib.hid hk
    have HA := Lib.hid hA
    have hk8 : k ≤ 64 := by omega
    clear hk hA
    by_cases hlt : k < 64
    · obtain ⟨z, hz⟩ : ∃ z, xs.getD k 0 = z := ⟨_, rfl⟩
      have hcell := HC.out k (by rw [HL.out]; exact hlt)
      rw [hz] at hcell
      have HZ := Lib.hid hz
      clear hz
      have hi : (k : Int) < 64 := by omega
      have hi0 : (0 : Int) ≤ (k : Int) := Int.natCast_nonneg _
      have hd : decide ((k : Int) < 64) = true := by simp; omega
      rcases (by omega : z < -2048 ∨ (-2048 ≤ z ∧ 2047 < z) ∨ (-2048 ≤ z ∧ z ≤ 2047)) with hz | ⟨hz1, hz2⟩ | ⟨hz1, hz2⟩
      · have d1 : decide (z < -2048) = true := by simp; omega
        go_wp2_with fail
        refine bodyPost_ret (results_tmp2 rfl _ _ _) rfl ?_
        have he := invE_bad HL.out hlt (by rw [HZ.out]; exact .inl hz)
        rw [he.1, he.2]
        exact ⟨_, rfl, Res.nil _ _, Below.refl _ _⟩
      · have d1 : decide (z < -2048) = false := by simp; omega
        have d2 : decide (2047 < z) = true := by simp; omega
        go_wp2_with fail
        refine bodyPost_ret (results_tmp2 rfl _ _ _) rfl ?_
        have he := invE_bad HL.out hlt (by rw [HZ.out]; exact .inr hz2)
        rw [he.1, he.2]
        exact ⟨_, rfl, Res.nil _ _, Below.refl _ _⟩
      · have d1 : decide (z < -2048) = false := by simp; omega
        have d2 : decide (2047 < z) = false := by simp; omega
        go_wp2_with fail
        go_roundg (63 - k)
        case measure => have := HK.out; omega
        case rel => exact ⟨k + 1, by omega, by go_num, rfl, fun j hj => by
          rcases (by omega : j < k ∨ j = k) with h1 | h1
          · exact HA.out j h1
          · rw [h1, HZ.out]; exact ⟨hz1, hz2⟩⟩
    · have hge : 64 ≤ k := by omega
      have h8 : Blk64 xs := ⟨HL.out, fun u hu => HA.out u (by omega)⟩
      have H8 := Lib.hid h8
      obtain rfl : k = 64 := by omega
      clear hlt h8 hge hk8 HA HK
      go_wp2_with fail
      go_loopg [6] 64 (fun gh i wr => ∃ k : Nat, gh + k = 64 ∧ i = .int .i64 (k : Int) ∧ Below w.heap.size w wr ∧ ∃ ys, Wts k ys ∧ Blk wr w.heap.size 40 ys)
      case atStart => exact ⟨0, rfl, rfl, (Below.refl _ _).alloc (Nat.le_refl _) _, _, Wts.zero, heap_alloc_new w _⟩
      case round =>
        obtain ⟨k, hk, rfl, hB, ys, hY, hK⟩ := hrel
        have HK := Lib.hid hk
        have HB := Lib.hid hB
        have HY := Lib.hid hY
        have HBL := Lib.hid hK
        have hk8 : k ≤ 64 := by omega
        clear hk hB hY hK
        by_cases hlt : k < 64
        · have hi : (k : Int) < 64 := by omega
          have hi0 : (0 : Int) ≤ (k : Int) := Int.natCast_nonneg _
          have hd : decide ((k : Int) < 64) = true := by simp; omega
          have e1 : (k : Int).tdiv 8 = ((k / 8 : Nat) : Int) := by rw [Int.tdiv_eq_ediv_of_nonneg (by omega)]; rfl
          have e2 : (k : Int).tmod 8 = ((k % 8 : Nat) : Int) := by rw [Int.tmod_eq_emod_of_nonneg (by omega)]; rfl
          have HW := Lib.hid (weight_any (k / 8) (k % 8) (by omega) (by omega))
          obtain ⟨z, hz⟩ : ∃ z, wS (k / 8) (k % 8) = z := ⟨_, rfl⟩
          rw [hz] at HW
          have HZ := Lib.hid hz
          obtain ⟨p, hp⟩ : ∃ p, k / 8 = p := ⟨_, rfl⟩
          obtain ⟨q, hq⟩ : ∃ q, k % 8 = q := ⟨_, rfl⟩
          rw [hp] at e1 HW
          rw [hq] at e2 HW
          have hp8 : p < 8 := by omega
          clear hz hp hq
          have e3 : wrap64 (p : Int) = (p : Int) := by unfold wrap64; omega
          go_wp2_with (go_at_call 27; refine (HW.out wr).mono ?_; rintro e w2 ⟨rfl, hb2⟩
                       have HB2 := Lib.hid (bt HB.out hb2)
                       have HBL2 := Lib.hid (HBL.out.later hb2)
                       have c1 := HBL2.out.cell k (by rw [HY.out.1]; exact hlt)
                       have f1 := HBL2.out.frozen k
                       clear hb2)
          go_roundg (63 - k)
          case measure => have := HK.out; omega
          case rel => exact ⟨k + 1, by omega, by go_num, HB2.out.setCell (p := ⟨w.heap.size, k, none⟩) (Nat.le_refl _) _, _, HY.out.set z hlt HZ.out.symm, HBL2.out.set k z⟩
        · obtain rfl : k = 64 := by omega
          have hys := HY.out.all
          rw [hys] at HBL
          clear hys HY HK hk8 hlt
          have hmk := make64
          go_wp2_with fail
          clear hmk
          have O1 := blk_made wr
          have hB2 := HB.out.alloc HB.out.size (.cells zeros64 3)
          have hW2 := HBL.out.alloc (.cells zeros64 3)
          have hs2 := HB.out.size
          obtain ⟨w2, hw2⟩ : ∃ w2, wr.alloc (.cells zeros64 3) = w2 := ⟨_, rfl⟩
          obtain ⟨g, hg⟩ : ∃ g, wr.heap.size = g := ⟨_, rfl⟩
          have hgw : w.heap.size < g := by rw [← hg]; have := HBL.out.lt; omega
          rw [hw2, hg] at O1
          rw [hw2] at hB2 hW2
          rw [hw2, hg]
          clear hw2 hg hs2 HB HBL
          have HX : Hid (∀ j, j < 64 → -2048 ≤ xs.getD j 0 ∧ xs.getD j 0 ≤ 2048) := Lib.hid (fun j hj => by have := H8.out.2 j hj; omega)
          go_loopg [8] 64 (fun gh i wr => ∃ n : Nat, gh + n = 64 ∧ i = .int .i64 (n : Int) ∧ Below w.heap.size w wr ∧ Blk wr w.heap.size 40 wL ∧ Blk wr g 3 (refL xs n))
          case atStart => exact ⟨0, rfl, rfl, hB2, hW2, by rw [refL_zero]; exact O1⟩
          case round =>
            clear hB2 hW2 O1
            obtain ⟨n, hn, rfl, hB, hW, hO⟩ := hrel
            have HN := Lib.hid hn
            have HB := Lib.hid hB
            have HWW := Lib.hid hW
            have HO := Lib.hid hO
            have hn8 : n ≤ 64 := by omega
            clear hn hB hW hO
            by_cases hlt : n < 64
            · have hi : (n : Int) < 64 := by omega
              have hi0 : (0 : Int) ≤ (n : Int) := Int.natCast_nonneg _
              have hd : decide ((n : Int) < 64) = true := by simp; omega
              have hcell := HB.out.cell (p := ⟨b, off + n, none⟩) hb
              rw [HC.out n (by rw [HL.out]; exact hlt)] at hcell
              obtain ⟨z, hz⟩ : ∃ z, xs.getD n 0 = z := ⟨_, rfl⟩
              rw [hz] at hcell
              have HZ := Lib.hid hz
              clear hz
              by_cases h0 : z = 0
              · subst h0
                go_wp2_with fail
                go_roundg (63 - n)
                case measure => have := HN.out; omega
                case rel => exact ⟨n + 1, by omega, by go_num, HB.out, HWW.out, by rw [refL_nought xs n HZ.out]; exact HO.out⟩
              · have hz0 : (z == 0) = false := by simpa using h0
                clear h0
                go_wp2_with fail
                obtain ⟨wo, hwo⟩ : ∃ wo : World, wo = wr := ⟨_, rfl⟩
                clear hwo
                go_loopg [9] 64 (fun gh i wr => ∃ k : Nat, gh + k = 64 ∧ i = .int .i64 (k : Int) ∧ Below w.heap.size w wr ∧ Blk wr w.heap.size 40 wL ∧ Blk wr g 3 (refM xs n k))
                case atStart => exact ⟨0, rfl, rfl, HB.out, HWW.out, by rw [refM_zero]; exact HO.out⟩
                case round =>
                  clear HB HWW HO hcell
                  obtain ⟨k, hk, rfl, hB, hW, hO⟩ := hrel
                  have HK := Lib.hid hk
                  have HB := Lib.hid hB
                  have HWW := Lib.hid hW
                  have HO := Lib.hid hO
                  have hk8 : k ≤ 64 := by omega
                  clear hk hB hW hO
                  by_cases hkt : k < 64
                  · have k1 : (k : Int) < 64 := by omega
                    have k0 : (0 : Int) ≤ (k : Int) := Int.natCast_nonneg _
                    have hdk : decide ((k : Int) < 64) = true := by simp; omega
                    have hcell := HB.out.cell (p := ⟨b, off + n, none⟩) hb
                    rw [HC.out n (by rw [HL.out]; exact hlt), HZ.out] at hcell
                    obtain ⟨⟨t1, t2⟩, t3, t4⟩ := addT_parts xs k n hkt hlt (HX.out n hlt).1 (HX.out n hlt).2
                    obtain ⟨t5, t6⟩ := sumT_bd xs HX.out k hkt n hn8
                    have HNX := Lib.hid (refM_next xs n k hkt)
                    have o1 := HO.out.cell k (by rw [refM_len]; exact hkt)
                    rw [refM_get xs n k hkt] at o1
                    have o2 := HO.out.frozen k
                    have w1 := HWW.out.cell (8 * (n % 8) + k % 8) (by rw [wL_len]; omega)
                    rw [wL_get (n % 8) (k % 8) (by omega) (by omega)] at w1
                    have w2' := HWW.out.cell (8 * (n / 8) + k / 8) (by rw [wL_len]; omega)
                    rw [wL_get (n / 8) (k / 8) (by omega) (by omega)] at w2'
                    have HADD := Lib.hid (show addT xs k n = wS (n % 8) (k % 8) * wS (n / 8) (k / 8) * z by unfold addT; rw [HZ.out])
                    rw [HADD.out] at t3 t4 HNX
                    generalize sumT xs k n = y at t5 t6 o1 HNX
                    generalize wS (n % 8) (k % 8) = c at t1 t2 t3 t4 w1 HNX HADD
                    generalize wS (n / 8) (k / 8) = d at t1 t2 t3 t4 w2' HNX HADD
                    have t7 : (n : Int) * 8589934592 ≤ 64 * 8589934592 := by omega
                    have j1 : IntKind.i64.wrap (c * d) = c * d := IntWalk.i64_in _ (by omega)
                    have j2 : IntKind.i64.wrap (c * d * z) = c * d * z := IntWalk.i64_in _ (by omega)
                    have j3 : IntKind.i64.wrap (y + c * d * z) = y + c * d * z := IntWalk.i64_in _ (by omega)
                    obtain ⟨e1, e2, e3, e4, v1, v2, v3, v4, v5, v6, q1, q2⟩ := idx_facts n k hlt hkt
                    obtain ⟨p1, hp1⟩ : ∃ p, 8 * (n % 8) + k % 8 = p := ⟨_, rfl⟩
                    obtain ⟨p2, hp2⟩ : ∃ p, 8 * (n / 8) + k / 8 = p := ⟨_, rfl⟩
                    rw [hp1] at w1 v5 q1
                    rw [hp2] at w2' v6 q2
                    obtain ⟨n1, hn1⟩ : ∃ p, n % 8 = p := ⟨_, rfl⟩
                    obtain ⟨n2, hn2⟩ : ∃ p, n / 8 = p := ⟨_, rfl⟩
                    obtain ⟨k1', hk1⟩ : ∃ p, k % 8 = p := ⟨_, rfl⟩
                    obtain ⟨k2', hk2⟩ : ∃ p, k / 8 = p := ⟨_, rfl⟩
                    rw [hn1] at e2 v3 v5
                    rw [hn2] at e1 v1 v4 v6
                    rw [hk1] at e4 v5
                    rw [hk2] at e3 v2 v6
                    have q3 : (0 : Int) ≤ (p1 : Int) := Int.natCast_nonneg _
                    have q4 : (0 : Int) ≤ (p2 : Int) := Int.natCast_nonneg _
                    clear t1 t2 t3 t4 t5 t6 t7 hp1 hp2 hn1 hn2 hk1 hk2 hdk hd
                    have hdk : decide ((k : Int) < 64) = true := by simp; omega
                    go_wp2_with fail
                    go_region
                    go_wp2_with fail
                    go_roundg (63 - k)
                    case measure => have := HK.out; omega
                    case rel => exact ⟨k + 1, by omega, by go_num, (HB.out.setCell (p := ⟨g, k, none⟩) (by show w.heap.size ≤ g; omega) _).drew, (HWW.out.far (show w.heap.size ≠ g by omega) _).drew, by rw [← HNX.out]; exact (HO.out.set k _).drew⟩
                  · obtain rfl : k = 64 := by omega
                    have hb2 := HO.out
                    rw [refM_all] at hb2
                    have HO2 := Lib.hid hb2
                    clear hkt hk8 hb2 hd
                    go_wp2_with fail
                    go_roundg (63 - n)
                    case measure => have := HN.out; omega
                    case rel => exact ⟨n + 1, by omega, by go_num, HB.out, HWW.out, HO2.out⟩
            · obtain rfl : n = 64 := by omega
              have HRB : Hid (∀ j, j < 64 → -549755813888 ≤ (refL xs 64).getD j 0 ∧ (refL xs 64).getD j 0 ≤ 549755813888) := Lib.hid (fun j hj => by
                have := sumT_bd xs HX.out j hj 64 (by omega)
                unfold refL
                rw [range_get _ j hj]
                omega)
              clear hlt hn8
              go_wp2_with fail
              obtain ⟨wo, hwo⟩ : ∃ wo : World, wo = wr := ⟨_, rfl⟩
              clear hwo
              go_loopg [10] 64 (fun gh i wr => ∃ k : Nat, gh + k = 64 ∧ i = .int .i64 (k : Int) ∧ Below w.heap.size w wr ∧ Blk wr g 3 (rndTo k (refL xs 64)))
              case atStart => exact ⟨0, rfl, rfl, HB.out, by rw [rndTo_zero]; exact HO.out⟩
              case round =>
                obtain ⟨j, hj, rfl, hBr, hKr⟩ := hrel
                have HJ := Lib.hid hj
                have HBR := Lib.hid hBr
                have HKR := Lib.hid hKr
                have hj8 : j ≤ 64 := by omega
                clear hj hBr hKr
                by_cases hlt : j < 64
                · obtain ⟨z, hz⟩ : ∃ z, (refL xs 64).getD j 0 = z := ⟨_, rfl⟩
                  have hcell := HKR.out.cell j (by rw [rndTo_len, refL_len]; exact hlt)
                  rw [rndTo_get, hz] at hcell
                  have hfr := HKR.out.frozen j
                  have hzb := HRB.out j hlt
                  rw [hz] at hzb
                  have HNX := Lib.hid (rndTo_next j (refL xs 64) (by rw [refL_len]; exact hlt))
                  rw [hz] at HNX
                  have hi : (j : Int) < 64 := by omega
                  have hi0 : (0 : Int) ≤ (j : Int) := Int.natCast_nonneg _
                  have hd : decide ((j : Int) < 64) = true := by simp; omega
                  have j1 : IntKind.i64.wrap (z + 8388608) = z + 8388608 := IntWalk.i64_in _ (by omega)
                  clear hz hlt
                  go_wp2_with fail
                  go_roundg (63 - j)
                  case measure => have := HJ.out; omega
                  case rel => exact ⟨j + 1, by omega, by go_num, HBR.out.setCell (p := ⟨g, j, none⟩) (by show w.heap.size ≤ g; omega) _, by rw [← HNX.out]; exact HKR.out.set j (rnd z)⟩
                · obtain rfl : j = 64 := by omega
                  clear hlt
                  go_wp2_with fail
                  have hend := HKR.out
                  rw [rndTo_all _ (refL_len xs 64), refL_inv xs HL.out] at hend
                  have he := invE_good H8.out
                  rw [he.1, he.2]
                  refine bodyPost_ret (results_tmp2 rfl _ _ _) rfl ?_
                  exact ⟨_, rfl, Res.of_blk hend (by omega) 64 (invL_len xs H8.out.1), HBR.out⟩

theorem refInverse_any (v : Value) (xs : List Int) (w : World) (h : Rd w w.heap.size v xs) :
    Calls Try.prog 16 #[v] w (IntsR w.heap.size (invE xs) (invR xs) w) := by
  by_cases hlen : xs.length = 64
  · exact refInverse_64 v xs hlen w h
  · have he := invE_len hlen
    rw [he.1, he.2]
    obtain ⟨a, cap, rfl, _⟩ := h
    clear he
    generalize xs.length = n at hlen
    have hd : ((n : Int) == 64) = false := by simp; omega
    have hd2 : ((n : Int) != 64) = true := by simp; omega
    go_enter Try.func16, Try.ntmps16
    go_wp2
    refine bodyPost_ret (results_tmp2 rfl _ _ _) rfl ?_
    exact ⟨_, rfl, Res.nil _ _, Below.refl _ _⟩

theorem invR_len (xs : List Int) : (invR xs).length ≤ 64 := by
  unfold invR
  split
  · rename_i h
    rw [invL_len xs h.1]; exact Nat.le_refl _
  · simp

set_option maxRecDepth 100000 in
set_option maxHeartbeats 4000000 in
theorem inverts_walk (v : Value) (xs : List Int) (w : World) (hmax : xs.length ≤ 9223372036854775807) (h : Rd w w.heap.size v xs) :
    Calls Try.prog 5 #[v] w fun e w' => e = .returned (.bool true) ∧ Below w.heap.size w w' := by
  obtain ⟨a, cap, rfl, _⟩ := id h
  have H := Lib.hid h
  clear h
  by_cases hlen : 80 < xs.length
  · generalize xs.length = n at hlen hmax H
    have hd : decide ((80 : Int) < (n : Int)) = true := by simp; omega
    go_enter Try.func5, Try.ntmps5
    go_wp2_with (go_at_call 14; refine (awake_true _).mono ?_; rintro e w' ⟨rfl, hb'⟩)
    go_ret
    exact ⟨rfl, hb'⟩
  · have hl80 : xs.length ≤ 80 := by omega
    have HL := Lib.hid hl80
    have HR := Lib.hid (invR_len xs)
    obtain ⟨n, hn⟩ : ∃ n, xs.length = n := ⟨_, rfl⟩
    have HN := Lib.hid hn
    have hd : decide ((80 : Int) < (n : Int)) = false := by simp; omega
    rw [hn] at H ⊢
    have HA := Lib.hid (Inverse_any (xs := xs))
    have HB := Lib.hid (refInverse_any (xs := xs))
    generalize invE xs = le at HA HB
    generalize invR xs = ys at HA HB HR
    clear hlen hl80 hmax hn
    go_enter Try.func5, Try.ntmps5
    go_wp2_with fail
    refine (copy_any _ xs HL.out _ H.out).mono ?_
    rintro e w1 ⟨v0, rfl, O0, b1⟩
    go_wp2_with fail
    refine (HA.out v0 _ O0.rd).mono ?_
    rintro e w2 ⟨va, rfl, Ra, b2⟩
    have B2 := bt b1 b2
    go_wp2_with fail
    refine (HB.out _ _ (H.out.later B2)).mono ?_
    rintro e w3 ⟨vb, rfl, Rb, b3⟩
    go_wp2_with fail
    refine (same_any va vb ys _ (by have := HR.out; omega) (Ra.rd2 b3) Rb.rd).mono ?_
    rintro e w6 ⟨rfl, b6⟩
    go_wp2_with fail
    have B26 : Below w2.heap.size w2 w6 := bt b3 b6
    refine (over_any va ys w1.heap.size w6 (by have := HR.out; omega) (Ra.below B26)).mono ?_
    rintro e w7 ⟨⟨u2, rfl⟩, g7⟩
    have la := Ra.lt
    have B16 : Below w1.heap.size w1 w6 := bt b2 B26
    have B17 : Below w1.heap.size w1 w7 := B16.grown g7 B16.size (fun k hk => (la k hk).1)
    have B7 := bt b1 B17
    go_wp2_with fail
    refine (same_any v0 _ xs _ (by have := HL.out; omega) (O0.rd2 B17) (H.out.later B7)).mono ?_
    rintro e w8 ⟨rfl, b8⟩
    go_wp2_with fail
    refine (awake_true _).mono ?_
    rintro e w9 ⟨rfl, b9⟩
    go_wp2_with fail
    go_ret
    exact ⟨rfl, bt (bt B7 b8) b9⟩

end Go.Proofs.Ytpdggfjpbdidlaa
