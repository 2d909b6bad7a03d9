/-
  The walk of Inverse: it returns the samples, or why not. Conditions: what comes in reads as a list of numbers.
-/
import Derived.Test.YtpdggfjpbdidlaaWalkI
import Derived.Test.YtpdggfjpbdidlaaSums
import Derived.Test.YtpdggfjpbdidlaaWalkF
import Derived.Deep.RegionHeld3
import Derived.Deep.CutRange
import Derived.Deep.MidRow
namespace Go.Proofs.Ytpdggfjpbdidlaa
open Go.RowKit

theorem each_rows (c : Int) (xs : List Int) (hX : Bd c xs) (hc : c ≤ 1099511627776) (bb bw : Nat) (hne : bb ≠ bw) (w : World) (hB : Blk w bb 40 xs) (hW : Blk w bw 42 wL) :
    Calls Try.prog 26 #[.pointer (some ⟨bb, 0, none⟩), .int .i64 8, .int .i64 1, .pointer (some ⟨bw, 0, none⟩)] w fun e W' =>
      (∃ v, e = .returned v) ∧ Blk W' bb 40 (allL 8 1 xs) ∧ w.grownBy W' (some bb) :=
  (callsIn_wide (n := 8)).1 (each_in 8 (by omega) 8 1 bb bw xs sep81.2.2 (by omega) (by omega) hne w hX.1 hB hW (hX.lines 8 1 sep81 hc))
theorem each_columns (c : Int) (xs : List Int) (hX : Bd c xs) (hc : c ≤ 1099511627776) (bb bw : Nat) (hne : bb ≠ bw) (w : World) (hB : Blk w bb 40 xs) (hW : Blk w bw 42 wL) :
    Calls Try.prog 26 #[.pointer (some ⟨bb, 0, none⟩), .int .i64 1, .int .i64 8, .pointer (some ⟨bw, 0, none⟩)] w fun e W' =>
      (∃ v, e = .returned v) ∧ Blk W' bb 40 (allL 1 8 xs) ∧ w.grownBy W' (some bb) :=
  (callsIn_wide (n := 8)).1 (each_in 8 (by omega) 1 8 bb bw xs sep18.2.2 (by omega) (by omega) hne w hX.1 hB hW (hX.lines 1 8 sep18 hc))

/-- 64 numbers from -2048 to 2047. -/
def Blk64 (xs : List Int) : Prop := xs.length = 64 ∧ ∀ j, j < 64 → -2048 ≤ xs.getD j 0 ∧ xs.getD j 0 ≤ 2047
theorem Blk64.bd {xs : List Int} (h : Blk64 xs) : Bd 2048 xs := ⟨h.1, fun j hj => by have := h.2 j hj; omega⟩

open Classical in
/-- What Inverse answers. -/
noncomputable def invE (xs : List Int) : Int := if xs.length = 64 then (if Blk64 xs then 0 else 3) else 2
open Classical in
noncomputable def invR (xs : List Int) : List Int := if Blk64 xs then invL xs else []

theorem invE_len {xs : List Int} (h : xs.length ≠ 64) : invE xs = 2 ∧ invR xs = [] := by
  unfold invE invR
  rw [if_neg h, if_neg (fun k => h k.1)]
  exact ⟨rfl, rfl⟩
theorem invE_bad {xs : List Int} (h : xs.length = 64) {k : Nat} (hk : k < 64) (hz : xs.getD k 0 < -2048 ∨ 2047 < xs.getD k 0) : invE xs = 3 ∧ invR xs = [] := by
  have hn : ¬ Blk64 xs := fun h8 => by have := h8.2 k hk; omega
  unfold invE invR
  rw [if_pos h, if_neg hn, if_neg hn]
  exact ⟨rfl, rfl⟩
theorem invE_good {xs : List Int} (h : Blk64 xs) : invE xs = 0 ∧ invR xs = invL xs := by
  unfold invE invR
  rw [if_pos h.1, if_pos h, if_pos h]
  exact ⟨rfl, rfl⟩

theorem array_at40 (b off cap : Nat) (w : World) : (Instr.arrayAt 40 (.slice (some ⟨b, off, none⟩) 64 cap)).run Try.prog w = .ok (.pointer (some ⟨b, off, none⟩)) w := by kernel_rfl

/-- The first k rounded. -/
def rndTo (k : Nat) (ys : List Int) : List Int := (ys.take k).map rnd ++ ys.drop k
theorem rndTo_zero (ys : List Int) : rndTo 0 ys = ys := by simp [rndTo]
theorem rndTo_len (k : Nat) (ys : List Int) : (rndTo k ys).length = ys.length := by simp [rndTo]; omega
theorem rndTo_get (k : Nat) (ys : List Int) : (rndTo k ys).getD k 0 = ys.getD k 0 := by
  unfold rndTo
  rw [List.getD_eq_getElem?_getD, List.getD_eq_getElem?_getD]
  by_cases h : k < ys.length
  · rw [List.getElem?_append_right (by simp; omega), List.getElem?_drop]
    congr 2
    simp
    omega
  · rw [List.getElem?_eq_none (by simp; omega), List.getElem?_eq_none (by omega)]
theorem rndTo_next (k : Nat) (ys : List Int) (h : k < ys.length) : (rndTo k ys).set k (rnd (ys.getD k 0)) = rndTo (k + 1) ys := by
  unfold rndTo
  rw [List.set_append_right _ _ (by simp; omega), List.take_succ_eq_append_getElem h, List.map_append, List.drop_eq_getElem_cons h, List.getD_eq_getElem?_getD, List.getElem?_eq_getElem h]
  have e : k - ((ys.take k).map rnd).length = 0 := by simp; omega
  rw [e, List.set_cons_zero]
  simp
theorem rndTo_all (ys : List Int) (h : ys.length = 64) : rndTo 64 ys = ys.map rnd := by
  unfold rndTo
  rw [List.take_of_length_le (by omega), List.drop_of_length_le (by omega), List.append_nil]

theorem alloc_abs {K : Act → World → Prop} {a : Act} {w : World} (xs : List Int) (ty : TypeId) (h : ∀ W2, Blk W2 w.heap.size ty xs → Below w.heap.size w W2 → w.heap.size < W2.heap.size → K a W2) : K a (w.alloc (.cells (cel xs) ty)) :=
  h _ (Blk.new w ty xs) ((Below.refl _ _).alloc (Nat.le_refl _) _) (by simp)

theorem wp_store_cel {o : Oper} {a : Act} {w : World} {K : Act → World → Prop} {Q : Exit → Act → World → Prop} (ty : TypeId) (x y : Operand) (ho : o.op = .store ty x y)
    (g : Nat) (t : TypeId) (xs ys : List Int) (hx : a.eval x = .pointer (some ⟨g, 0, none⟩)) (hy : a.eval y = .agg (cel ys)) (hg : Blk w g t xs)
    (hi : (Try.prog.info? ty).map (·.size) = some (cel ys).size) (hold : xs.length = ys.length)
    (h : K (a.put o.dst undef) (w.setRow g (cel ys))) : o.wp Try.prog a w K Q := by
  unfold Oper.wp execOp
  simp only [ho, hx, hy, Instr.storeAt, Instr.sureAddr, Sem.run_bind, Sem.run_pure, Result.andThen_ok, run_storeVar_row w g t ty (cel xs) (cel ys) hg hi (by rw [cel_size, cel_size]; exact hold) (cel_one ys)]
  exact h

set_option maxRecDepth 100000 in
set_option maxHeartbeats 40000000 in
theorem Inverse_64 (v : Value) (xs : List Int) (hlen : xs.length = 64) (w : World) (h : Rd w w.heap.size v xs) :
    Calls Try.prog 11 #[v] w (IntsR w.heap.size (invE xs) (invR xs) w) := by
  obtain ⟨a, cap, rfl, _, hc⟩ := h
  obtain ⟨b, off, rfl, hb, hc⟩ := hc (by intro e; subst e; simp at hlen)
  have HC := Lib.hid hc
  have HL := Lib.hid hlen
  rw [hlen]
  clear hc hlen
  go_enter Try.func11, Try.ntmps11
  go_wp2_with fail
  go_loopg [14] 64 (fun gh i wr => ∃ k : Nat, gh + k = 64 ∧ i = .int .i64 (k : Int) ∧ w = wr ∧ ∀ j, j < k → -2048 ≤ xs.getD j 0 ∧ xs.getD j 0 ≤ 2047)
  case atStart => exact ⟨0, rfl, rfl, rfl, fun j hj => by omega⟩
  case round =>
    obtain ⟨k, hk, rfl, rfl, hA⟩ := hrel
    have HK := Lib.hid hk
    have HA := Lib.hid hA
    have hk8 : k ≤ 64 := by omega
    clear hk hA
    by_cases hlt : k < 64
    · obtain ⟨z, hz⟩ : ∃ z, xs.getD k 0 = z := ⟨_, rfl⟩
      have hcell := HC.out k (by rw [HL.out]; exact hlt)
      rw [hz] at hcell
      have HZ := Lib.hid hz
      clear hz
      have hi : (k : Int) < 64 := by omega
      have hd : decide ((k : Int) < 64) = true := by simp; omega
      rcases (by omega : z < -2048 ∨ (-2048 ≤ z ∧ 2047 < z) ∨ (-2048 ≤ z ∧ z ≤ 2047)) with hz | ⟨hz1, hz2⟩ | ⟨hz1, hz2⟩
      · have d1 : decide (z < -2048) = true := by simp; omega
        go_wp2_with fail
        refine bodyPost_ret (results_tmp2 rfl _ _ _) rfl ?_
        have he := invE_bad HL.out hlt (by rw [HZ.out]; exact .inl hz)
        rw [he.1, he.2]
        exact ⟨_, rfl, Res.nil _ _, Below.refl _ _⟩
      · have d1 : decide (z < -2048) = false := by simp; omega
        have d2 : decide (2047 < z) = true := by simp; omega
        go_wp2_with fail
        refine bodyPost_ret (results_tmp2 rfl _ _ _) rfl ?_
        have he := invE_bad HL.out hlt (by rw [HZ.out]; exact .inr hz2)
        rw [he.1, he.2]
        exact ⟨_, rfl, Res.nil _ _, Below.refl _ _⟩
      · have d1 : decide (z < -2048) = false := by simp; omega
        have d2 : decide (2047 < z) = false := by simp; omega
        go_wp2_with fail
        go_roundg (63 - k)
        case measure => have := HK.out; omega
        case rel => exact ⟨k + 1, by omega, by go_num, rfl, fun j hj => by
          rcases (by omega : j < k ∨ j = k) with h1 | h1
          · exact HA.out j h1
          · rw [h1, HZ.out]; exact ⟨hz1, hz2⟩⟩
    · have hge : 64 ≤ k := by omega
      have h8 : Blk64 xs := ⟨HL.out, fun u hu => HA.out u (by omega)⟩
      have H8 := Lib.hid h8
      clear hlt h8
      have hAA := array_at40 b off cap
      have HR : Hid (∀ W, Below w.heap.size w W → W.rangeAt b off (xs.map (Value.int .i64))) := Lib.hid (fun W hW => range_of (fun i hi => (hW.cell (p := ⟨b, off + i, none⟩) hb).trans (HC.out i hi)))
      have HI40 : Hid ((Try.prog.info? 40).map (·.size) = some (cel xs).size) := Lib.hid (by rw [cel_size, HL.out]; kernel_rfl)
      have HI40L : Hid ((Try.prog.info? 40).map (·.size) = some (xs.map (Value.int .i64)).length) := Lib.hid (by rw [List.length_map, HL.out]; kernel_rfl)
      have HN40 : Hid ((List.replicate 64 (0 : Int)).length = xs.length) := Lib.hid (by rw [HL.out]; rfl)
      go_wp2_with fail
      go_cut [6, 7] from 25 to 28 (fun s6 s7 wx => ∃ ga gb : Nat, s6 = .pointer (some ⟨ga, 0, none⟩) ∧ s7 = .pointer (some ⟨gb, 0, none⟩) ∧ w.heap.size ≤ ga ∧ w.heap.size ≤ gb ∧ ga ≠ gb ∧ Blk wx ga 40 xs ∧ Blk wx gb 42 wL ∧ Below w.heap.size w wx)
      case first =>
        obtain ⟨wd, hwd⟩ : ∃ wd, w.drew = wd := ⟨_, rfl⟩
        have hB0 : Below w.heap.size w wd := by rw [← hwd]; exact ⟨rfl, rfl, rfl, Nat.le_refl _, fun _ _ => rfl⟩
        have hsd : w.heap.size ≤ wd.heap.size := by rw [← hwd]; exact Nat.le_refl _
        refine wp_region_held_drew (S := fun w' => Below w.heap.size w w') (by kernel_rfl) (by rw [hwd]; exact hB0) (fun _ => ?_)
        rw [hwd]
        clear hwd
        refine wpAnyH_take (i := 0) (oi := _) (v := ?_) rfl (by kernel_rfl) (by kernel_rfl) (by kernel_rfl) (fun _ _ _ h => h) (Or.inl ⟨by kernel_rfl, ?_⟩) (by assumption) ?_
        rotate_left
        · rintro w0 d1
          first | (go_simp; done) | (go_simp; with_reducible rfl)
        refine wpAnyH_take (i := 1) (oi := _) (v := ?_) rfl (by kernel_rfl) (by kernel_rfl) (by kernel_rfl) (fun _ _ _ h => h) (Or.inl ⟨by kernel_rfl, ?_⟩) (by assumption) ?_
        rotate_left
        · rintro w0 d1
          first | (go_simp; done) | (go_simp; with_reducible rfl)
        try simp only [Act.put, List.getElem_toArray, List.getElem_cons_succ, List.getElem_cons_zero, List.setIfInBounds_toArray, List.set_cons_zero, List.set_cons_succ]
        refine wpAnyH_take (i := 2) (oi := _) (v := _) rfl (by kernel_rfl) (by kernel_rfl) (by kernel_rfl) (fun _ _ _ h => h) (yieldsIf_load_mid (by rfl) 40 (.tmp 26) rfl b off rfl (xs.map (Value.int .i64)) _ (fun W hW => HR.out W hW) Try.underlying40 rfl HI40L.out) (by assumption) ?_
        try simp only [Act.put, List.getElem_toArray, List.getElem_cons_succ, List.getElem_cons_zero, List.setIfInBounds_toArray, List.set_cons_zero, List.set_cons_succ]
        refine wpAnyH_ready (rs := [3, 4, 5]) (by kernel_rfl) (by simp) ?_
        refine AllReadyH.cons (o := _) rfl (fun K hK => ?_) ?_
        · rw [if_pos (by rfl)]
          go_simp
          refine (weights_any _).mono ?_
          rintro e wc ⟨rfl, bc⟩
          have sc := (bc).size
          refine hK.out _ _ (bt (hB0) bc) (fun _ => ?_)
          clear hK K
          try simp only [Act.put, List.getElem_toArray, List.getElem_cons_succ, List.getElem_cons_zero, List.setIfInBounds_toArray, List.set_cons_zero, List.set_cons_succ]
          refine wpAnyH_ready (rs := [4, 5]) (by kernel_rfl) (by simp) ?_
          refine AllReadyH.cons (o := _) rfl (fun K hK => ?_) ?_
          · rw [if_pos (by rfl)]
            go_simp
            refine alloc_abs (List.replicate 64 0) 40 ?_
            intro wa ka ba sa
            refine hK.out _ _ (bt (bt (hB0) bc) ba) (fun _ => ?_)
            clear hK K
            try simp only [Act.put, List.getElem_toArray, List.getElem_cons_succ, List.getElem_cons_zero, List.setIfInBounds_toArray, List.set_cons_zero, List.set_cons_succ]
            refine wpAnyH_ready (rs := [5]) (by kernel_rfl) (by simp) ?_
            refine AllReadyH.cons (o := _) rfl (fun K hK => ?_) AllReadyH.nil
            rw [if_pos (by rfl)]
            go_simp
            refine alloc_abs (List.replicate 64 0) 42 ?_
            intro wb kb bb sb
            refine hK.out _ _ (bt (bt (bt (hB0) bc) ba) bb) (fun _ => ?_)
            clear hK K
            try simp only [Act.put, List.getElem_toArray, List.getElem_cons_succ, List.getElem_cons_zero, List.setIfInBounds_toArray, List.set_cons_zero, List.set_cons_succ]
            refine wpAnyH_ready (rs := [6]) (by kernel_rfl) (by simp) ?_
            refine AllReadyH.cons (o := _) rfl (fun K hK => ?_) AllReadyH.nil
            rw [if_pos (by rfl)]
            refine wp_store_cel 40 (.tmp 6) (.tmp 27) rfl wc.heap.size 40 (List.replicate 64 0) xs rfl rfl ((ka).later bb) HI40.out HN40.out ?_
            have k6 := ((ka).later bb).setRow xs
            have b6 := (bt (bt (bt (hB0) bc) ba) bb).trans (below_setRow wb w.heap.size wc.heap.size (cel xs) (by omega))
            have n6 := (kb).grown (grown_setRow wb wc.heap.size (cel xs)) (fun e => by have := Option.some.inj e; omega)
            obtain ⟨w6, hw6⟩ : ∃ w6, wb.setRow wc.heap.size (cel xs) = w6 := ⟨_, rfl⟩
            rw [hw6] at k6 b6 n6 ⊢
            refine hK.out _ _ b6 (fun _ => ?_)
            clear hK K hw6
            simp only [Act.put, List.getElem_toArray, List.getElem_cons_succ, List.getElem_cons_zero]
            refine wpAnyH_ready (rs := [7]) (by kernel_rfl) (by simp) ?_
            refine AllReadyH.cons (o := _) rfl (fun K hK => ?_) AllReadyH.nil
            rw [if_pos (by rfl)]
            refine wp_store_cel 42 (.tmp 7) (.tmp 28) rfl wa.heap.size 42 (List.replicate 64 0) wL rfl rfl n6 (by kernel_rfl) rfl ?_
            have k7 := n6.setRow wL
            have b7 := b6.trans (below_setRow w6 w.heap.size wa.heap.size (cel wL) (by omega))
            have n7 := k6.grown (grown_setRow w6 wa.heap.size (cel wL)) (fun e => by have := Option.some.inj e; omega)
            obtain ⟨w7, hw7⟩ : ∃ w7, w6.setRow wa.heap.size (cel wL) = w7 := ⟨_, rfl⟩
            rw [hw7] at k7 b7 n7 ⊢
            refine hK.out _ _ b7 (fun _ => ?_)
            clear hK K hw7
            simp only [Act.put, List.getElem_toArray, List.getElem_cons_succ, List.getElem_cons_zero]
            refine wpAnyH_done (by kernel_rfl) ?_ _
            go_wp2_with fail
            go_meet
            exact ⟨wc.heap.size, wa.heap.size, rfl, rfl, by omega, by omega, by omega, n7, k7, b7⟩
          refine AllReadyH.cons (o := _) rfl (fun K hK => ?_) AllReadyH.nil
          rw [if_pos (by rfl)]
          go_simp
          refine alloc_abs (List.replicate 64 0) 42 ?_
          intro wb kb bb sb
          refine hK.out _ _ (bt (bt (hB0) bc) bb) (fun _ => ?_)
          clear hK K
          try simp only [Act.put, List.getElem_toArray, List.getElem_cons_succ, List.getElem_cons_zero, List.setIfInBounds_toArray, List.set_cons_zero, List.set_cons_succ]
          refine wpAnyH_ready (rs := [4]) (by kernel_rfl) (by simp) ?_
          refine AllReadyH.cons (o := _) rfl (fun K hK => ?_) AllReadyH.nil
          rw [if_pos (by rfl)]
          go_simp
          refine alloc_abs (List.replicate 64 0) 40 ?_
          intro wa ka ba sa
          refine hK.out _ _ (bt (bt (bt (hB0) bc) bb) ba) (fun _ => ?_)
          clear hK K
          try simp only [Act.put, List.getElem_toArray, List.getElem_cons_succ, List.getElem_cons_zero, List.setIfInBounds_toArray, List.set_cons_zero, List.set_cons_succ]
          refine wpAnyH_ready (rs := [6]) (by kernel_rfl) (by simp) ?_
          refine AllReadyH.cons (o := _) rfl (fun K hK => ?_) AllReadyH.nil
          rw [if_pos (by rfl)]
          refine wp_store_cel 40 (.tmp 6) (.tmp 27) rfl wb.heap.size 40 (List.replicate 64 0) xs rfl rfl (ka) HI40.out HN40.out ?_
          have k6 := (ka).setRow xs
          have b6 := (bt (bt (bt (hB0) bc) bb) ba).trans (below_setRow wa w.heap.size wb.heap.size (cel xs) (by omega))
          have n6 := ((kb).later ba).grown (grown_setRow wa wb.heap.size (cel xs)) (fun e => by have := Option.some.inj e; omega)
          obtain ⟨w6, hw6⟩ : ∃ w6, wa.setRow wb.heap.size (cel xs) = w6 := ⟨_, rfl⟩
          rw [hw6] at k6 b6 n6 ⊢
          refine hK.out _ _ b6 (fun _ => ?_)
          clear hK K hw6
          simp only [Act.put, List.getElem_toArray, List.getElem_cons_succ, List.getElem_cons_zero]
          refine wpAnyH_ready (rs := [7]) (by kernel_rfl) (by simp) ?_
          refine AllReadyH.cons (o := _) rfl (fun K hK => ?_) AllReadyH.nil
          rw [if_pos (by rfl)]
          refine wp_store_cel 42 (.tmp 7) (.tmp 28) rfl wc.heap.size 42 (List.replicate 64 0) wL rfl rfl n6 (by kernel_rfl) rfl ?_
          have k7 := n6.setRow wL
          have b7 := b6.trans (below_setRow w6 w.heap.size wc.heap.size (cel wL) (by omega))
          have n7 := k6.grown (grown_setRow w6 wc.heap.size (cel wL)) (fun e => by have := Option.some.inj e; omega)
          obtain ⟨w7, hw7⟩ : ∃ w7, w6.setRow wc.heap.size (cel wL) = w7 := ⟨_, rfl⟩
          rw [hw7] at k7 b7 n7 ⊢
          refine hK.out _ _ b7 (fun _ => ?_)
          clear hK K hw7
          simp only [Act.put, List.getElem_toArray, List.getElem_cons_succ, List.getElem_cons_zero]
          refine wpAnyH_done (by kernel_rfl) ?_ _
          go_wp2_with fail
          go_meet
          exact ⟨wb.heap.size, wc.heap.size, rfl, rfl, by omega, by omega, by omega, n7, k7, b7⟩
        refine AllReadyH.cons (o := _) rfl (fun K hK => ?_) ?_
        · rw [if_pos (by rfl)]
          go_simp
          refine alloc_abs (List.replicate 64 0) 40 ?_
          intro wa ka ba sa
          refine hK.out _ _ (bt (hB0) ba) (fun _ => ?_)
          clear hK K
          try simp only [Act.put, List.getElem_toArray, List.getElem_cons_succ, List.getElem_cons_zero, List.setIfInBounds_toArray, List.set_cons_zero, List.set_cons_succ]
          refine wpAnyH_ready (rs := [3, 5]) (by kernel_rfl) (by simp) ?_
          refine AllReadyH.cons (o := _) rfl (fun K hK => ?_) ?_
          · rw [if_pos (by rfl)]
            go_simp
            refine (weights_any _).mono ?_
            rintro e wc ⟨rfl, bc⟩
            have sc := (bc).size
            refine hK.out _ _ (bt (bt (hB0) ba) bc) (fun _ => ?_)
            clear hK K
            try simp only [Act.put, List.getElem_toArray, List.getElem_cons_succ, List.getElem_cons_zero, List.setIfInBounds_toArray, List.set_cons_zero, List.set_cons_succ]
            refine wpAnyH_ready (rs := [5]) (by kernel_rfl) (by simp) ?_
            refine AllReadyH.cons (o := _) rfl (fun K hK => ?_) AllReadyH.nil
            rw [if_pos (by rfl)]
            go_simp
            refine alloc_abs (List.replicate 64 0) 42 ?_
            intro wb kb bb sb
            refine hK.out _ _ (bt (bt (bt (hB0) ba) bc) bb) (fun _ => ?_)
            clear hK K
            try simp only [Act.put, List.getElem_toArray, List.getElem_cons_succ, List.getElem_cons_zero, List.setIfInBounds_toArray, List.set_cons_zero, List.set_cons_succ]
            refine wpAnyH_ready (rs := [6]) (by kernel_rfl) (by simp) ?_
            refine AllReadyH.cons (o := _) rfl (fun K hK => ?_) AllReadyH.nil
            rw [if_pos (by rfl)]
            refine wp_store_cel 40 (.tmp 6) (.tmp 27) rfl wd.heap.size 40 (List.replicate 64 0) xs rfl rfl (((ka).later bc).later bb) HI40.out HN40.out ?_
            have k6 := (((ka).later bc).later bb).setRow xs
            have b6 := (bt (bt (bt (hB0) ba) bc) bb).trans (below_setRow wb w.heap.size wd.heap.size (cel xs) (by omega))
            have n6 := (kb).grown (grown_setRow wb wd.heap.size (cel xs)) (fun e => by have := Option.some.inj e; omega)
            obtain ⟨w6, hw6⟩ : ∃ w6, wb.setRow wd.heap.size (cel xs) = w6 := ⟨_, rfl⟩
            rw [hw6] at k6 b6 n6 ⊢
            refine hK.out _ _ b6 (fun _ => ?_)
            clear hK K hw6
            simp only [Act.put, List.getElem_toArray, List.getElem_cons_succ, List.getElem_cons_zero]
            refine wpAnyH_ready (rs := [7]) (by kernel_rfl) (by simp) ?_
            refine AllReadyH.cons (o := _) rfl (fun K hK => ?_) AllReadyH.nil
            rw [if_pos (by rfl)]
            refine wp_store_cel 42 (.tmp 7) (.tmp 28) rfl wc.heap.size 42 (List.replicate 64 0) wL rfl rfl n6 (by kernel_rfl) rfl ?_
            have k7 := n6.setRow wL
            have b7 := b6.trans (below_setRow w6 w.heap.size wc.heap.size (cel wL) (by omega))
            have n7 := k6.grown (grown_setRow w6 wc.heap.size (cel wL)) (fun e => by have := Option.some.inj e; omega)
            obtain ⟨w7, hw7⟩ : ∃ w7, w6.setRow wc.heap.size (cel wL) = w7 := ⟨_, rfl⟩
            rw [hw7] at k7 b7 n7 ⊢
            refine hK.out _ _ b7 (fun _ => ?_)
            clear hK K hw7
            simp only [Act.put, List.getElem_toArray, List.getElem_cons_succ, List.getElem_cons_zero]
            refine wpAnyH_done (by kernel_rfl) ?_ _
            go_wp2_with fail
            go_meet
            exact ⟨wd.heap.size, wc.heap.size, rfl, rfl, by omega, by omega, by omega, n7, k7, b7⟩
          refine AllReadyH.cons (o := _) rfl (fun K hK => ?_) AllReadyH.nil
          rw [if_pos (by rfl)]
          go_simp
          refine alloc_abs (List.replicate 64 0) 42 ?_
          intro wb kb bb sb
          refine hK.out _ _ (bt (bt (hB0) ba) bb) (fun _ => ?_)
          clear hK K
          try simp only [Act.put, List.getElem_toArray, List.getElem_cons_succ, List.getElem_cons_zero, List.setIfInBounds_toArray, List.set_cons_zero, List.set_cons_succ]
          refine wpAnyH_ready (rs := [3]) (by kernel_rfl) (by simp) ?_
          refine AllReadyH.cons (o := _) rfl (fun K hK => ?_) AllReadyH.nil
          rw [if_pos (by rfl)]
          go_simp
          refine (weights_any _).mono ?_
          rintro e wc ⟨rfl, bc⟩
          have sc := (bc).size
          refine hK.out _ _ (bt (bt (bt (hB0) ba) bb) bc) (fun _ => ?_)
          clear hK K
          try simp only [Act.put, List.getElem_toArray, List.getElem_cons_succ, List.getElem_cons_zero, List.setIfInBounds_toArray, List.set_cons_zero, List.set_cons_succ]
          refine wpAnyH_ready (rs := [6]) (by kernel_rfl) (by simp) ?_
          refine AllReadyH.cons (o := _) rfl (fun K hK => ?_) AllReadyH.nil
          rw [if_pos (by rfl)]
          refine wp_store_cel 40 (.tmp 6) (.tmp 27) rfl wd.heap.size 40 (List.replicate 64 0) xs rfl rfl (((ka).later bb).later bc) HI40.out HN40.out ?_
          have k6 := (((ka).later bb).later bc).setRow xs
          have b6 := (bt (bt (bt (hB0) ba) bb) bc).trans (below_setRow wc w.heap.size wd.heap.size (cel xs) (by omega))
          have n6 := ((kb).later bc).grown (grown_setRow wc wd.heap.size (cel xs)) (fun e => by have := Option.some.inj e; omega)
          obtain ⟨w6, hw6⟩ : ∃ w6, wc.setRow wd.heap.size (cel xs) = w6 := ⟨_, rfl⟩
          rw [hw6] at k6 b6 n6 ⊢
          refine hK.out _ _ b6 (fun _ => ?_)
          clear hK K hw6
          simp only [Act.put, List.getElem_toArray, List.getElem_cons_succ, List.getElem_cons_zero]
          refine wpAnyH_ready (rs := [7]) (by kernel_rfl) (by simp) ?_
          refine AllReadyH.cons (o := _) rfl (fun K hK => ?_) AllReadyH.nil
          rw [if_pos (by rfl)]
          refine wp_store_cel 42 (.tmp 7) (.tmp 28) rfl wa.heap.size 42 (List.replicate 64 0) wL rfl rfl n6 (by kernel_rfl) rfl ?_
          have k7 := n6.setRow wL
          have b7 := b6.trans (below_setRow w6 w.heap.size wa.heap.size (cel wL) (by omega))
          have n7 := k6.grown (grown_setRow w6 wa.heap.size (cel wL)) (fun e => by have := Option.some.inj e; omega)
          obtain ⟨w7, hw7⟩ : ∃ w7, w6.setRow wa.heap.size (cel wL) = w7 := ⟨_, rfl⟩
          rw [hw7] at k7 b7 n7 ⊢
          refine hK.out _ _ b7 (fun _ => ?_)
          clear hK K hw7
          simp only [Act.put, List.getElem_toArray, List.getElem_cons_succ, List.getElem_cons_zero]
          refine wpAnyH_done (by kernel_rfl) ?_ _
          go_wp2_with fail
          go_meet
          exact ⟨wd.heap.size, wa.heap.size, rfl, rfl, by omega, by omega, by omega, n7, k7, b7⟩
        refine AllReadyH.cons (o := _) rfl (fun K hK => ?_) AllReadyH.nil
        rw [if_pos (by rfl)]
        go_simp
        refine alloc_abs (List.replicate 64 0) 42 ?_
        intro wb kb bb sb
        refine hK.out _ _ (bt (hB0) bb) (fun _ => ?_)
        clear hK K
        try simp only [Act.put, List.getElem_toArray, List.getElem_cons_succ, List.getElem_cons_zero, List.setIfInBounds_toArray, List.set_cons_zero, List.set_cons_succ]
        refine wpAnyH_ready (rs := [3, 4]) (by kernel_rfl) (by simp) ?_
        refine AllReadyH.cons (o := _) rfl (fun K hK => ?_) ?_
        · rw [if_pos (by rfl)]
          go_simp
          refine (weights_any _).mono ?_
          rintro e wc ⟨rfl, bc⟩
          have sc := (bc).size
          refine hK.out _ _ (bt (bt (hB0) bb) bc) (fun _ => ?_)
          clear hK K
          try simp only [Act.put, List.getElem_toArray, List.getElem_cons_succ, List.getElem_cons_zero, List.setIfInBounds_toArray, List.set_cons_zero, List.set_cons_succ]
          refine wpAnyH_ready (rs := [4]) (by kernel_rfl) (by simp) ?_
          refine AllReadyH.cons (o := _) rfl (fun K hK => ?_) AllReadyH.nil
          rw [if_pos (by rfl)]
          go_simp
          refine alloc_abs (List.replicate 64 0) 40 ?_
          intro wa ka ba sa
          refine hK.out _ _ (bt (bt (bt (hB0) bb) bc) ba) (fun _ => ?_)
          clear hK K
          try simp only [Act.put, List.getElem_toArray, List.getElem_cons_succ, List.getElem_cons_zero, List.setIfInBounds_toArray, List.set_cons_zero, List.set_cons_succ]
          refine wpAnyH_ready (rs := [6]) (by kernel_rfl) (by simp) ?_
          refine AllReadyH.cons (o := _) rfl (fun K hK => ?_) AllReadyH.nil
          rw [if_pos (by rfl)]
          refine wp_store_cel 40 (.tmp 6) (.tmp 27) rfl wc.heap.size 40 (List.replicate 64 0) xs rfl rfl (ka) HI40.out HN40.out ?_
          have k6 := (ka).setRow xs
          have b6 := (bt (bt (bt (hB0) bb) bc) ba).trans (below_setRow wa w.heap.size wc.heap.size (cel xs) (by omega))
          have n6 := (((kb).later bc).later ba).grown (grown_setRow wa wc.heap.size (cel xs)) (fun e => by have := Option.some.inj e; omega)
          obtain ⟨w6, hw6⟩ : ∃ w6, wa.setRow wc.heap.size (cel xs) = w6 := ⟨_, rfl⟩
          rw [hw6] at k6 b6 n6 ⊢
          refine hK.out _ _ b6 (fun _ => ?_)
          clear hK K hw6
          simp only [Act.put, List.getElem_toArray, List.getElem_cons_succ, List.getElem_cons_zero]
          refine wpAnyH_ready (rs := [7]) (by kernel_rfl) (by simp) ?_
          refine AllReadyH.cons (o := _) rfl (fun K hK => ?_) AllReadyH.nil
          rw [if_pos (by rfl)]
          refine wp_store_cel 42 (.tmp 7) (.tmp 28) rfl wd.heap.size 42 (List.replicate 64 0) wL rfl rfl n6 (by kernel_rfl) rfl ?_
          have k7 := n6.setRow wL
          have b7 := b6.trans (below_setRow w6 w.heap.size wd.heap.size (cel wL) (by omega))
          have n7 := k6.grown (grown_setRow w6 wd.heap.size (cel wL)) (fun e => by have := Option.some.inj e; omega)
          obtain ⟨w7, hw7⟩ : ∃ w7, w6.setRow wd.heap.size (cel wL) = w7 := ⟨_, rfl⟩
          rw [hw7] at k7 b7 n7 ⊢
          refine hK.out _ _ b7 (fun _ => ?_)
          clear hK K hw7
          simp only [Act.put, List.getElem_toArray, List.getElem_cons_succ, List.getElem_cons_zero]
          refine wpAnyH_done (by kernel_rfl) ?_ _
          go_wp2_with fail
          go_meet
          exact ⟨wc.heap.size, wd.heap.size, rfl, rfl, by omega, by omega, by omega, n7, k7, b7⟩
        refine AllReadyH.cons (o := _) rfl (fun K hK => ?_) AllReadyH.nil
        rw [if_pos (by rfl)]
        go_simp
        refine alloc_abs (List.replicate 64 0) 40 ?_
        intro wa ka ba sa
        refine hK.out _ _ (bt (bt (hB0) bb) ba) (fun _ => ?_)
        clear hK K
        try simp only [Act.put, List.getElem_toArray, List.getElem_cons_succ, List.getElem_cons_zero, List.setIfInBounds_toArray, List.set_cons_zero, List.set_cons_succ]
        refine wpAnyH_ready (rs := [3]) (by kernel_rfl) (by simp) ?_
        refine AllReadyH.cons (o := _) rfl (fun K hK => ?_) AllReadyH.nil
        rw [if_pos (by rfl)]
        go_simp
        refine (weights_any _).mono ?_
        rintro e wc ⟨rfl, bc⟩
        have sc := (bc).size
        refine hK.out _ _ (bt (bt (bt (hB0) bb) ba) bc) (fun _ => ?_)
        clear hK K
        try simp only [Act.put, List.getElem_toArray, List.getElem_cons_succ, List.getElem_cons_zero, List.setIfInBounds_toArray, List.set_cons_zero, List.set_cons_succ]
        refine wpAnyH_ready (rs := [6]) (by kernel_rfl) (by simp) ?_
        refine AllReadyH.cons (o := _) rfl (fun K hK => ?_) AllReadyH.nil
        rw [if_pos (by rfl)]
        refine wp_store_cel 40 (.tmp 6) (.tmp 27) rfl wb.heap.size 40 (List.replicate 64 0) xs rfl rfl ((ka).later bc) HI40.out HN40.out ?_
        have k6 := ((ka).later bc).setRow xs
        have b6 := (bt (bt (bt (hB0) bb) ba) bc).trans (below_setRow wc w.heap.size wb.heap.size (cel xs) (by omega))
        have n6 := (((kb).later ba).later bc).grown (grown_setRow wc wb.heap.size (cel xs)) (fun e => by have := Option.some.inj e; omega)
        obtain ⟨w6, hw6⟩ : ∃ w6, wc.setRow wb.heap.size (cel xs) = w6 := ⟨_, rfl⟩
        rw [hw6] at k6 b6 n6 ⊢
        refine hK.out _ _ b6 (fun _ => ?_)
        clear hK K hw6
        simp only [Act.put, List.getElem_toArray, List.getElem_cons_succ, List.getElem_cons_zero]
        refine wpAnyH_ready (rs := [7]) (by kernel_rfl) (by simp) ?_
        refine AllReadyH.cons (o := _) rfl (fun K hK => ?_) AllReadyH.nil
        rw [if_pos (by rfl)]
        refine wp_store_cel 42 (.tmp 7) (.tmp 28) rfl wd.heap.size 42 (List.replicate 64 0) wL rfl rfl n6 (by kernel_rfl) rfl ?_
        have k7 := n6.setRow wL
        have b7 := b6.trans (below_setRow w6 w.heap.size wd.heap.size (cel wL) (by omega))
        have n7 := k6.grown (grown_setRow w6 wd.heap.size (cel wL)) (fun e => by have := Option.some.inj e; omega)
        obtain ⟨w7, hw7⟩ : ∃ w7, w6.setRow wd.heap.size (cel wL) = w7 := ⟨_, rfl⟩
        rw [hw7] at k7 b7 n7 ⊢
        refine hK.out _ _ b7 (fun _ => ?_)
        clear hK K hw7
        simp only [Act.put, List.getElem_toArray, List.getElem_cons_succ, List.getElem_cons_zero]
        refine wpAnyH_done (by kernel_rfl) ?_ _
        go_wp2_with fail
        go_meet
        exact ⟨wb.heap.size, wd.heap.size, rfl, rfl, by omega, by omega, by omega, n7, k7, b7⟩
      case rest =>
        obtain ⟨ga, gb, rfl, rfl, h1, h2, hne, hKa, hKb, hBw⟩ := hcut
        have HKA := Lib.hid hKa
        have HKB := Lib.hid hKb
        have HBW := Lib.hid hBw
        have hs0 := hBw.size
        have HBD := Lib.hid H8.out.bd
        have HBD2 := Lib.hid H8.out.bd.all81
        clear hKa hKb hBw
        go_wp2_with (first
          | (go_at_call 26; refine (each_columns 33554432 (allL 8 1 xs) HBD2.out (by omega) ga gb hne _ HK1.out HW1.out).mono ?_; rintro e w2 ⟨⟨v2, rfl⟩, hK2, hG2⟩
             have HK2 := Lib.hid hK2
             have HB2 := Lib.hid (HB1.out.grown hG2 hs1 (fun k e => by cases e; omega))
             clear hK2 hG2)
          | (go_at_call 26; refine (each_rows 2048 xs HBD.out (by omega) ga gb hne _ HKA.out HKB.out).mono ?_; rintro e w1 ⟨⟨v1, rfl⟩, hK1, hG1⟩
             have HK1 := Lib.hid hK1
             have HW1 := Lib.hid (HKB.out.grown hG1 (fun e => hne (by cases e; rfl)))
             have HB1 := Lib.hid (HBW.out.grown hG1 hs0 (fun k e => by cases e; omega))
             have hs1 := HB1.out.size
             clear hK1 hG1))
        have HSL := Lib.hid (sumsL_len xs H8.out.1)
        have HSB := Lib.hid HBD2.out.all18
        obtain ⟨wo, hwo⟩ : ∃ wo : World, wo = w2 := ⟨_, rfl⟩
        clear hwo
        go_loopg [31] 64 (fun gh i wr => ∃ k : Nat, gh + k = 64 ∧ i = .int .i64 (k : Int) ∧ Below w.heap.size w wr ∧ Blk wr ga 40 (rndTo k (sumsL xs)))
        case atStart => exact ⟨0, rfl, rfl, HB2.out, by rw [rndTo_zero]; exact HK2.out⟩
        case round =>
          obtain ⟨j, hj, rfl, hBr, hKr⟩ := hrel
          have HJ := Lib.hid hj
          have HBR := Lib.hid hBr
          have HKR := Lib.hid hKr
          have hj8 : j ≤ 64 := by omega
          clear hj hBr hKr
          by_cases hlt : j < 64
          · obtain ⟨z, hz⟩ : ∃ z, (sumsL xs).getD j 0 = z := ⟨_, rfl⟩
            have hcell := HKR.out.cell j (by rw [rndTo_len, HSL.out]; exact hlt)
            rw [rndTo_get, hz] at hcell
            have hfr := HKR.out.frozen j
            have hzb := HSB.out.2 j hlt
            rw [show (allL 1 8 (allL 8 1 xs)).getD j 0 = z from hz] at hzb
            have HNX := Lib.hid (rndTo_next j (sumsL xs) (by rw [HSL.out]; exact hlt))
            rw [hz] at HNX
            have hi : (j : Int) < 64 := by omega
            have hi0 : (0 : Int) ≤ (j : Int) := Int.natCast_nonneg _
            have hd : decide ((j : Int) < 64) = true := by simp; omega
            have j1 : IntKind.i64.wrap (z + 8388608) = z + 8388608 := IntWalk.i64_in _ (by omega)
            have HZ := Lib.hid hz
            clear hz hlt
            go_wp2_with fail
            go_roundg (63 - j)
            case measure => have := HJ.out; omega
            case rel => exact ⟨j + 1, by omega, by go_num, HBR.out.setCell (p := ⟨ga, j, none⟩) h1 _, by rw [← HNX.out]; exact HKR.out.set j (rnd z)⟩
          · have hge : 64 ≤ j := by omega
            obtain rfl : j = 64 := by omega
            clear hlt hge
            go_wp2_with fail
            have hend := HKR.out
            rw [rndTo_all _ HSL.out] at hend
            have he := invE_good H8.out
            rw [he.1, he.2]
            refine bodyPost_ret (results_tmp2 rfl _ _ _) rfl ?_
            exact ⟨_, rfl, Res.of_blk hend h1 64 (invL_len xs H8.out.1), HBR.out⟩
theorem Inverse_any (v : Value) (xs : List Int) (w : World) (h : Rd w w.heap.size v xs) :
    Calls Try.prog 11 #[v] w (IntsR w.heap.size (invE xs) (invR xs) w) := by
  by_cases hlen : xs.length = 64
  · exact Inverse_64 v xs hlen w h
  · have he := invE_len hlen
    rw [he.1, he.2]
    obtain ⟨a, cap, rfl, _⟩ := h
    clear he
    generalize xs.length = n at hlen
    have hd : ((n : Int) == 64) = false := by simp; omega
    have hd2 : ((n : Int) != 64) = true := by simp; omega
    go_enter Try.func11, Try.ntmps11
    go_wp2
    refine bodyPost_ret (results_tmp2 rfl _ _ _) rfl ?_
    exact ⟨_, rfl, Res.nil _ _, Below.refl _ _⟩

end Go.Proofs.Ytpdggfjpbdidlaa
