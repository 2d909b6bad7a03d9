/-
  The walk of CosineSums. Conditions: what comes in reads as two lists of numbers.
-/
import Derived.Test.YtpdggfjpbdidlaaWalkP
import Derived.Test.YtpdggfjpbdidlaaMix
namespace Go.Proofs.Ytpdggfjpbdidlaa
open Go.RowKit

theorem made_abs {K : Act → World → Prop} {a : Act} {w : World} (h : ∀ W2, Blk W2 w.heap.size 3 (List.replicate 64 0) → Below w.heap.size w W2 → K a W2) : K a (w.alloc (.cells zeros64 3)) :=
  h _ (blk_made w) (alloc_below w _)

/-- Half of a list's numbers; two such, added. -/
def orF (P : List Int) (j : Nat) : Int := P.getD j 0
def hfF (P : List Int) (j : Nat) : Int := P.getD j 0 / 2
def smF (P Q : List Int) (j : Nat) : Int := hfF P j + hfF Q j
theorem hf_bd {P : List Int} (h : Blk64 P) (j : Nat) (hj : j < 64) : -1024 ≤ hfF P j ∧ hfF P j ≤ 1023 := by
  have := h.2 j hj
  unfold hfF
  omega
theorem hf_blk {P : List Int} (h : Blk64 P) : Blk64 (allF (hfF P)) := ⟨allF_len _, fun j hj => by rw [allF_get _ j hj]; have := hf_bd h j hj; omega⟩
theorem sm_blk {P Q : List Int} (h : Blk64 P) (k : Blk64 Q) : Blk64 (allF (smF P Q)) := ⟨allF_len _, fun j hj => by rw [allF_get _ j hj]; have := hf_bd h j hj; have := hf_bd k j hj; unfold smF; omega⟩

set_option maxRecDepth 100000 in
set_option maxHeartbeats 16000000 in
theorem sums_small (v1 v2 : Value) (xs ys : List Int) (w1 : World) (hl1 : xs.length ≤ 64) (hl2 : ys.length ≤ 64) (h1 : Rd w1 w1.heap.size v1 xs) (h2 : Rd w1 w1.heap.size v2 ys) :
    Calls Try.prog 6 #[v1, v2] w1 fun e w' => e = .returned (.bool true) ∧ Below w1.heap.size w1 w' := by
  obtain ⟨a1, cap1, rfl, _⟩ := id h1
  obtain ⟨a2, cap2, rfl, _⟩ := id h2
  have H10 := Lib.hid h1
  have H20 := Lib.hid h2
  have HL1 := Lib.hid hl1
  have HL2 := Lib.hid hl2
  obtain ⟨n1, hn1⟩ : ∃ n, xs.length = n := ⟨_, rfl⟩
  obtain ⟨n2, hn2⟩ : ∃ n, ys.length = n := ⟨_, rfl⟩
  rw [hn1] at H10 hl1 ⊢
  rw [hn2] at H20 hl2 ⊢
  clear h1 h2 hn1 hn2
  have hd1 : decide ((64 : Int) < (n1 : Int)) = false := by simp; omega
  have hd2 : decide ((64 : Int) < (n2 : Int)) = false := by simp; omega
  have hmk := make64
  go_enter Try.func6, Try.ntmps6
  go_wp2_with (go_at_call 14; refine (awake_true _).mono ?_; rintro e w ⟨rfl, hb1⟩)
  have H1 := Lib.hid (H10.out.later hb1)
  have H2 := Lib.hid (H20.out.later hb1)
  have HB1 := Lib.hid hb1
  clear hb1 H10 H20
  go_cut [6, 7, 8] from 28 to 32 (fun s6 s7 s8 wx => ∃ (ga gb gs : Nat) (P Q : List Int), s6 = .slice (some ⟨ga, 0, none⟩) 64 64 ∧ s7 = .slice (some ⟨gb, 0, none⟩) 64 64 ∧ s8 = .slice (some ⟨gs, 0, none⟩) 64 64 ∧
    w.heap.size ≤ ga ∧ w.heap.size ≤ gb ∧ w.heap.size ≤ gs ∧ ga ≠ gb ∧ ga ≠ gs ∧ gb ≠ gs ∧ Blk wx ga 3 P ∧ Blk wx gb 3 Q ∧ Blk wx gs 3 (List.replicate 64 0) ∧ Blk64 P ∧ Blk64 Q ∧ Below w.heap.size w wx)
  case first =>
    obtain ⟨wd, hwd⟩ : ∃ wd, w.drew = wd := ⟨_, rfl⟩
    have hB0 : Below w.heap.size w wd := by rw [← hwd]; exact ⟨rfl, rfl, rfl, Nat.le_refl _, fun _ _ => rfl⟩
    have hsd : w.heap.size ≤ wd.heap.size := by rw [← hwd]; exact Nat.le_refl _
    refine wp_region_held_drew (S := fun w' => Below w.heap.size w w') (by kernel_rfl) (by rw [hwd]; exact hB0) (fun _ => ?_)
    rw [hwd]
    clear hwd
    refine wpAnyH_take (i := 0) (oi := _) (v := ?_) rfl (by kernel_rfl) (by kernel_rfl) (by kernel_rfl) (fun _ _ _ h => h) (Or.inl ⟨by kernel_rfl, ?_⟩) (by assumption) ?_
    rotate_left
    · rintro w0 d1
      first | (go_simp; done) | (go_simp; with_reducible rfl)
    refine wpAnyH_take (i := 2) (oi := _) (v := ?_) rfl (by kernel_rfl) (by kernel_rfl) (by kernel_rfl) (fun _ _ _ h => h) (Or.inl ⟨by kernel_rfl, ?_⟩) (by assumption) ?_
    rotate_left
    · rintro w0 d1
      first | (go_simp; done) | (go_simp; with_reducible rfl)
    try simp only [Act.put, List.getElem_toArray, List.getElem_cons_succ, List.getElem_cons_zero, List.setIfInBounds_toArray, List.set_cons_zero, List.set_cons_succ]
    refine wpAnyH_ready (rs := [1, 4]) (by kernel_rfl) (by simp) ?_
    refine AllReadyH.cons (o := _) rfl (fun K hK => ?_) ?_
    · rw [if_pos (by rfl)]
      go_simp
      refine (made_any _ xs _ HL1.out (H1.out.later (hB0))).mono ?_
      rintro e wp ⟨gp, P, rfl, np, kp, HP, bp⟩
      have zp := (bp).size
      refine hK.out _ _ (bt (hB0) bp) (fun _ => ?_)
      clear hK K
      try simp only [Act.put, List.getElem_toArray, List.getElem_cons_succ, List.getElem_cons_zero, List.setIfInBounds_toArray, List.set_cons_zero, List.set_cons_succ]
      refine wpAnyH_ready (rs := [3, 4]) (by kernel_rfl) (by simp) ?_
      refine AllReadyH.cons (o := _) rfl (fun K hK => ?_) ?_
      · rw [if_pos (by rfl)]
        go_simp
        refine (made_any _ ys _ HL2.out (H2.out.later (bt (hB0) bp))).mono ?_
        rintro e wq ⟨gq, Q, rfl, nq, kq, HQ, bq⟩
        have zq := (bq).size
        refine hK.out _ _ (bt (bt (hB0) bp) bq) (fun _ => ?_)
        clear hK K
        try simp only [Act.put, List.getElem_toArray, List.getElem_cons_succ, List.getElem_cons_zero, List.setIfInBounds_toArray, List.set_cons_zero, List.set_cons_succ]
        refine wpAnyH_take (i := 5) (oi := _) (v := ?_) rfl (by kernel_rfl) (by kernel_rfl) (by kernel_rfl) (fun _ _ _ h => h) (Or.inl ⟨by kernel_rfl, ?_⟩) (by assumption) ?_
        rotate_left
        · rintro w0 d1
          first | (go_simp; done) | (go_simp; with_reducible rfl)
        refine wpAnyH_take (i := 6) (oi := _) (v := ?_) rfl (by kernel_rfl) (by kernel_rfl) (by kernel_rfl) (fun _ _ _ h => h) (Or.inl ⟨by kernel_rfl, ?_⟩) (by assumption) ?_
        rotate_left
        · rintro w0 d1
          first | (go_simp; done) | (go_simp; with_reducible rfl)
        try simp only [Act.put, List.getElem_toArray, List.getElem_cons_succ, List.getElem_cons_zero, List.setIfInBounds_toArray, List.set_cons_zero, List.set_cons_succ]
        refine wpAnyH_ready (rs := [4]) (by kernel_rfl) (by simp) ?_
        refine AllReadyH.cons (o := _) rfl (fun K hK => ?_) AllReadyH.nil
        rw [if_pos (by rfl)]
        go_simp
        refine made_abs ?_
        intro ws ks bs
        have zs := (bs).size
        refine hK.out _ _ (bt (bt (bt (hB0) bp) bq) bs) (fun _ => ?_)
        clear hK K
        try simp only [Act.put, List.getElem_toArray, List.getElem_cons_succ, List.getElem_cons_zero, List.setIfInBounds_toArray, List.set_cons_zero, List.set_cons_succ]
        have hBE := bt (bt (bt (hB0) bp) bq) bs
        refine wpAnyH_take (i := 7) (oi := _) (v := ?_) rfl (by kernel_rfl) (by kernel_rfl) (by kernel_rfl) (fun _ _ _ h => h) (Or.inl ⟨by kernel_rfl, ?_⟩) (by assumption) ?_
        rotate_left
        · rintro w0 d1
          first | (go_simp; done) | (go_simp; with_reducible rfl)
        try simp only [Act.put, List.getElem_toArray, List.getElem_cons_succ, List.getElem_cons_zero, List.setIfInBounds_toArray, List.set_cons_zero, List.set_cons_succ]
        refine wpAnyH_done (by kernel_rfl) ?_ _
        go_wp2_with fail
        go_meet
        have kp' := ((kp).later bq).later bs
        have kq' := (kq).later bs
        have ks' := ks
        have lp := (kp).lt
        have lq := (kq).lt
        have ls := (ks).lt
        exact ⟨gp, gq, wq.heap.size, P, Q, rfl, rfl, rfl, by omega, by omega, by omega, by omega, by omega, by omega, kp', kq', ks', HP, HQ, hBE⟩
      refine AllReadyH.cons (o := _) rfl (fun K hK => ?_) AllReadyH.nil
      rw [if_pos (by rfl)]
      go_simp
      refine made_abs ?_
      intro ws ks bs
      have zs := (bs).size
      refine hK.out _ _ (bt (bt (hB0) bp) bs) (fun _ => ?_)
      clear hK K
      try simp only [Act.put, List.getElem_toArray, List.getElem_cons_succ, List.getElem_cons_zero, List.setIfInBounds_toArray, List.set_cons_zero, List.set_cons_succ]
      refine wpAnyH_ready (rs := [3]) (by kernel_rfl) (by simp) ?_
      refine AllReadyH.cons (o := _) rfl (fun K hK => ?_) AllReadyH.nil
      rw [if_pos (by rfl)]
      go_simp
      refine (made_any _ ys _ HL2.out (H2.out.later (bt (bt (hB0) bp) bs))).mono ?_
      rintro e wq ⟨gq, Q, rfl, nq, kq, HQ, bq⟩
      have zq := (bq).size
      refine hK.out _ _ (bt (bt (bt (hB0) bp) bs) bq) (fun _ => ?_)
      clear hK K
      try simp only [Act.put, List.getElem_toArray, List.getElem_cons_succ, List.getElem_cons_zero, List.setIfInBounds_toArray, List.set_cons_zero, List.set_cons_succ]
      have hBE := bt (bt (bt (hB0) bp) bs) bq
      refine wpAnyH_take (i := 5) (oi := _) (v := ?_) rfl (by kernel_rfl) (by kernel_rfl) (by kernel_rfl) (fun _ _ _ h => h) (Or.inl ⟨by kernel_rfl, ?_⟩) (by assumption) ?_
      rotate_left
      · rintro w0 d1
        first | (go_simp; done) | (go_simp; with_reducible rfl)
      refine wpAnyH_take (i := 6) (oi := _) (v := ?_) rfl (by kernel_rfl) (by kernel_rfl) (by kernel_rfl) (fun _ _ _ h => h) (Or.inl ⟨by kernel_rfl, ?_⟩) (by assumption) ?_
      rotate_left
      · rintro w0 d1
        first | (go_simp; done) | (go_simp; with_reducible rfl)
      refine wpAnyH_take (i := 7) (oi := _) (v := ?_) rfl (by kernel_rfl) (by kernel_rfl) (by kernel_rfl) (fun _ _ _ h => h) (Or.inl ⟨by kernel_rfl, ?_⟩) (by assumption) ?_
      rotate_left
      · rintro w0 d1
        first | (go_simp; done) | (go_simp; with_reducible rfl)
      try simp only [Act.put, List.getElem_toArray, List.getElem_cons_succ, List.getElem_cons_zero, List.setIfInBounds_toArray, List.set_cons_zero, List.set_cons_succ]
      refine wpAnyH_done (by kernel_rfl) ?_ _
      go_wp2_with fail
      go_meet
      have kp' := ((kp).later bs).later bq
      have kq' := kq
      have ks' := (ks).later bq
      have lp := (kp).lt
      have lq := (kq).lt
      have ls := (ks).lt
      exact ⟨gp, gq, wp.heap.size, P, Q, rfl, rfl, rfl, by omega, by omega, by omega, by omega, by omega, by omega, kp', kq', ks', HP, HQ, hBE⟩
    refine AllReadyH.cons (o := _) rfl (fun K hK => ?_) AllReadyH.nil
    rw [if_pos (by rfl)]
    go_simp
    refine made_abs ?_
    intro ws ks bs
    have zs := (bs).size
    refine hK.out _ _ (bt (hB0) bs) (fun _ => ?_)
    clear hK K
    try simp only [Act.put, List.getElem_toArray, List.getElem_cons_succ, List.getElem_cons_zero, List.setIfInBounds_toArray, List.set_cons_zero, List.set_cons_succ]
    refine wpAnyH_ready (rs := [1]) (by kernel_rfl) (by simp) ?_
    refine AllReadyH.cons (o := _) rfl (fun K hK => ?_) AllReadyH.nil
    rw [if_pos (by rfl)]
    go_simp
    refine (made_any _ xs _ HL1.out (H1.out.later (bt (hB0) bs))).mono ?_
    rintro e wp ⟨gp, P, rfl, np, kp, HP, bp⟩
    have zp := (bp).size
    refine hK.out _ _ (bt (bt (hB0) bs) bp) (fun _ => ?_)
    clear hK K
    try simp only [Act.put, List.getElem_toArray, List.getElem_cons_succ, List.getElem_cons_zero, List.setIfInBounds_toArray, List.set_cons_zero, List.set_cons_succ]
    refine wpAnyH_ready (rs := [3]) (by kernel_rfl) (by simp) ?_
    refine AllReadyH.cons (o := _) rfl (fun K hK => ?_) AllReadyH.nil
    rw [if_pos (by rfl)]
    go_simp
    refine (made_any _ ys _ HL2.out (H2.out.later (bt (bt (hB0) bs) bp))).mono ?_
    rintro e wq ⟨gq, Q, rfl, nq, kq, HQ, bq⟩
    have zq := (bq).size
    refine hK.out _ _ (bt (bt (bt (hB0) bs) bp) bq) (fun _ => ?_)
    clear hK K
    try simp only [Act.put, List.getElem_toArray, List.getElem_cons_succ, List.getElem_cons_zero, List.setIfInBounds_toArray, List.set_cons_zero, List.set_cons_succ]
    have hBE := bt (bt (bt (hB0) bs) bp) bq
    refine wpAnyH_take (i := 5) (oi := _) (v := ?_) rfl (by kernel_rfl) (by kernel_rfl) (by kernel_rfl) (fun _ _ _ h => h) (Or.inl ⟨by kernel_rfl, ?_⟩) (by assumption) ?_
    rotate_left
    · rintro w0 d1
      first | (go_simp; done) | (go_simp; with_reducible rfl)
    refine wpAnyH_take (i := 6) (oi := _) (v := ?_) rfl (by kernel_rfl) (by kernel_rfl) (by kernel_rfl) (fun _ _ _ h => h) (Or.inl ⟨by kernel_rfl, ?_⟩) (by assumption) ?_
    rotate_left
    · rintro w0 d1
      first | (go_simp; done) | (go_simp; with_reducible rfl)
    refine wpAnyH_take (i := 7) (oi := _) (v := ?_) rfl (by kernel_rfl) (by kernel_rfl) (by kernel_rfl) (fun _ _ _ h => h) (Or.inl ⟨by kernel_rfl, ?_⟩) (by assumption) ?_
    rotate_left
    · rintro w0 d1
      first | (go_simp; done) | (go_simp; with_reducible rfl)
    try simp only [Act.put, List.getElem_toArray, List.getElem_cons_succ, List.getElem_cons_zero, List.setIfInBounds_toArray, List.set_cons_zero, List.set_cons_succ]
    refine wpAnyH_done (by kernel_rfl) ?_ _
    go_wp2_with fail
    go_meet
    have kp' := (kp).later bq
    have kq' := kq
    have ks' := ((ks).later bp).later bq
    have lp := (kp).lt
    have lq := (kq).lt
    have ls := (ks).lt
    exact ⟨gp, gq, wd.heap.size, P, Q, rfl, rfl, rfl, by omega, by omega, by omega, by omega, by omega, by omega, kp', kq', ks', HP, HQ, hBE⟩
  case rest =>
    obtain ⟨ga, gb, gs, P, Q, rfl, rfl, rfl, hga, hgb, hgs, hab, has, hbs, hA, hB, hS, HP, HQ, hBw⟩ := hcut
    have HA := Lib.hid (show Blk wc ga 3 (mixL (hfF P) (orF P) 0) by rw [mixL_zero]; unfold orF; rw [← allF_of P HP.1]; exact hA)
    have HB := Lib.hid (show Blk wc gb 3 (mixL (hfF Q) (orF Q) 0) by rw [mixL_zero]; unfold orF; rw [← allF_of Q HQ.1]; exact hB)
    have HS := Lib.hid (show Blk wc gs 3 (mixL (smF P Q) (fun _ => 0) 0) by rw [mixL_zero, allF_zero]; exact hS)
    have HP := Lib.hid HP
    have HQ := Lib.hid HQ
    have HBW := Lib.hid hBw
    have HAB := Lib.hid hab
    have HAS := Lib.hid has
    have HBS := Lib.hid hbs
    clear hA hB hS hBw hab has hbs hmk hd1 hd2
    go_wp2_with fail
    go_loopg [9] 64 (fun gh i wr => ∃ k : Nat, gh + k = 64 ∧ i = .int .i64 (k : Int) ∧ Below w.heap.size w wr ∧ Blk wr ga 3 (mixL (hfF P) (orF P) k) ∧ Blk wr gb 3 (mixL (hfF Q) (orF Q) k) ∧ Blk wr gs 3 (mixL (smF P Q) (fun _ => 0) k))
    case atStart => exact ⟨0, rfl, rfl, HBW.out, HA.out, HB.out, HS.out⟩
    case round =>
      clear HA HB HS HBW
      obtain ⟨k, hk, rfl, hBw, hA, hB, hS⟩ := hrel
      have HK := Lib.hid hk
      have HBW := Lib.hid hBw
      have hk8 : k ≤ 64 := by omega
      by_cases hlt : k < 64
      · have hi : (k : Int) < 64 := by omega
        have hi0 : (0 : Int) ≤ (k : Int) := Int.natCast_nonneg _
        have hd : decide ((k : Int) < 64) = true := by simp; omega
        have c1 := hA.cell k (by rw [mixL_len]; exact hlt)
        rw [mixL_get _ _ k hlt] at c1
        have f1 := hA.frozen k
        have A1 := hA.set k (hfF P k)
        rw [mixL_next _ _ k hlt] at A1
        have B1 := hB.far (p := ⟨ga, k, none⟩) (show gb ≠ ga from fun e => HAB.out e.symm) (.int .i64 (hfF P k))
        have S1 := hS.far (p := ⟨ga, k, none⟩) (show gs ≠ ga from fun e => HAS.out e.symm) (.int .i64 (hfF P k))
        have c2 := B1.cell k (by rw [mixL_len]; exact hlt)
        rw [mixL_get _ _ k hlt] at c2
        have f2 := B1.frozen k
        have A2 := A1.far (p := ⟨gb, k, none⟩) (show ga ≠ gb from HAB.out) (.int .i64 (hfF Q k))
        have B2 := B1.set k (hfF Q k)
        rw [mixL_next _ _ k hlt] at B2
        have S2 := S1.far (p := ⟨gb, k, none⟩) (show gs ≠ gb from fun e => HBS.out e.symm) (.int .i64 (hfF Q k))
        have c3 := A2.cell k (by rw [mixL_len]; exact hlt)
        rw [mixL_done _ _ (k + 1) k (by omega) (by omega)] at c3
        have c4 := B2.cell k (by rw [mixL_len]; exact hlt)
        rw [mixL_done _ _ (k + 1) k (by omega) (by omega)] at c4
        have c5 := S2.cell k (by rw [mixL_len]; exact hlt)
        rw [mixL_get _ _ k hlt] at c5
        have f5 := S2.frozen k
        have A3 := A2.far (p := ⟨gs, k, none⟩) (show ga ≠ gs from HAS.out) (.int .i64 (smF P Q k))
        have B3 := B2.far (p := ⟨gs, k, none⟩) (show gb ≠ gs from HBS.out) (.int .i64 (smF P Q k))
        have S3 := S2.set k (smF P Q k)
        rw [mixL_next _ _ k hlt] at S3
        have b3 := (((hBw.setCell (p := ⟨ga, k, none⟩) hga (.int .i64 (hfF P k))).setCell (p := ⟨gb, k, none⟩) hgb (.int .i64 (hfF Q k))).setCell (p := ⟨gs, k, none⟩) hgs (.int .i64 (smF P Q k))).drew
        have t1 := hf_bd HP.out k hlt
        have t2 := hf_bd HQ.out k hlt
        have HE := Lib.hid (show Below w.heap.size w _ ∧ Blk _ ga 3 (mixL (hfF P) (orF P) (k + 1)) ∧ Blk _ gb 3 (mixL (hfF Q) (orF Q) (k + 1)) ∧ Blk _ gs 3 (mixL (smF P Q) (fun _ => 0) (k + 1)) from ⟨b3, A3.drew, B3.drew, S3.drew⟩)
        clear A1 A2 A3 B1 B2 B3 S1 S2 S3 b3 hA hB hS hBw hk
        have j1 : IntKind.i64.wrap (hfF P k + hfF Q k) = smF P Q k := IntWalk.i64_in _ (by omega)
        have j4 : orF P k / 2 = hfF P k := rfl
        have j5 : orF Q k / 2 = hfF Q k := rfl
        generalize smF P Q k = z3 at c5 j1 HE
        generalize hfF P k = z1 at c3 c2 f2 c4 c5 f5 j1 j4 HE t1
        generalize hfF Q k = z2 at c3 c4 c5 f5 j1 j5 HE t2
        generalize orF P k = y1 at c1 j4
        generalize orF Q k = y2 at c2 j5
        clear t1 t2
        go_wp2_with fail
        go_region
        go_wp2_with fail
        go_roundg (63 - k)
        case measure => have := HK.out; omega
        case rel => exact ⟨k + 1, by omega, by go_num, HE.out⟩
      · obtain rfl : k = 64 := by omega
        rw [mixL_all] at hA hB hS
        have HA := Lib.hid ((Res.of_blk hA (Nat.zero_le _) 64 (allF_len _)).rd)
        have HB := Lib.hid ((Res.of_blk hB (Nat.zero_le _) 64 (allF_len _)).rd)
        have HS := Lib.hid ((Res.of_blk hS (Nat.zero_le _) 64 (allF_len _)).rd)
        clear hA hB hS hk hlt hk8
        go_wp2_with (first
          | (go_at_call 11; refine (inv_good _ (allF (smF P Q)) _ (HS.out.later (bt b4 b5)) (sm_blk HP.out HQ.out)).mono ?_; rintro e w6 ⟨gz, capz, rfl, nz1, nz2, b6, cz, fz⟩
             have CZ := Lib.hid cz
             clear cz fz nz1 nz2)
          | (go_at_call 11; refine (inv_good _ (allF (hfF Q)) w4 (HB.out.later b4) (hf_blk HQ.out)).mono ?_; rintro e w5 ⟨gy, capy, rfl, ny1, ny2, b5, cy, fy⟩
             have CY := Lib.hid cy
             have NY := Lib.hid ny2
             clear cy fy ny1 ny2)
          | (go_at_call 11; refine (inv_good _ (allF (hfF P)) wr HA.out (hf_blk HP.out)).mono ?_; rintro e w4 ⟨gx, capx, rfl, nx1, nx2, b4, cx, fx⟩
             have CX := Lib.hid cx
             have NX := Lib.hid nx2
             clear cx fx nx1 nx2))
        have HBF := Lib.hid (bt HB1.out ((((HBW.out.trans (b4.mono HBW.out.size)).trans (b5.mono (by have := HBW.out.size; have := b4.size; omega))).trans (b6.mono (by have := HBW.out.size; have := b4.size; have := b5.size; omega)))))
        have CX6 : Hid (∀ i, i < 64 → w6.cell? ⟨gx, i, none⟩ = some (.int .i64 ((invL (allF (hfF P))).getD i 0))) := Lib.hid (fun i hi => ((bt b5 b6).cell (p := ⟨gx, i, none⟩) NX.out).trans (CX.out i hi))
        have CY6 : Hid (∀ i, i < 64 → w6.cell? ⟨gy, i, none⟩ = some (.int .i64 ((invL (allF (hfF Q))).getD i 0))) := Lib.hid (fun i hi => (b6.cell (p := ⟨gy, i, none⟩) NY.out).trans (CY.out i hi))
        clear HA HB HS CX CY NX NY b4 b5 b6 HBW
        go_loopg [16] 64 (fun gh i wr => ∃ k : Nat, gh + k = 64 ∧ i = .int .i64 (k : Int) ∧ (∃ nd, wr = w6.drewN nd))
        case atStart => exact ⟨0, rfl, rfl, 0, rfl⟩
        case round =>
          obtain ⟨k, hk, rfl, nd, rfl⟩ := hrel
          have HK := Lib.hid hk
          have hk8 : k ≤ 64 := by omega
          clear hk
          by_cases hlt : k < 64
          · have cx := CX6.out k hlt
            have cy := CY6.out k hlt
            have cz := CZ.out k hlt
            have t1 := sums_fact (hfF P) (hfF Q) k hlt
            have t2 := inv_bd _ (hf_blk HP.out).bd k hlt
            have t3 := inv_bd _ (hf_blk HQ.out).bd k hlt
            have t4 := inv_bd _ (sm_blk HP.out HQ.out).bd k hlt
            rw [show (fun j => hfF P j + hfF Q j) = smF P Q from rfl] at t1
            have hi : (k : Int) < 64 := by omega
            have hi0 : (0 : Int) ≤ (k : Int) := Int.natCast_nonneg _
            have hd : decide ((k : Int) < 64) = true := by simp; omega
            generalize (invL (allF (hfF P))).getD k 0 = x at cx t1 t2
            generalize (invL (allF (hfF Q))).getD k 0 = y at cy t1 t3
            generalize (invL (allF (smF P Q))).getD k 0 = z at cz t1 t4
            have j1 : IntKind.i64.wrap (z - x) = z - x := IntWalk.i64_in _ (by omega)
            have j2 : IntKind.i64.wrap (z - x - y) = z - x - y := IntWalk.i64_in _ (by omega)
            have d1 : decide (z - x - y < -1) = false := by simp; omega
            have d2 : decide (1 < z - x - y) = false := by simp; omega
            clear t1 t2 t3 t4 hlt

            go_wp2_with fail
            go_region
            go_wp2_with fail
            go_roundg (63 - k)
            case measure => have := HK.out; omega
            case rel => exact ⟨k + 1, by omega, by go_num, nd + 1, rfl⟩
          · obtain rfl : k = 64 := by omega
            go_wp2_with fail
            go_ret
            exact ⟨rfl, drawn_below HBF.out nd⟩

theorem sums_walk (v1 v2 : Value) (xs ys : List Int) (w : World) (h1 : Rd w w.heap.size v1 xs) (h2 : Rd w w.heap.size v2 ys) :
    Calls Try.prog 6 #[v1, v2] w fun e w' => e = .returned (.bool true) ∧ Below w.heap.size w w' := by
  by_cases hl1 : xs.length ≤ 64
  · by_cases hl2 : ys.length ≤ 64
    · exact sums_small v1 v2 xs ys w hl1 hl2 h1 h2
    · obtain ⟨a1, cap1, rfl, _⟩ := h1
      obtain ⟨a2, cap2, rfl, _⟩ := h2
      generalize xs.length = n1 at hl1
      generalize ys.length = n2 at hl2
      have hd1 : decide ((64 : Int) < (n1 : Int)) = false := by simp; omega
      have hd2 : decide ((64 : Int) < (n2 : Int)) = true := by simp; omega
      go_enter Try.func6, Try.ntmps6
      go_wp2_with (go_at_call 14; refine (awake_true _).mono ?_; rintro e w1 ⟨rfl, hb1⟩)
      go_ret
      exact ⟨rfl, hb1⟩
  · obtain ⟨a1, cap1, rfl, _⟩ := h1
    obtain ⟨a2, cap2, rfl, _⟩ := h2
    generalize xs.length = n1 at hl1
    generalize ys.length = n2
    have hd1 : decide ((64 : Int) < (n1 : Int)) = true := by simp; omega
    go_enter Try.func6, Try.ntmps6
    go_wp2_with (go_at_call 14; refine (awake_true _).mono ?_; rintro e w1 ⟨rfl, hb1⟩)
    go_ret
    exact ⟨rfl, hb1⟩

end Go.Proofs.Ytpdggfjpbdidlaa
