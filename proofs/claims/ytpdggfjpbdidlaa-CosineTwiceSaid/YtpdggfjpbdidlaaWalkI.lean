/-
  The walk of each: all lines of a block are summed. Conditions: those that each theorem names.
-/
import Derived.Test.YtpdggfjpbdidlaaWalkH
namespace Go.Proofs.Ytpdggfjpbdidlaa
open Go.RowKit Go.Shelf

attribute [local go_sem] Oper.semAt_some

theorem wpListIn_load_cel {F : Fence} {n : Nat} {ops : Array Oper} {rest : List Oper} {o : Oper} {a : Act} {w : World} {Q : Exit → Act → World → Prop} (hgd : o.guard = none) (ty : TypeId) (x : Operand) (ho : o.op = .load ty x)
    (g : Nat) (t : TypeId) (xs : List Int) (hx : a.eval x = .pointer (some ⟨g, 0, none⟩)) (m : Nat) (d : TypeId) (hg : Blk w g t xs)
    (hu : Try.prog.underlying ty = some (.array m d)) (hi : (Try.prog.info? ty).map (·.size) = some (cel xs).size)
    (h : wpListIn F n Try.prog ops Q rest (a.put o.dst (.agg (cel xs))) w) : wpListIn F n Try.prog ops Q (o :: rest) a w := by
  refine wpListIn_plain hgd fun K hK => ?_
  unfold Oper.wpIn
  refine ⟨by simp [Oper.about, ho], ?_⟩
  rw [Oper.semAt_plain F _ _ (by rw [ho]; intro c hc'; cases hc')]
  unfold execOp
  simp only [ho, hx, Instr.loadAt, Instr.sureAddr, Sem.run_bind, Sem.run_pure, Result.andThen_ok, run_loadVar_row w g t ty (cel xs) (0, 0) (.array m d) hg hu rfl hi]
  exact hK _ _ h

theorem wpListIn_store_cel {F : Fence} {n : Nat} {ops : Array Oper} {rest : List Oper} {o : Oper} {a : Act} {w : World} {Q : Exit → Act → World → Prop} (hgd : o.guard = none) (ty : TypeId) (x y : Operand) (ho : o.op = .store ty x y)
    (g : Nat) (t : TypeId) (xs ys : List Int) (hx : a.eval x = .pointer (some ⟨g, 0, none⟩)) (hy : a.eval y = .agg (cel ys)) (hg : Blk w g t xs)
    (hi : (Try.prog.info? ty).map (·.size) = some (cel ys).size) (hold : xs.length = ys.length)
    (h : wpListIn F n Try.prog ops Q rest (a.put o.dst undef) (w.setRow g (cel ys))) : wpListIn F n Try.prog ops Q (o :: rest) a w := by
  refine wpListIn_plain hgd fun K hK => ?_
  unfold Oper.wpIn
  refine ⟨by simp [Oper.about, ho], ?_⟩
  rw [Oper.semAt_plain F _ _ (by rw [ho]; intro c hc'; cases hc')]
  unfold execOp
  simp only [ho, hx, hy, Instr.storeAt, Instr.sureAddr, Sem.run_bind, Sem.run_pure, Result.andThen_ok, run_storeVar_row w g t ty (cel xs) (cel ys) hg hi (by rw [cel_size, cel_size]; exact hold) (cel_one ys)]
  exact hK _ _ h

/-- The place of a number. -/
def spot (a i s : Nat) : Nat := a + i * s

theorem strided_stopsN (F : Fence) (n : Nat) (h33 : F.fn 33) (hro : F.round = none) (hn : 1 ≤ n) (p q a s : Nat) (ha2 : a ≤ 64) (hs2 : s ≤ 8) (w : World)
    (hp : Boxed w p 3 (.int .i64 (a : Int))) (hq : Boxed w q 3 (.int .i64 (s : Int))) :
    SeqStopsK F n Try.prog 33 #[.pointer (some ⟨p, 0, none⟩), .pointer (some ⟨q, 0, none⟩)] (fun i : Fin 8 => #[Value.int .i64 ((i.val : Nat) : Int), Value.int .i64 ((spot a i.val s : Nat) : Int)]) (KpBox p q)
      (fun xs => xs = List.finRange 8) (fun _ => True) 8 w := by
  have h := strided_stops F n h33 hro hn p q (a : Int) (s : Int) (by omega) (by omega) (by omega) (by omega) w hp hq
  have e : (fun i : Fin 8 => #[Value.int .i64 ((i.val : Nat) : Int), Value.int .i64 ((a : Int) + ((i.val : Nat) : Int) * (s : Int))]) = (fun i : Fin 8 => #[Value.int .i64 ((i.val : Nat) : Int), Value.int .i64 ((spot a i.val s : Nat) : Int)]) := by
    funext i
    simp [spot]
  rw [e] at h
  exact h

theorem blk_own {β : Type} (g : Nat) (t : TypeId) (P : β → List Int → Prop) : Go.Own (fun (s : β) W => ∃ xs, P s xs ∧ Blk W g t xs) := fun s X Y row ⟨xs, hP, hs⟩ hg hrow =>
  ⟨xs, hP, hs.grown hg (fun e' => by obtain ⟨o, ho, hc⟩ := hrow g e'.symm; rw [show X.heap[g]? = _ from hs] at ho; cases ho; cases hc)⟩

theorem ownFrom_grown {β : Type} {B : Nat} {w₀ : World} {row₀ : Option Nat} (hB : w₀.heap.size ≤ B) : OwnFrom B (fun (_ : β) W => w₀.grownBy W row₀) :=
  fun _ X Y row hs hg hr => ⟨hg.os.trans hs.os, hg.tape.trans hs.tape, hg.output.trans hs.output, Nat.le_trans hs.size hg.size, fun k hk hne =>
    (hg.block k (Nat.lt_of_lt_of_le hk hs.size) (fun e => by have := (hr k e.symm).1; omega)).trans (hs.block k hk hne)⟩

theorem ownFrom_kpBox {β : Type} {B p q : Nat} {w₀ : World} (hp : p < w₀.heap.size) (hq : q < w₀.heap.size) (hB : w₀.heap.size ≤ B) : OwnFrom B (fun (_ : β) W => w₀.heap.size ≤ W.heap.size ∧ KpBox p q w₀ W) :=
  fun _ X Y row hs hg hr => ⟨Nat.le_trans hs.1 hg.size, (hg.block p (by have := hs.1; omega) (fun e => by have := (hr p e.symm).1; omega)).trans hs.2.1, (hg.block q (by have := hs.1; omega) (fun e => by have := (hr q e.symm).1; omega)).trans hs.2.2⟩

/-- What the outer loop has done to the block. -/
def Good (b s : Nat) (xs : List Int) (pre : List (Fin 8)) (ys : List Int) : Prop :=
  ys.length = 64 ∧ (pre = (List.finRange 8).take pre.length → ys = pre.foldl (lineAt b s) xs)

/-- The boxes of each, and the weights. -/
def Base (n0 bb bw s : Nat) (W : World) : Prop :=
  Boxed W n0 45 (.pointer (some ⟨bb, 0, none⟩)) ∧ Boxed W (n0 + 1) 3 (.int .i64 (s : Int)) ∧ Boxed W (n0 + 2) 46 (.pointer (some ⟨bw, 0, none⟩)) ∧ Blk W bw 42 wL

theorem base_own {β : Type} (n0 bb bw s : Nat) : Go.Own (fun (_ : β) W => Base n0 bb bw s W) := fun u X Y row h hg hr =>
  ⟨boxed_own n0 45 (fun (_ : β) => Value.pointer (some ⟨bb, 0, none⟩)) u X Y row h.1 hg hr, boxed_own (n0 + 1) 3 (fun (_ : β) => Value.int .i64 (s : Int)) u X Y row h.2.1 hg hr,
    boxed_own (n0 + 2) 46 (fun (_ : β) => Value.pointer (some ⟨bw, 0, none⟩)) u X Y row h.2.2.1 hg hr, h.2.2.2.grown hg (fun e' => by obtain ⟨o, ho, hc⟩ := hr bw e'.symm; rw [show X.heap[bw]? = _ from h.2.2.2] at ho; cases ho; cases hc)⟩

theorem Base.alloc {n0 bb bw s : Nat} {W : World} (h : Base n0 bb bw s W) (o : Obj) : Base n0 bb bw s (W.alloc o) := ⟨h.1.alloc o, h.2.1.alloc o, h.2.2.1.alloc o, h.2.2.2.alloc o⟩

theorem grown_set {w W : World} {row : Option Nat} (h : w.grownBy W row) (p : Addr) (v : Value) (hp : w.heap.size ≤ p.block ∨ row = some p.block) : w.grownBy (W.setCell p v) row :=
  ⟨h.os, h.tape, h.output, by simpa using h.size, fun k hk hne => by
    refine (Below.heap_setCell W p v k (fun e => ?_)).trans (h.block k hk hne)
    rcases hp with hp | hp
    · omega
    · exact hne (by rw [hp, e])⟩
theorem grown_set1 (W : World) (g i : Nat) (v : Value) : W.grownBy (W.setCell ⟨g, i, none⟩ v) (some g) :=
  ⟨rfl, rfl, rfl, by simp, fun k _ hk => Below.heap_setCell W ⟨g, i, none⟩ v k (fun e => hk (by rw [e]))⟩
theorem grown_drew {w W : World} {row : Option Nat} (h : w.grownBy W row) : w.grownBy W.drew row := ⟨h.os, h.tape, h.output, h.size, h.block⟩
theorem grown_row {w W : World} {row : Option Nat} (h : w.grownBy W row) (g : Nat) (cs : Array Value) (hp : w.heap.size ≤ g) : w.grownBy (W.setRow g cs) row :=
  ⟨h.os, h.tape, h.output, by have := (grown_setRow W g cs).size; exact Nat.le_trans h.size this, fun k hk hne => ((below_setRow W w.heap.size g cs hp).block k hk).trans (h.block k hk hne)⟩
theorem grown_alloc {w W : World} {row : Option Nat} (h : w.grownBy W row) (o : Obj) : w.grownBy (W.alloc o) row := grown_trans h (World.grownBy_alloc W o row)
theorem grown_later {w W W' : World} {row : Option Nat} (h : w.grownBy W row) (hb : Below W.heap.size W W') : w.grownBy W' row := grown_trans h (grown_of_below hb row)
theorem keeps_grown {W W' : World} {row : Nat} {t : TypeId} {xs : List Int} {B : Nat} (h : W.grownBy W' (some row)) (hb : Blk W row t xs) : KeepsFrom B W W' :=
  (KeepsOthers.of_grownBy h (fun j o e ho => by cases e; rw [show W.heap[row]? = _ from hb] at ho; cases ho; rfl)).from B
theorem kp_grown {W W' : World} {row p q : Nat} (h : W.grownBy W' (some row)) (hp : p < W.heap.size) (hq : q < W.heap.size) (h1 : p ≠ row) (h2 : q ≠ row) : KpBox p q W W' :=
  ⟨h.block p hp (fun e => h1 (by cases e; rfl)), h.block q hq (fun e => h2 (by cases e; rfl))⟩
theorem Base.grown {n0 bb bw s : Nat} {W W' : World} (h : Base n0 bb bw s W) {row : Nat} (hg : W.grownBy W' (some row)) (h0 : row ≠ n0 ∧ row ≠ n0 + 1 ∧ row ≠ n0 + 2 ∧ row ≠ bw) : Base n0 bb bw s W' :=
  ⟨h.1.kept hg (fun e => h0.1 (by cases e; rfl)), h.2.1.kept hg (fun e => h0.2.1 (by cases e; rfl)), h.2.2.1.kept hg (fun e => h0.2.2.1 (by cases e; rfl)), h.2.2.2.grown hg (fun e => h0.2.2.2 (by cases e; rfl))⟩

/-- The line so far. -/
def Got (b s i : Nat) (ys : List Int) (pre : List (Fin 8)) (ls : List Int) : Prop := ls.length = 8 ∧ ∀ k ∈ pre, ls.getD k.val 0 = ys.getD (0 + i * b + k.val * s) 0
theorem Got.start (b s i : Nat) (ys : List Int) : Got b s i ys [] (List.replicate 8 0) := ⟨by simp, fun k hk => by cases hk⟩
theorem Got.next {b s i : Nat} {ys : List Int} {pre : List (Fin 8)} {ls : List Int} (h : Got b s i ys pre ls) (k : Fin 8) : Got b s i ys (pre ++ [k]) (ls.set k.val (ys.getD (0 + i * b + k.val * s) 0)) := by
  refine ⟨by rw [List.length_set]; exact h.1, fun j hj => ?_⟩
  rw [getD_set _ _ _ _ (by rw [h.1]; exact k.isLt)]
  by_cases e : k.val = j.val
  · rw [if_pos e, e]
  · rw [if_neg e]
    rcases List.mem_append.1 hj with hj | hj
    · exact h.2 j hj
    · exact absurd (by rw [List.mem_singleton.1 hj]) e
theorem Got.all {b s i : Nat} {ys ls : List Int} (h : Got b s i ys (List.finRange 8) ls) : ls = getLine b s ys i := by
  apply List.ext_getElem?
  intro j
  by_cases hj : j < 8
  · have h1 := h.2 ⟨j, hj⟩ (List.mem_finRange _)
    rw [List.getD_eq_getElem?_getD, List.getElem?_eq_getElem (by rw [h.1]; exact hj)] at h1
    rw [List.getElem?_eq_getElem (by rw [h.1]; exact hj)]
    unfold getLine
    rw [List.getElem?_map, List.getElem?_range hj]
    simp only [Option.getD_some] at h1
    rw [h1]
    rfl
  · rw [List.getElem?_eq_none (by rw [h.1]; omega), List.getElem?_eq_none (by simp [getLine]; omega)]
theorem getLine_len (b s i : Nat) (ys : List Int) : (getLine b s ys i).length = 8 := by simp [getLine]

theorem Good.start (b s : Nat) (xs : List Int) (h : xs.length = 64) : Good b s xs [] xs := ⟨h, fun _ => rfl⟩
theorem Good.next {b s : Nat} {xs : List Int} {pre : List (Fin 8)} {ys : List Int} (h : Good b s xs pre ys) (hlt : pre.length < 8) (i : Fin 8)
    (hE : ∀ k : Fin 8, Eight 1099511627776 (getLine b s (((List.finRange 8).take k.val).foldl (lineAt b s) xs) k.val)) (zs : List Int) (hz : Eight 1099511627776 (getLine b s ys i.val) → zs = lineL (getLine b s ys i.val)) :
    Good b s xs (pre ++ [i]) (putL (0 + i.val * b) s zs (List.finRange 8) ys) := by
  refine ⟨by rw [putL_len]; exact h.1, fun hp => ?_⟩
  rw [List.length_append, List.length_singleton, take_fin _ hlt] at hp
  obtain ⟨h1, h2⟩ := List.append_inj' hp rfl
  have h3 := h.2 h1
  have h4 : i = ⟨pre.length, hlt⟩ := by simpa using h2
  have h5 : i.val = pre.length := by rw [h4]
  have h6 := hE i
  rw [h5, ← h1, ← h3] at h6
  rw [h5] at hz
  rw [List.foldl_append, ← h3]
  show _ = putL (0 + i.val * b) s (lineL (getLine b s ys i.val)) (List.finRange 8) ys
  rw [h5, hz h6]

set_option maxRecDepth 100000 in
set_option maxHeartbeats 16000000 in
theorem each_in (n : Nat) (hn : 8 ≤ n) (b s bb bw : Nat) (xs : List Int) (hbs : ∀ i k : Nat, i < 8 → k < 8 → 0 + i * b + k * s < 64) (hb8 : b ≤ 8) (hs8 : s ≤ 8) (hne : bb ≠ bw) (w : World)
    (hX : xs.length = 64) (hB : Blk w bb 40 xs) (hW : Blk w bw 42 wL)
    (hE : ∀ k : Fin 8, Eight 1099511627776 (getLine b s (((List.finRange 8).take k.val).foldl (lineAt b s) xs) k.val)) :
    CallsIn Fence.wide n Try.prog 26 #[.pointer (some ⟨bb, 0, none⟩), .int .i64 (b : Int), .int .i64 (s : Int), .pointer (some ⟨bw, 0, none⟩)] w fun e W' =>
      (∃ v, e = .returned v) ∧ Blk W' bb 40 ((List.finRange 8).foldl (lineAt b s) xs) ∧ w.grownBy W' (some bb) := by
  have h1 : 1 ≤ n := by omega
  have h30 : Fence.wide.fn 30 := trivial
  have h33 : Fence.wide.fn 33 := trivial
  have hro : Fence.wide.round = none := rfl
  have hmx : Try.prog.follows .mixedOrders = true := by kernel_rfl
  refine callsIn_of_wp_marks Try.func26 rfl trivial ?_ hro
  simp only [Try.ntmps26, List.size_toArray, List.length_cons, List.length_nil, Nat.reduceAdd, Nat.reduceSub, Array.replicate_succ, Array.replicate_zero, List.push_toArray, List.append_toArray, List.nil_append, List.cons_append]
  have hsb := hB.lt
  have hsw := hW.lt
  have HX := Lib.hid hX
  have HB := Lib.hid hB
  have HW := Lib.hid hW
  have HE := Lib.hid hE
  have HBS := Lib.hid hbs
  clear hX hB hW hE hbs
  gi_wp2_with (gi_at_call 30; refine (strided_in Fence.wide (n - 1) h30 hro _ _ _).mono ?_; rintro e w' ⟨rfl, rfl⟩)
  obtain ⟨o1, ho1⟩ : ∃ o, Obj.cells #[Value.pointer (some ⟨bb, 0, none⟩)] 45 = o := ⟨_, rfl⟩
  obtain ⟨o2, ho2⟩ : ∃ o, Obj.cells #[Value.int .i64 (s : Int)] 3 = o := ⟨_, rfl⟩
  obtain ⟨o3, ho3⟩ : ∃ o, Obj.cells #[Value.pointer (some ⟨bw, 0, none⟩)] 46 = o := ⟨_, rfl⟩
  obtain ⟨o4, ho4⟩ : ∃ o, Obj.cells #[Value.int .i64 0] 3 = o := ⟨_, rfl⟩
  obtain ⟨o5, ho5⟩ : ∃ o, Obj.cells #[Value.int .i64 (b : Int)] 3 = o := ⟨_, rfl⟩
  rw [ho1, ho2, ho3, ho4, ho5]
  have b1 : Boxed ((((((w.alloc o1).alloc o2).alloc o3).alloc o4).alloc o5)) w.heap.size 45 (.pointer (some ⟨bb, 0, none⟩)) := by
    rw [← ho1]; exact ((((Boxed.new w 45 _).alloc o2).alloc o3).alloc o4).alloc o5
  have b2 : Boxed ((((((w.alloc o1).alloc o2).alloc o3).alloc o4).alloc o5)) (w.heap.size + 1) 3 (.int .i64 (s : Int)) := by
    rw [← ho2, ← World.size_alloc w o1]; exact (((Boxed.new (w.alloc o1) 3 _).alloc o3).alloc o4).alloc o5
  have b3 : Boxed ((((((w.alloc o1).alloc o2).alloc o3).alloc o4).alloc o5)) (w.heap.size + 2) 46 (.pointer (some ⟨bw, 0, none⟩)) := by
    rw [← ho3, show w.heap.size + 2 = ((w.alloc o1).alloc o2).heap.size by simp]; exact ((Boxed.new ((w.alloc o1).alloc o2) 46 _).alloc o4).alloc o5
  have b4 : Boxed ((((((w.alloc o1).alloc o2).alloc o3).alloc o4).alloc o5)) (w.heap.size + 1 + 1 + 1) 3 (.int .i64 ((0 : Nat) : Int)) := by
    rw [← ho4, show w.heap.size + 1 + 1 + 1 = (((w.alloc o1).alloc o2).alloc o3).heap.size by simp]; exact (Boxed.new (((w.alloc o1).alloc o2).alloc o3) 3 _).alloc o5
  have b5 : Boxed ((((((w.alloc o1).alloc o2).alloc o3).alloc o4).alloc o5)) (w.heap.size + 1 + 1 + 1 + 1) 3 (.int .i64 (b : Int)) := by
    rw [← ho5, show w.heap.size + 1 + 1 + 1 + 1 = ((((w.alloc o1).alloc o2).alloc o3).alloc o4).heap.size by simp]; exact Boxed.new ((((w.alloc o1).alloc o2).alloc o3).alloc o4) 3 _
  have hg0 : w.grownBy ((((((w.alloc o1).alloc o2).alloc o3).alloc o4).alloc o5)) (some bb) := grown_alloc (grown_alloc (grown_alloc (grown_alloc (World.grownBy_alloc w o1 _) o2) o3) o4) o5
  have hK0 : Blk ((((((w.alloc o1).alloc o2).alloc o3).alloc o4).alloc o5)) bb 40 xs := ((((HB.out.alloc o1).alloc o2).alloc o3).alloc o4).alloc o5
  have hK1 : Blk ((((((w.alloc o1).alloc o2).alloc o3).alloc o4).alloc o5)) bw 42 wL := ((((HW.out.alloc o1).alloc o2).alloc o3).alloc o4).alloc o5
  have hsz : ((((((w.alloc o1).alloc o2).alloc o3).alloc o4).alloc o5)).heap.size = w.heap.size + 5 := by simp
  obtain ⟨W0, hW0⟩ : ∃ W0, (((((w.alloc o1).alloc o2).alloc o3).alloc o4).alloc o5) = W0 := ⟨_, rfl⟩
  rw [hW0] at b1 b2 b3 b4 b5 hg0 hK0 hK1 hsz ⊢
  clear hW0 ho1 ho2 ho3 ho4 ho5
  refine wpIn_rangeFunc_ownH hro h1 (gf := 33) (lb := #[.pointer (some ⟨w.heap.size + 1 + 1 + 1, 0, none⟩), .pointer (some ⟨w.heap.size + 1 + 1 + 1 + 1, 0, none⟩)]) rfl h33 (enters_of Try.func33 (by kernel_rfl) rfl)
    (strided_stopsN Fence.wide (n - 1) h33 hro (by omega) (w.heap.size + 1 + 1 + 1) (w.heap.size + 1 + 1 + 1 + 1) 0 b (by omega) hb8 W0 b4 b5) kpBox_t (kpBox_b b4.lt b5.lt) (Below.refl _ _) (fun _ => rfl)
    (fun pre W => (Base w.heap.size bb bw s W ∧ ∃ ys, Good b s xs pre ys ∧ Blk W bb 40 ys) ∧ w.grownBy W (some bb))
    (fun _ _ _ => False)
    (OwnFrom.and (OwnFrom.and (Go.Own.from (base_own _ _ _ _) _) (Go.Own.from (blk_own bb 40 (Good b s xs)) _)) (ownFrom_grown (by omega)))
    (fun _ _ _ _ _ hs _ _ => hs)
    ⟨⟨⟨b1, b2, b3, hK1⟩, xs, Good.start b s xs HX.out, hK0⟩, hg0⟩
    (fun i a' _ => a' = { tmps := #[.pointer (some ⟨bb, 0, none⟩), .int .i64 (b : Int), .int .i64 (s : Int), .pointer (some ⟨bw, 0, none⟩), .pointer (some ⟨w.heap.size, 0, none⟩), undef, .pointer (some ⟨w.heap.size + 1, 0, none⟩), .pointer (some ⟨w.heap.size + 1 + 1, 0, none⟩), undef, (.int .i64 ((spot 0 i.val b : Nat) : Int)), undef, undef, undef, undef, undef, .int .i64 (b : Int), .func (.func 33) #[] #[.pointer (some ⟨w.heap.size + 1 + 1 + 1, 0, none⟩), .pointer (some ⟨w.heap.size + 1 + 1 + 1 + 1, 0, none⟩)], (.int .i64 ((i.val : Nat) : Int)), (.int .i64 ((spot 0 i.val b : Nat) : Int)), undef, undef, undef, undef, undef, undef, undef, undef, undef, undef, undef, undef, undef, undef, undef, undef, undef, undef, undef, undef, undef, undef, undef, undef, undef, undef, undef], defers := [] })
    (fun _ _ _ _ _ _ hs _ _ => hs)
    ?assign ?body ?done ?stop
  case assign =>
    rintro l pre i W K hI hK
    gi_wp2
    exact hK _ _ (KeepsFrom.refl _ _) ⟨rfl, rfl⟩ hI rfl
  case done =>
    rintro D zs W hD rfl ⟨⟨_, ys, hY, hYb⟩, hG⟩ hK
    gi_wp2
    refine ⟨by simp, .inl ⟨_, _, rfl, run_takeDeferred hK, ?_⟩⟩
    refine ⟨_, results_none rfl _ _ _, ⟨_, rfl⟩, ?_, ?_⟩
    · rw [hY.2 (by simp [List.take_of_length_le])] at hYb
      exact (World.putObj_heap_other (by omega)).trans hYb
    · exact ⟨hG.os, hG.tape, hG.output, by have := hG.size; simpa using this, fun k hk hne => (World.putObj_heap_other (by omega)).trans (hG.block k hk hne)⟩
  case stop =>
    rintro D c pre W _ _ h _
    exact h.elim
  case body =>
    rintro l pre i a' W hl ⟨r, hr⟩ ⟨⟨hBase, ys, hY, hYb⟩, hG⟩ rfl hlt
    have h1' : 1 ≤ n - 1 - 1 := by omega
    have c2 := (hBase.2.1.alloc (.cells #[.int .i64 0, .int .i64 0, .int .i64 0, .int .i64 0, .int .i64 0, .int .i64 0, .int .i64 0, .int .i64 0] 41)).cell
    have hsW : w.heap.size + 3 ≤ W.heap.size := by have := hBase.2.2.1.lt; omega
    have hsG := hG.size
    have hlW := (Array.getElem?_eq_some_iff.1 hr).1
    have HR := Lib.hid hr
    have HBase := Lib.hid hBase
    have HY := Lib.hid hY
    have HYb := Lib.hid hYb
    have HG := Lib.hid hG
    clear hr hBase hY hYb hG
    gi_wp2_with (gi_at_call 30; refine (CallsIn.inRound l (strided_in Fence.wide (n - 1 - 1 - 1) h30 hro _ _ _)).mono ?_; rintro e w' ⟨rfl, rfl⟩)
    obtain ⟨u1, hu1⟩ : ∃ o, Obj.cells #[Value.int .i64 0, Value.int .i64 0, Value.int .i64 0, Value.int .i64 0, Value.int .i64 0, Value.int .i64 0, Value.int .i64 0, Value.int .i64 0] 41 = o := ⟨_, rfl⟩
    obtain ⟨u2, hu2⟩ : ∃ o, Obj.cells #[Value.int .i64 ((spot 0 i.val b : Nat) : Int)] 3 = o := ⟨_, rfl⟩
    obtain ⟨u3, hu3⟩ : ∃ o, Obj.cells #[Value.int .i64 (s : Int)] 3 = o := ⟨_, rfl⟩
    clear c2
    rw [hu1, hu2, hu3]
    have d1 : Blk (((W.alloc u1).alloc u2).alloc u3) W.heap.size 41 (List.replicate 8 0) := by
      rw [← hu1]; exact ((Blk.new W 41 (List.replicate 8 0)).alloc u2).alloc u3
    have d2 : Boxed (((W.alloc u1).alloc u2).alloc u3) (W.heap.size + 1) 3 (.int .i64 ((spot 0 i.val b : Nat) : Int)) := by
      rw [← hu2, ← World.size_alloc W u1]; exact (Boxed.new (W.alloc u1) 3 _).alloc u3
    have d3 : Boxed (((W.alloc u1).alloc u2).alloc u3) (W.heap.size + 1 + 1) 3 (.int .i64 (s : Int)) := by
      rw [← hu3, show W.heap.size + 1 + 1 = ((W.alloc u1).alloc u2).heap.size by simp]; exact Boxed.new ((W.alloc u1).alloc u2) 3 _
    have d4 : Blk (((W.alloc u1).alloc u2).alloc u3) bb 40 ys := ((HYb.out.alloc u1).alloc u2).alloc u3
    have hg1 : W.grownBy (((W.alloc u1).alloc u2).alloc u3) (some bb) := grown_alloc (grown_alloc (World.grownBy_alloc W u1 _) u2) u3
    have hsz1 : (((W.alloc u1).alloc u2).alloc u3).heap.size = W.heap.size + 3 := by simp
    have hr1 : (((W.alloc u1).alloc u2).alloc u3).heap[l]? = some (.loop r) := by
      refine (hg1.block l (Array.getElem?_eq_some_iff.1 HR.out).1 (fun e => ?_)).trans HR.out
      cases e; omega
    obtain ⟨W1, hW1⟩ : ∃ W1, ((W.alloc u1).alloc u2).alloc u3 = W1 := ⟨_, rfl⟩
    rw [hW1] at d1 d2 d3 d4 hg1 hsz1 hr1 ⊢
    clear hW1 hu1 hu2 hu3
    have hnb : bb ≠ w.heap.size ∧ bb ≠ w.heap.size + 1 ∧ bb ≠ w.heap.size + 2 ∧ bb ≠ bw := ⟨by omega, by omega, by omega, hne⟩
    have hs0 : 0 + i.val * b ≤ 64 := by have := HBS.out i.val 0 i.isLt (by omega); omega
    refine wpIn_rangeFunc_ownN (l₀ := l) (r₀ := r) rfl hr1 h1' (gf := 33) (lb := #[.pointer (some ⟨W.heap.size + 1, 0, none⟩), .pointer (some ⟨W.heap.size + 1 + 1, 0, none⟩)]) rfl h33 (enters_of Try.func33 (by kernel_rfl) rfl)
      ((strided_stopsN Fence.wide (n - 1 - 1 - 1) h33 hro (by omega) (W.heap.size + 1) (W.heap.size + 1 + 1) (spot 0 i.val b) s hs0 hs8 W1 d2 d3).inRound l) kpBox_t (kpBox_b d2.lt d3.lt) (Below.refl _ _) (fun _ => rfl)
      (fun pre' W' => (Base w.heap.size bb bw s W' ∧ ∃ zs, zs = ys ∧ Blk W' bb 40 zs) ∧ (∃ ls, Got b s i.val ys pre' ls ∧ Blk W' W.heap.size 41 ls) ∧ W.grownBy W' (some bb))
      (fun _ _ _ => False)
      (OwnFrom.and (OwnFrom.and (Go.Own.from (base_own _ _ _ _) _) (Go.Own.from (blk_own bb 40 (fun _ zs => zs = ys)) _)) (OwnFrom.and (Go.Own.from (blk_own W.heap.size 41 (Got b s i.val ys)) _) (ownFrom_grown (by omega))))
      (fun _ _ _ _ _ hs _ _ => hs)
      ⟨⟨HBase.out.grown hg1 hnb, ys, rfl, d4⟩, ⟨_, Got.start b s i.val ys, d1⟩, hg1⟩
      (fun k a'' _ => a'' = { tmps := #[.pointer (some ⟨bb, 0, none⟩), .int .i64 (b : Int), .int .i64 (s : Int), .pointer (some ⟨bw, 0, none⟩), .pointer (some ⟨w.heap.size, 0, none⟩), undef, .pointer (some ⟨w.heap.size + 1, 0, none⟩), .pointer (some ⟨w.heap.size + 1 + 1, 0, none⟩), undef, (.int .i64 ((spot 0 i.val b : Nat) : Int)), .pointer (some ⟨W.heap.size, 0, none⟩), (.int .i64 ((k.val : Nat) : Int)), (.int .i64 ((spot (spot 0 i.val b) k.val s : Nat) : Int)), undef, undef, .int .i64 (b : Int), .func (.func 33) #[] #[.pointer (some ⟨w.heap.size + 1 + 1 + 1, 0, none⟩), .pointer (some ⟨w.heap.size + 1 + 1 + 1 + 1, 0, none⟩)], (.int .i64 ((i.val : Nat) : Int)), (.int .i64 ((spot 0 i.val b : Nat) : Int)), (.int .i64 ((spot 0 i.val b : Nat) : Int)), (.int .i64 (s : Int)), (.func (.func 33) #[] #[.pointer (some ⟨W.heap.size + 1, 0, none⟩), .pointer (some ⟨W.heap.size + 1 + 1, 0, none⟩)]), (.int .i64 ((k.val : Nat) : Int)), (.int .i64 ((spot (spot 0 i.val b) k.val s : Nat) : Int)), undef, undef, undef, undef, undef, undef, undef, undef, undef, undef, undef, undef, undef, undef, undef, undef, undef, undef, undef, undef, undef, undef], defers := [] })
      (fun _ _ _ _ _ _ hs _ _ => hs)
      ?assign2 ?body2 ?done2 ?stop2
    case assign2 =>
      rintro l2 pre' k W' K hI hK
      gi_wp2
      exact hK _ _ (KeepsFrom.refl _ _) ⟨rfl, rfl⟩ hI rfl
    case stop2 =>
      rintro c pre' W' _ h
      exact h.elim
    case body2 =>
      rintro l2 pre' k a'' W' hl2 _ ⟨⟨hBase, zs, hzs, hYb'⟩, ⟨ls, hls, hLs⟩, hG⟩ rfl _
      rw [hzs] at hYb'
      clear hzs
      obtain ⟨j, hj⟩ : ∃ j, spot (spot 0 i.val b) k.val s = j := ⟨_, rfl⟩
      have hj2 : 0 + i.val * b + k.val * s = j := hj
      have hj64 : j < 64 := by have := HBS.out i.val k.val i.isLt k.isLt; omega
      rw [hj]
      have e1 := hBase.1.cell
      have e2 := hYb'.cell j (by rw [HY.out.1]; exact hj64)
      have e3 := hLs.cell k.val (by rw [hls.1]; exact k.isLt)
      have e4 := hLs.frozen k.val
      obtain ⟨z, hz⟩ : ∃ z, ys.getD j 0 = z := ⟨_, rfl⟩
      have hgot := hls.next k
      rw [hj2, hz] at hgot
      rw [hz] at e2
      have hks : Blk (W'.setCell ⟨W.heap.size, k.val, none⟩ (.int .i64 z)) W.heap.size 41 (ls.set k.val z) := hLs.set k.val z
      have hbase2 : Base w.heap.size bb bw s (W'.setCell ⟨W.heap.size, k.val, none⟩ (.int .i64 z)) := hBase.grown (grown_set1 W' W.heap.size k.val _) ⟨by omega, by omega, by omega, by omega⟩
      have hyb2 : Blk (W'.setCell ⟨W.heap.size, k.val, none⟩ (.int .i64 z)) bb 40 ys := hYb'.far (show bb ≠ W.heap.size by omega) _
      have hgg : W.grownBy (W'.setCell ⟨W.heap.size, k.val, none⟩ (.int .i64 z)) (some bb) := grown_set hG ⟨W.heap.size, k.val, none⟩ _ (.inl (Nat.le_refl _))
      have hkp : KpBox (W.heap.size + 1) (W.heap.size + 1 + 1) W' (W'.setCell ⟨W.heap.size, k.val, none⟩ (.int .i64 z)) := ⟨Below.heap_setCell W' ⟨W.heap.size, k.val, none⟩ _ _ (by show _ ≠ W.heap.size; omega), Below.heap_setCell W' ⟨W.heap.size, k.val, none⟩ _ _ (by show _ ≠ W.heap.size; omega)⟩
      have hko : KeepsFrom W1.heap.size W' (W'.setCell ⟨W.heap.size, k.val, none⟩ (.int .i64 z)) := (KeepsOthers.setCell _ _ _).from _
      have i1 : (0 : Int) ≤ (j : Int) := Int.natCast_nonneg _
      have i2 : (j : Int) < 64 := by omega
      have i3 : (0 : Int) ≤ (k.val : Int) := Int.natCast_nonneg _
      have i4 : ((k.val : Nat) : Int) < 8 := by omega
      have KP := Lib.hid (show _ ∧ _ ∧ _ from ⟨hko, hkp, (⟨⟨hbase2, ys, rfl, hyb2⟩, ⟨_, hgot, hks⟩, hgg⟩ : (Base w.heap.size bb bw s _ ∧ ∃ zs, zs = ys ∧ Blk _ bb 40 zs) ∧ (∃ ls, Got b s i.val ys (pre' ++ [k]) ls ∧ Blk _ W.heap.size 41 ls) ∧ W.grownBy _ (some bb))⟩)
      generalize ls.getD k.val 0 = z0 at e3
      clear hbase2 hyb2 hgg hkp hko hks hgot hBase hYb' hls hLs hG hj hj2 hz d1 d2 d3 d4 hg1 hr1
      gi_wp2
      exact KP.out
    case done2 =>
      rintro ks W' rfl ⟨⟨hBase, ys', hys', hYb'⟩, ⟨ls, hls, hLs⟩, hG1⟩
      rw [hys'] at hYb'
      clear hys' ys'
      have hl8 := hls.all
      rw [hl8] at hLs
      clear hl8 hls ls
      have hlen := getLine_len b s i.val ys
      have e1 := hBase.2.2.1.cell
      have hszW := hG1.size
      have HB1 := Lib.hid hBase
      have HY1 := Lib.hid hYb'
      have HL1 := Lib.hid hLs
      have HG1 := Lib.hid hG1
      have HS41 : Hid ((Try.prog.info? 41).map (·.size) = some (cel (getLine b s ys i.val)).size) := Lib.hid (by rw [cel_size, hlen]; kernel_rfl)
      have HLEN := Lib.hid hlen
      clear hBase hYb' hLs hG1 hlen d1 d2 d3 d4 hg1 hr1
      gi_wp2_with (first
        | (refine wpListIn_load_cel rfl 41 (.tmp 10) rfl W.heap.size 41 (getLine b s ys i.val) rfl _ _ HL1.out Try.underlying41 HS41.out ?_)
        | (refine ⟨trivial, ?_⟩; gi_at_call 28; refine (CallsIn.inRound l (callsIn_wide.2 (line_both (getLine b s ys i.val) bw _ HLEN.out HB1.out.2.2.2))).mono ?_; rintro e w' ⟨zs, rfl, ⟨hz8, hzE⟩, hBw⟩
           have HZ := Lib.hid hz8
           have HZE := Lib.hid hzE
           have HBW := Lib.hid hBw
           have HI2 : Hid ((Try.prog.info? 41).map (·.size) = some (cel zs).size) := Lib.hid (by rw [cel_size, hz8]; kernel_rfl)
           have HL2 := Lib.hid (HL1.out.later hBw)
           have HB2 := Lib.hid ((HB1.out.grown (grown_of_below hBw (some W.heap.size)) ⟨by omega, by omega, by omega, by omega⟩).grown (grown_setRow w' W.heap.size (cel zs)) ⟨by omega, by omega, by omega, by omega⟩)
           have HLN : Hid ((getLine b s ys i.val).length = zs.length) := Lib.hid (by rw [HLEN.out, hz8])
           have e2 := HB2.out.2.1.cell
           have hsz2 := hBw.size
           clear hz8 hzE hBw)
        | (refine wpListIn_store_cel rfl 41 (.tmp 10) (.tmp 33) rfl W.heap.size 41 (getLine b s ys i.val) zs rfl rfl HL2.out HI2.out HLN.out ?_)
        | (gi_at_call 30; refine (CallsIn.inRound l (strided_in Fence.wide (n - 1 - 1 - 1) h30 hro _ _ _)).mono ?_; rintro e w'' ⟨rfl, rfl⟩))
      obtain ⟨v1, hv1⟩ : ∃ o, Obj.cells #[Value.int .i64 ((spot 0 i.val b : Nat) : Int)] 3 = o := ⟨_, rfl⟩
      obtain ⟨v2, hv2⟩ : ∃ o, Obj.cells #[Value.int .i64 (s : Int)] 3 = o := ⟨_, rfl⟩
      rw [hv1, hv2]
      have hsR : (w'.setRow W.heap.size (cel zs)).heap.size = w'.heap.size := by simp
      have t1 : Boxed (((w'.setRow W.heap.size (cel zs)).alloc v1).alloc v2) w'.heap.size 3 (.int .i64 ((spot 0 i.val b : Nat) : Int)) := by
        rw [← hv1, ← hsR]; exact (Boxed.new (w'.setRow W.heap.size (cel zs)) 3 _).alloc v2
      have t2 : Boxed (((w'.setRow W.heap.size (cel zs)).alloc v1).alloc v2) (w'.heap.size + 1) 3 (.int .i64 (s : Int)) := by
        rw [← hv2, show w'.heap.size + 1 = ((w'.setRow W.heap.size (cel zs)).alloc v1).heap.size by simp]; exact Boxed.new ((w'.setRow W.heap.size (cel zs)).alloc v1) 3 _
      have t3 : Base w.heap.size bb bw s (((w'.setRow W.heap.size (cel zs)).alloc v1).alloc v2) := (HB2.out.alloc v1).alloc v2
      have t4 : Blk (((w'.setRow W.heap.size (cel zs)).alloc v1).alloc v2) bb 40 ys := (((HY1.out.later HBW.out).grown (grown_setRow w' W.heap.size (cel zs)) (fun e => by cases e; omega)).alloc v1).alloc v2
      have t5 : Blk (((w'.setRow W.heap.size (cel zs)).alloc v1).alloc v2) W.heap.size 41 zs := ((HL2.out.setRow zs).alloc v1).alloc v2
      have t6 : W.grownBy (((w'.setRow W.heap.size (cel zs)).alloc v1).alloc v2) (some bb) := grown_alloc (grown_alloc (grown_row (grown_later HG1.out HBW.out) W.heap.size (cel zs) (Nat.le_refl _)) v1) v2
      have t7 : (((w'.setRow W.heap.size (cel zs)).alloc v1).alloc v2).heap[l]? = some (.loop r) := by
        refine (t6.block l (Array.getElem?_eq_some_iff.1 HR.out).1 (fun e => ?_)).trans HR.out
        cases e; omega
      have t8 : (((w'.setRow W.heap.size (cel zs)).alloc v1).alloc v2).heap.size = w'.heap.size + 2 := by simp
      obtain ⟨W2, hW2⟩ : ∃ W2, ((w'.setRow W.heap.size (cel zs)).alloc v1).alloc v2 = W2 := ⟨_, rfl⟩
      rw [hW2] at t1 t2 t3 t4 t5 t6 t7 t8 ⊢
      clear hW2 hv1 hv2 e1 e2 hsR
      refine wpIn_rangeFunc_ownN (l₀ := l) (r₀ := r) rfl t7 h1' (gf := 33) (lb := #[.pointer (some ⟨w'.heap.size, 0, none⟩), .pointer (some ⟨w'.heap.size + 1, 0, none⟩)]) rfl h33 (enters_of Try.func33 (by kernel_rfl) rfl)
        ((strided_stopsN Fence.wide (n - 1 - 1 - 1) h33 hro (by omega) (w'.heap.size) (w'.heap.size + 1) (spot 0 i.val b) s hs0 hs8 W2 t1 t2).inRound l) kpBox_t (kpBox_b t1.lt t2.lt) (Below.refl _ _) (fun _ => rfl)
        (fun pre' W' => (Base w.heap.size bb bw s W' ∧ ∃ us, us = putL (0 + i.val * b) s zs pre' ys ∧ Blk W' bb 40 us) ∧ (∃ ls, ls = zs ∧ Blk W' W.heap.size 41 ls) ∧ W.grownBy W' (some bb))
        (fun _ _ _ => False)
        (OwnFrom.and (OwnFrom.and (Go.Own.from (base_own _ _ _ _) _) (Go.Own.from (blk_own bb 40 (fun pre' us => us = putL (0 + i.val * b) s zs pre' ys)) _)) (OwnFrom.and (Go.Own.from (blk_own W.heap.size 41 (fun _ ls => ls = zs)) _) (ownFrom_grown (by omega))))
        (fun _ _ _ _ _ hs _ _ => hs)
        ⟨⟨t3, ys, rfl, t4⟩, ⟨zs, rfl, t5⟩, t6⟩
        (fun k a'' _ => a'' = { tmps := #[.pointer (some ⟨bb, 0, none⟩), .int .i64 (b : Int), .int .i64 (s : Int), .pointer (some ⟨bw, 0, none⟩), .pointer (some ⟨w.heap.size, 0, none⟩), undef, .pointer (some ⟨w.heap.size + 1, 0, none⟩), .pointer (some ⟨w.heap.size + 1 + 1, 0, none⟩), undef, (.int .i64 ((spot 0 i.val b : Nat) : Int)), .pointer (some ⟨W.heap.size, 0, none⟩), undef, undef, (.int .i64 ((k.val : Nat) : Int)), (.int .i64 ((spot (spot 0 i.val b) k.val s : Nat) : Int)), .int .i64 (b : Int), .func (.func 33) #[] #[.pointer (some ⟨w.heap.size + 1 + 1 + 1, 0, none⟩), .pointer (some ⟨w.heap.size + 1 + 1 + 1 + 1, 0, none⟩)], (.int .i64 ((i.val : Nat) : Int)), (.int .i64 ((spot 0 i.val b : Nat) : Int)), (.int .i64 ((spot 0 i.val b : Nat) : Int)), (.int .i64 (s : Int)), (.func (.func 33) #[] #[.pointer (some ⟨W.heap.size + 1, 0, none⟩), .pointer (some ⟨W.heap.size + 1 + 1, 0, none⟩)]), undef, undef, undef, undef, undef, undef, undef, undef, undef, (.agg (cel (getLine b s ys i.val))), .pointer (some ⟨bw, 0, none⟩), (.agg (cel zs)), (.int .i64 ((spot 0 i.val b : Nat) : Int)), (.int .i64 (s : Int)), (.func (.func 33) #[] #[.pointer (some ⟨w'.heap.size, 0, none⟩), .pointer (some ⟨w'.heap.size + 1, 0, none⟩)]), (.int .i64 ((k.val : Nat) : Int)), (.int .i64 ((spot (spot 0 i.val b) k.val s : Nat) : Int)), undef, undef, undef, undef, undef, undef, undef], defers := [] })
        (fun _ _ _ _ _ _ hs _ _ => hs)
        ?assign3 ?body3 ?done3 ?stop3
      case assign3 =>
        rintro l3 pre' k W' K hI hK
        gi_wp2
        exact hK _ _ (KeepsFrom.refl _ _) ⟨rfl, rfl⟩ hI rfl
      case stop3 =>
        rintro c pre' W' _ h
        exact h.elim
      case body3 =>
        rintro l3 pre' k a'' W3 hl3 _ ⟨⟨hBase, us, hus, hYb'⟩, ⟨ls, hls, hLs⟩, hG⟩ rfl _
        rw [hls] at hLs
        clear hls
        obtain ⟨j, hj⟩ : ∃ j, spot (spot 0 i.val b) k.val s = j := ⟨_, rfl⟩
        have hj2 : 0 + i.val * b + k.val * s = j := hj
        have hj64 : j < 64 := by have := HBS.out i.val k.val i.isLt k.isLt; omega
        rw [hj]
        have hul : us.length = 64 := by rw [hus, putL_len]; exact HY.out.1
        have e1 := hBase.1.cell
        have e2 := hLs.cell k.val (by rw [HZ.out]; exact k.isLt)
        have e3 := hYb'.cell j (by rw [hul]; exact hj64)
        have e4 := hYb'.frozen j
        obtain ⟨z, hz⟩ : ∃ z, zs.getD k.val 0 = z := ⟨_, rfl⟩
        rw [hz] at e2
        have hks : Blk ((W3.setCell ⟨bb, j, none⟩ (.int .i64 z)).drew) bb 40 (us.set j z) := (hYb'.set j z).drew
        have hus2 : us.set j z = putL (0 + i.val * b) s zs (pre' ++ [k]) ys := by rw [putL_snoc, ← hus, hj2, hz]
        have hbase2 : Base w.heap.size bb bw s ((W3.setCell ⟨bb, j, none⟩ (.int .i64 z)).drew) := hBase.grown (grown_drew (grown_set1 W3 bb j _)) ⟨by omega, by omega, by omega, hne⟩
        have hyb2 : Blk ((W3.setCell ⟨bb, j, none⟩ (.int .i64 z)).drew) W.heap.size 41 zs := hLs.far (show W.heap.size ≠ bb by omega) _
        have hgg : W.grownBy ((W3.setCell ⟨bb, j, none⟩ (.int .i64 z)).drew) (some bb) := grown_drew (grown_set hG ⟨bb, j, none⟩ _ (.inr rfl))
        have hkp : KpBox (w'.heap.size) (w'.heap.size + 1) W3 ((W3.setCell ⟨bb, j, none⟩ (.int .i64 z)).drew) := ⟨Below.heap_setCell W3 ⟨bb, j, none⟩ _ _ (by show _ ≠ bb; omega), Below.heap_setCell W3 ⟨bb, j, none⟩ _ _ (by show _ ≠ bb; omega)⟩
        have hko : KeepsFrom W2.heap.size W3 ((W3.setCell ⟨bb, j, none⟩ (.int .i64 z)).drew) := ((KeepsOthers.setCell _ _ _).trans (KeepsOthers.drew _)).from _
        have i1 : (0 : Int) ≤ (j : Int) := Int.natCast_nonneg _
        have i2 : (j : Int) < 64 := by omega
        have i3 : (0 : Int) ≤ (k.val : Int) := Int.natCast_nonneg _
        have i4 : ((k.val : Nat) : Int) < 8 := by omega
        have KP := Lib.hid (show _ ∧ _ ∧ _ from ⟨hko, hkp, (⟨⟨hbase2, _, hus2, hks⟩, ⟨_, rfl, hyb2⟩, hgg⟩ : (Base w.heap.size bb bw s _ ∧ ∃ us, us = putL (0 + i.val * b) s zs (pre' ++ [k]) ys ∧ Blk _ bb 40 us) ∧ (∃ ls, ls = zs ∧ Blk _ W.heap.size 41 ls) ∧ W.grownBy _ (some bb))⟩)
        generalize us.getD j 0 = z0 at e3
        clear hbase2 hyb2 hgg hkp hko hks hus2 hBase hYb' hLs hG hj hj2 hz t1 t2 t3 t4 t5 t6 t7
        gi_wp2
        gi_region_with_o (fail)
        all_goals gi_wp2
        all_goals exact KP.out
      case done3 =>
        rintro ks W3 rfl ⟨⟨hBase, us, hus, hYb'⟩, ⟨ls, hls, hLs⟩, hG⟩
        gi_wp2
        have hgood := HY.out.next hlt i HE.out zs HZE.out
        rw [← hus] at hgood
        exact ⟨keeps_grown hG HYb.out, kp_grown hG (by omega) (by omega) (by omega) (by omega), ⟨hBase, us, hgood, hYb'⟩, grown_trans HG.out hG⟩

end Go.Proofs.Ytpdggfjpbdidlaa
