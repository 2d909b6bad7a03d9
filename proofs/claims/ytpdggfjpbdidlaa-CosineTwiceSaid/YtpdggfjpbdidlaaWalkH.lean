/-
  The iterator strided: a range over it runs through eight places. Conditions: those that each theorem names.
-/
import Derived.RangeFuncNested
import Derived.RangeFuncBound
import Derived.RangeFuncCalls
import Derived.RangeFuncLeaves
import Derived.Shelf.Abstract
import Derived.Shelf.RegionOpen
import Derived.WalkKit
import Derived.OwnWalkIn
import Derived.TacticsInMore
import Derived.LoopNIn
import Derived.LoopIn
import Derived.Test.YtpdggfjpbdidlaaWalkG
namespace Go.Proofs.Ytpdggfjpbdidlaa
open Go.RowKit Go.Shelf

attribute [local go_sem] Oper.semAt_some

/-- What a round keeps: the two boxes of the iterator. -/
def KpBox (p q : Nat) (W W' : World) : Prop := W'.heap[p]? = W.heap[p]? ∧ W'.heap[q]? = W.heap[q]?
theorem kpBox_t {p q : Nat} {A B C : World} (h : KpBox p q A B) (k : KpBox p q B C) : KpBox p q A C := ⟨k.1.trans h.1, k.2.trans h.2⟩
theorem kpBox_b {p q : Nat} {w : World} (hp : p < w.heap.size) (hq : q < w.heap.size) (W : World) (l : Nat) (o o' : Obj) (hl : w.heap.size ≤ l) (_ : W.heap[l]? = some o) (_ : o.isCells = false) (_ : o.isWalk = false) : KpBox p q W (W.putObj l o') :=
  ⟨World.putObj_heap_other (by omega), World.putObj_heap_other (by omega)⟩

set_option maxHeartbeats 1000000 in
theorem strided_in (F : Fence) (n : Nat) (h30 : F.fn 30) (hro : F.round = none) (a s : Int) (w : World) :
    CallsIn F n Try.prog 30 #[.int .i64 a, .int .i64 s] w fun e w' => e = .returned (.func (.func 33) #[] #[.pointer (some ⟨w.heap.size, 0, none⟩), .pointer (some ⟨w.heap.size + 1, 0, none⟩)]) ∧ w' = (w.alloc (.cells #[.int .i64 a] 3)).alloc (.cells #[.int .i64 s] 3) := by
  refine callsIn_of_wp Try.func30 rfl h30 ?_ hro
  simp only [Try.ntmps30, List.size_toArray, List.length_cons, List.length_nil, Nat.reduceAdd, Nat.reduceSub, Array.replicate_succ, Array.replicate_zero, List.push_toArray, List.append_toArray, List.nil_append, List.cons_append]
  gi_wp2
  go_ret
  exact ⟨rfl, rfl⟩

theorem take_fin (k : Nat) (h : k < 8) : (List.finRange 8).take (k + 1) = (List.finRange 8).take k ++ [⟨k, h⟩] := by
  rw [List.take_succ_eq_append_getElem (by simpa using h)]
  congr 1
  simp

set_option maxRecDepth 100000 in
set_option maxHeartbeats 2000000 in
theorem strided_stops (F : Fence) (n : Nat) (h33 : F.fn 33) (hro : F.round = none) (hn : 1 ≤ n) (p q : Nat) (a s : Int) (ha : 0 ≤ a) (ha2 : a ≤ 64) (hs : 0 ≤ s) (hs2 : s ≤ 8) (w : World)
    (hp : Boxed w p 3 (.int .i64 a)) (hq : Boxed w q 3 (.int .i64 s)) :
    SeqStopsK F n Try.prog 33 #[.pointer (some ⟨p, 0, none⟩), .pointer (some ⟨q, 0, none⟩)] (fun i : Fin 8 => #[Value.int .i64 ((i.val : Nat) : Int), Value.int .i64 (a + ((i.val : Nat) : Int) * s)]) (KpBox p q)
      (fun xs => xs = List.finRange 8) (fun _ => True) 8 w := fun l J Jx W hW _ _ hY h0 => by
  have hpW : Boxed W p 3 (.int .i64 a) := (hW.block p hp.lt).trans hp
  have hqW : Boxed W q 3 (.int .i64 s) := (hW.block q hq.lt).trans hq
  refine callsIn_of_wp Try.func33 rfl h33 ?_ hro
  simp only [Try.ntmps33, List.size_toArray, List.length_cons, List.length_nil, Nat.reduceAdd, Nat.reduceSub, Array.replicate_succ, Array.replicate_zero, List.push_toArray, List.append_toArray, List.nil_append, List.cons_append]
  gi_wp2
  gi_loopw [5] (fun i wr => ∃ k : Nat, k ≤ 8 ∧ i = .int .i64 (k : Int) ∧ J ((List.finRange 8).take k) wr ∧ Boxed wr p 3 (.int .i64 a) ∧ Boxed wr q 3 (.int .i64 s)) (fun i _ => 8 - (intOf i).toNat)
  case atStart => exact ⟨0, by omega, rfl, h0, hpW, hqW⟩
  case round =>
    obtain ⟨k, hk, rfl, hJ, hp1, hq1⟩ := hrel
    have HJ := Lib.hid hJ
    by_cases hlt : k < 8
    · obtain ⟨fn, tmps, assign, body, hy, hR⟩ := hY _ ⟨k, hlt⟩ wr hJ (by simp; omega)
      dsimp only at hy
      have c1 := hp1.cell
      have c2 := hq1.cell
      have hm : 0 ≤ (k : Int) * s := Int.mul_nonneg (by omega) hs
      have hm2 : (k : Int) * s ≤ 64 := by
        have := Int.mul_le_mul (a := (k : Int)) (b := s) (c := 8) (d := 8) (by omega) hs2 hs (by omega)
        omega
      have HR := Lib.hid hR
      have HP := Lib.hid hp1
      have HQ := Lib.hid hq1
      clear hR hp1 hq1 hJ hpW hqW hp hq
      gi_wp2
      refine HR.out.mono ?_
      rintro e W3 (⟨rfl, hJ3, hk3⟩ | ⟨rfl, hJx3⟩)
      · have HJ3 := Lib.hid hJ3
        have HP3 := Lib.hid (show Boxed W3 p 3 (.int .i64 a) from hk3.1.trans HP.out)
        have HQ3 := Lib.hid (show Boxed W3 q 3 (.int .i64 s) from hk3.2.trans HQ.out)
        clear hJ3 hk3
        gi_wp2
        go_roundw
        case rel => exact ⟨k + 1, by omega, by go_num, by rw [take_fin k hlt]; exact HJ3.out, HP3.out, HQ3.out⟩
        case measure => simp [intOf]; omega
      · gi_wp2
        refine bodyPost_ret (results_none rfl _ _ _) rfl ?_
        exact ⟨⟨_, rfl⟩, .inr ⟨_, trivial, hJx3⟩⟩
    · have hk8 : k = 8 := by omega
      subst hk8
      clear hJ hpW hqW hp hq hp1 hq1
      gi_wp2
      go_end0
      exact ⟨⟨_, rfl⟩, .inl ⟨_, List.take_of_length_le (by simp), HJ.out⟩⟩

end Go.Proofs.Ytpdggfjpbdidlaa
