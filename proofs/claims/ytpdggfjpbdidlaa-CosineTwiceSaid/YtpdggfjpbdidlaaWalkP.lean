/-
  The walk of made: 64 numbers from -2048 to 2047. Conditions: what comes in reads as a list of at most 64 numbers.
-/
import Derived.Test.YtpdggfjpbdidlaaWalkO
namespace Go.Proofs.Ytpdggfjpbdidlaa
open Go.RowKit

/-- A block of its own, of 64 numbers from -2048 to 2047. -/
def MadeR (w : World) (e : Ending) (w' : World) : Prop := ∃ (g : Nat) (ys : List Int), e = .returned (.slice (some ⟨g, 0, none⟩) 64 64) ∧ w.heap.size ≤ g ∧ Blk w' g 3 ys ∧ Blk64 ys ∧ Below w.heap.size w w'

theorem blk64_zero : Blk64 (List.replicate 64 0) := ⟨by simp, fun j _ => by
  rw [List.getD_eq_getElem?_getD, List.getElem?_replicate]
  split <;> simp⟩
theorem Blk64.set {ys : List Int} (h : Blk64 ys) (k : Nat) (z : Int) (hk : k < 64) (h1 : -2048 ≤ z) (h2 : z ≤ 2047) : Blk64 (ys.set k z) := ⟨by rw [List.length_set]; exact h.1, fun j hj => by
  rw [getDset _ _ _ _ (by rw [h.1]; exact hk)]
  split
  · exact ⟨h1, h2⟩
  · exact h.2 j hj⟩

set_option maxRecDepth 100000 in
set_option maxHeartbeats 4000000 in
theorem made_any (v : Value) (xs : List Int) (w : World) (hlen : xs.length ≤ 64) (h : Rd w w.heap.size v xs) : Calls Try.prog 10 #[v] w (MadeR w) := by
  have H := Lib.hid h
  obtain ⟨a, cap, rfl, _, hc⟩ := h
  have HC := Lib.hid hc
  clear hc
  obtain ⟨n, hn⟩ : ∃ n, xs.length = n := ⟨_, rfl⟩
  have HN := Lib.hid hn
  rw [hn] at hlen H ⊢
  clear hn
  have hmk := make64
  go_enter Try.func10, Try.ntmps10
  go_wp2_with fail
  clear hmk
  have O1 := blk_made w
  have hB1 := alloc_below w (.cells zeros64 3)
  obtain ⟨w1, hw1⟩ : ∃ w1, w.alloc (.cells zeros64 3) = w1 := ⟨_, rfl⟩
  rw [hw1] at O1 hB1 ⊢
  clear hw1
  go_loopg [4] n (fun gh i wr => ∃ k : Nat, gh + k = n ∧ i = .int .i64 (k : Int) ∧ Below w.heap.size w wr ∧ ∃ ys, Blk64 ys ∧ Blk wr w.heap.size 3 ys)
  case atStart => exact ⟨0, by omega, rfl, hB1, _, blk64_zero, O1⟩
  case round =>
    clear hB1 O1
    obtain ⟨k, hk, rfl, hB, ys, hY, hO⟩ := hrel
    have HK := Lib.hid hk
    have HB := Lib.hid hB
    have HY := Lib.hid hY
    have HO := Lib.hid hO
    have hkn : k ≤ n := by omega
    clear hk hB hY hO
    by_cases hlt : k < n
    · obtain ⟨b, off, rfl, hb, hcells⟩ := HC.out (by intro e; subst e; have := HN.out; simp at this; omega)
      have hcell := HB.out.cell (p := ⟨b, off + k, none⟩) hb
      rw [hcells k (by rw [HN.out]; exact hlt)] at hcell
      clear hcells
      generalize xs.getD k 0 = z at hcell
      have hi : (k : Int) < (n : Int) := by omega
      have hi64 : (k : Int) < 64 := by omega
      have hi0 : (0 : Int) ≤ (k : Int) := Int.natCast_nonneg _
      have hd : decide ((k : Int) < (n : Int)) = true := by simp; omega
      have hd64 : decide ((k : Int) < 64) = true := by simp; omega
      have hk64 : k < 64 := by omega
      have o1 := HO.out.cell k (by rw [HY.out.1]; exact hk64)
      have o2 := HO.out.frozen k
      generalize ys.getD k 0 = y at o1
      go_wp2_with (go_at_call 12; refine (pick_any _ 4096 (by omega) (by omega) _).mono ?_; rintro e w2 ⟨r, ⟨hr1, hr2⟩, rfl, rfl⟩
                   have j1 : IntKind.i64.wrap (r - 2048) = r - 2048 := IntWalk.i64_in _ (by omega))
      go_roundg (n - 1 - k)
      case measure => have := HK.out; omega
      case rel => exact ⟨k + 1, by omega, by go_num, HB.out.setCell (p := ⟨w.heap.size, k, none⟩) (Nat.le_refl _) _, _, HY.out.set k (r - 2048) hk64 (by omega) (by omega), HO.out.set k (r - 2048)⟩
    · have hkn2 : k = n := by omega
      subst hkn2
      have hd : decide ((k : Int) < (k : Int)) = false := by simp
      go_wp2_with fail
      go_ret
      exact ⟨w.heap.size, ys, rfl, Nat.le_refl _, HO.out, HY.out, HB.out⟩

end Go.Proofs.Ytpdggfjpbdidlaa
