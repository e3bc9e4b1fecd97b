/-
  Whether a string has any of two ASCII bytes: the library's own text walked where the string isn't ASCII.
-/
import Derived.Laws.Runes
import Derived.Laws.RangeString
import Derived.Lib.IndexAny
import Derived.Deep.LoopGhost
import Derived.Test.YtcjackjoonijnaaShelf
import Derived.Test.YtcjackjoonijnaaSeal4
namespace Go.Proofs.Ytcjackjoonijnaa
open Go.RowKit

/-! ### a rune that is not ASCII -/
theorem get_at (s : ByteArray) (k : Nat) (h : k < s.size) : s.get! k = s[k]'h := by
  simp [ByteArray.get!, getElem!_pos, h]
  rfl
theorem decode_far (s : ByteArray) (i : Nat) (h : i < s.size) (hb : 128 ≤ (s[i]'h).toNat) :
    128 ≤ (Utf8.decode s i).1 ∧ Utf8.valid ((Utf8.decode s i).1 : Nat) = true ∧ 1 ≤ (Utf8.decode s i).2 ∧ i + (Utf8.decode s i).2 ≤ s.size ∧ ∀ j (hj : j < s.size), i ≤ j → j < i + (Utf8.decode s i).2 → 128 ≤ (s[j]'hj).toNat := by
  have h0 : (s.get! (i + 0)).toNat = (s[i]'h).toNat := by rw [Nat.add_zero, get_at s i h]
  have one : ∀ j (hj : j < s.size), i ≤ j → j < i + 1 → 128 ≤ (s[j]'hj).toNat := fun j hj h1 h2 => by
    obtain rfl : j = i := by omega
    exact hb
  have err : 128 ≤ Utf8.runeError ∧ Utf8.valid (Utf8.runeError : Nat) = true ∧ 1 ≤ 1 ∧ i + 1 ≤ s.size ∧ ∀ j (hj : j < s.size), i ≤ j → j < i + 1 → 128 ≤ (s[j]'hj).toNat := ⟨by decide, by decide, Nat.le_refl _, h, one⟩
  have cont : ∀ k, (decide (i + k < s.size) = true ∧ ((s.get! (i + k)).toNat / 64 == 2) = true) → ∃ hk : i + k < s.size, 128 ≤ (s[i + k]'hk).toNat := fun k hk => by
    simp only [decide_eq_true_eq, beq_iff_eq] at hk
    refine ⟨hk.1, ?_⟩
    rw [get_at s _ hk.1] at hk
    omega
  unfold Utf8.decode
  simp only [h0]
  rw [if_neg (by omega)]
  split
  · rename_i hc
    simp only [Bool.and_eq_true] at hc
    obtain ⟨k1, b1⟩ := cont 1 hc.2
    split
    · rename_i hge
      refine ⟨hge, ?_, by omega, by omega, fun j hj h1 h2 => ?_⟩
      · simp [Utf8.valid]; omega
      · rcases (show j = i ∨ j = i + 1 by omega) with rfl | rfl
        · exact hb
        · exact b1
    · exact err
  · split
    · rename_i hc
      simp only [Bool.and_eq_true] at hc
      obtain ⟨k1, b1⟩ := cont 1 hc.1.2
      obtain ⟨k2, b2⟩ := cont 2 hc.2
      split
      · rename_i hge
        simp only [Bool.and_eq_true, decide_eq_true_eq] at hge
        refine ⟨by have := hge.1; dsimp only; omega, hge.2, by omega, by dsimp only; omega, fun j hj h1 h2 => ?_⟩
        dsimp only at h2
        rcases (show j = i ∨ j = i + 1 ∨ j = i + 2 by omega) with rfl | rfl | rfl
        · exact hb
        · exact b1
        · exact b2
      · exact err
    · split
      · rename_i hc
        simp only [Bool.and_eq_true] at hc
        obtain ⟨k1, b1⟩ := cont 1 hc.1.1.2
        obtain ⟨k2, b2⟩ := cont 2 hc.1.2
        obtain ⟨k3, b3⟩ := cont 3 hc.2
        split
        · rename_i hge
          simp only [Bool.and_eq_true, decide_eq_true_eq] at hge
          refine ⟨by have := hge.1; dsimp only; omega, hge.2, by omega, by dsimp only; omega, fun j hj h1 h2 => ?_⟩
          dsimp only at h2
          rcases (show j = i ∨ j = i + 1 ∨ j = i + 2 ∨ j = i + 3 by omega) with rfl | rfl | rfl | rfl
          · exact hb
          · exact b1
          · exact b2
          · exact b3
        · exact err
      · exact err

/-! ### the model's iterator over a string, wherever it lies -/
def stepIter (W : World) (B : Nat) (s : ByteArray) (p : Nat) : World := { W with heap := W.heap.setIfInBounds B (.stringIter s p) }
theorem stepIter_at {W : World} {B : Nat} {s s' : ByteArray} {p p' : Nat} (h : W.heap[B]? = some (.stringIter s p)) : (stepIter W B s' p').heap[B]? = some (.stringIter s' p') := by
  have hlt : B < W.heap.size := (Array.getElem?_eq_some_iff.1 h).1
  simp [stepIter, hlt]
theorem stepIter_keep (W : World) (B : Nat) (s : ByteArray) (p : Nat) : Keep (fun b => b = B) W (stepIter W B s p) :=
  ⟨rfl, rfl, rfl, by simp [stepIter], fun k _ hk => by simp [stepIter, Array.getElem?_setIfInBounds, Ne.symm hk]⟩
theorem run_next_at {W : World} {B : Nat} {s : ByteArray} {pos : Nat} (hW : W.heap[B]? = some (.stringIter s pos)) (h : pos < s.size) (ty : TypeId) :
    (Instr.next (.pointer (some ⟨B, 0, none⟩)) true ty).run Try.prog W = .ok (.tuple #[.bool true, .int .i64 pos, .int .i32 (Utf8.decode s pos).1]) (stepIter W B s (pos + (Utf8.decode s pos).2)) := by
  simp only [Instr.next, getObj, setObj, Sem.run_bind, Sem.run, hW, Result.andThen, h, if_true, stepIter]
  simp [goInt, Sem.run, hW]
theorem run_next_over {W : World} {B : Nat} {s : ByteArray} {pos : Nat} (hW : W.heap[B]? = some (.stringIter s pos)) (h : ¬ pos < s.size) (ty : TypeId) :
    (Instr.next (.pointer (some ⟨B, 0, none⟩)) true ty).run Try.prog W = .ok (.tuple #[.bool false]) W := by
  simp [Instr.next, getObj, Sem.run, hW, h]
end Go.Proofs.Ytcjackjoonijnaa
