/-
  What a row is told of a slice of integers that came in, as these proofs speak of it.
-/
import Derived.Test.YtcjackjoonijnaaBase
namespace Go.Proofs.Ytcjackjoonijnaa
open Go.RowKit

/-- A slice of integers that came in: it is nil, or it leads to a row of cells. -/
def IsRow (k : IntKind) (w : World) (a : Option Addr) (len cap : Nat) (zs : List Int) : Prop :=
  (a = none ∧ len = 0 ∧ cap = 0 ∧ zs = []) ∨
  ∃ x, a = some x ∧ len ≤ cap ∧ cap ≤ maxLen ∧ zs.length = cap ∧ (∀ i, i < zs.length → w.cell? (x.add i) = some (.int k (zs.getD i 0))) ∧ ∀ n ∈ zs, (Lit.int k n).wf = true
theorem IsRow.rd {k : IntKind} {w : World} {a : Option Addr} {len cap : Nat} {zs : List Int} (h : IsRow k w a len cap zs) : Rd w 1 a len (iv k (zs.take len)) := by
  rcases h with ⟨rfl, rfl, rfl, rfl⟩ | ⟨x, rfl, hl, hm, hz, hc, -⟩
  · exact Rd.none_
  · refine ⟨by simp; omega, by simp [maxLen] at hm; omega, fun _ => ⟨x, rfl, fun j u hu => ?_⟩⟩
    simp only [iv, List.getElem?_map, Option.map_eq_some_iff] at hu
    obtain ⟨y, hy, rfl⟩ := hu
    rw [List.getElem?_take] at hy
    split at hy
    · have hj : j < zs.length := by omega
      rw [hc j hj, List.getD_eq_getElem?_getD, hy]
      rfl
    · cases hy
/-- A slice of bools that came in. -/
def IsBools (w : World) (a : Option Addr) (len cap : Nat) (l : List Bool) : Prop := Rd w 1 a len (l.map Value.bool)
theorem IsBools.nil (w : World) : IsBools w none 0 0 [] := Rd.none_
theorem IsBools.of {w : World} {x : Addr} {len cap : Nat} {B : Nat → Bool} (hl : len ≤ cap) (hm : cap ≤ maxLen) (hc : ∀ i, i < cap → w.cell? (x.add i) = some (.bool (B i))) : IsBools w (some x) len cap ((List.range len).map B) := by
  refine ⟨by simp, by simp [maxLen] at hm; omega, fun _ => ⟨x, rfl, fun j u hu => ?_⟩⟩
  simp only [List.map_map, List.getElem?_map, Option.map_eq_some_iff] at hu
  obtain ⟨y, hy, rfl⟩ := hu
  obtain ⟨hj, hy⟩ := List.getElem?_eq_some_iff.1 hy
  simp at hj hy
  subst hy
  exact hc j (by omega)
end Go.Proofs.Ytcjackjoonijnaa
