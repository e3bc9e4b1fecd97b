/-
  What a row is told of slices of byte slices that came in.
-/
import Derived.Test.YtfmfedfalljokaaLeaf
import Derived.Test.YtfmfedfalljokaaOpen
namespace Go.Proofs.Ytfmfedfalljokaa
open Go.RowKit

/-- A slice of byte slices that came in. -/
def IsParts (w : World) (a : Option Addr) (len : Nat) (vs : List Value) (ls : List (List Int)) : Prop := Rd w 1 a len vs ∧ RdL w len vs ls
theorem IsParts.nil (w : World) : IsParts w none 0 [] [] := ⟨Rd.none_, rfl, rfl, fun i hi => by omega⟩
theorem IsParts.of {w : World} {x : Addr} {len cap : Nat} {A : Nat → Option Addr} {L C : Nat → Nat} {Z : Nat → List Int} (hl : len ≤ cap) (hm : cap ≤ maxLen) (hc : ∀ r, r < cap → w.cell? (x.add r) = some (.slice (A r) (L r) (C r)))
    (h1 : ∀ r, r < cap → L r ≤ C r) (h2 : ∀ r, r < cap → C r ≤ maxLen) (h3 : ∀ r, r < cap → (Z r).length = C r) (h4 : ∀ r, r < cap → A r = none → C r = 0) (h5 : ∀ r, r < cap → ∀ a', A r = some a' → ∀ c, c < C r → w.cell? (a'.add c) = some (.int .u8 ((Z r).getD c 0))) :
    IsParts w (some x) len ((List.range len).map fun r => .slice (A r) (L r) (C r)) ((List.range len).map fun r => (Z r).take (L r)) := by
  refine ⟨⟨by simp, by simp [maxLen] at hm; omega, fun _ => ⟨x, rfl, fun j u hu => ?_⟩⟩, by simp, by simp, fun i hi => ?_⟩
  · simp only [List.getElem?_map, Option.map_eq_some_iff] at hu
    obtain ⟨y, hy, rfl⟩ := hu
    obtain ⟨hj, hy⟩ := List.getElem?_eq_some_iff.1 hy
    simp at hj hy
    subst hy
    exact hc j (by omega)
  · have hi' : i < cap := by omega
    simp only [List.getD_eq_getElem?_getD, List.getElem?_map, List.getElem?_range hi, Option.map_some, Option.getD_some]
    refine ⟨A i, L i, C i, rfl, h1 i hi', ?_, ?_, fun hn => ?_⟩
    · have := h1 i hi'; have := h3 i hi'; simp; omega
    · have := h1 i hi'; have := h2 i hi'; simp [maxLen] at this; omega
    · rcases ha : A i with _ | a'
      · have := h4 i hi' ha; have := h1 i hi'; omega
      · refine ⟨a', rfl, fun j u hu => ?_⟩
        simp only [iv, List.getElem?_map, Option.map_eq_some_iff] at hu
        obtain ⟨y, hy, rfl⟩ := hu
        rw [List.getElem?_take] at hy
        split at hy
        · have := h1 i hi'
          rw [h5 i hi' a' ha j (by omega), List.getD_eq_getElem?_getD, hy]
          rfl
        · cases hy
end Go.Proofs.Ytfmfedfalljokaa
