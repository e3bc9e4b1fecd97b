/-
  Acts of a disk that came in, opened.
-/
import Derived.Test.YtfmfedfalljokaaOpenS
import Derived.Test.YtfmfedfalljokaaScript1
namespace Go.Proofs.Ytfmfedfalljokaa
open Go.ChangeShapes Go.WideShapes Go.Deep Go.RowKit

theorem wf_i64 {n : Int} (h : (Lit.int .i64 n).wf = true) : -9223372036854775808 ≤ n ∧ n ≤ 9223372036854775807 := by
  simp [Lit.wf, IntKind.min, IntKind.max, IntKind.bits, IntKind.signed] at h
  omega
instance : Inhabited ActS := ⟨⟨0, 0, 0, false, none, 0, 0, []⟩⟩
theorem bools_rd {H : Type} {enc : TypeId × Value → H} {W : World} {n : Nat} {v : Value} {y : DataW H × List MemPlace} (h : DataW.trod enc Try.prog W 0 (fun _ => true) true n 29 [v] = some y) :
    ∃ (A : Option Addr) (len cap : Nat) (l : List Bool), v = .slice A len cap ∧ Rd W 1 A len (bv l) := by
  rcases Go.Deep.open_bools Try.underlying29 Try.underlying4 (by kernel_rfl) h with ⟨hcs, _⟩ | ⟨x, l, c, B, hcs, _, hl, hm, _, hcell⟩
  · simp at hcs
    exact ⟨none, 0, 0, [], hcs, Rd.none_⟩
  · simp at hcs
    exact ⟨_, l, c, _, hcs, IsBools.of hl hm hcell⟩
theorem IsActs.open_ {H : Type} {enc : TypeId × Value → H} {W : World} {a : Option Addr} {len cap : Nat} {d : DataW H} {p : List MemPlace} (h : DataW.Trod enc Try.prog W 0 (fun _ => true) true 48 (.slice a len cap) d p) : ∃ l, IsActs W a len l := by
  obtain ⟨fuel, hf⟩ := h
  rcases open_fields Try.underlying48 Try.underlying52 (by kernel_rfl) (by kernel_rfl) hf with hcs | ⟨x, l, c, m, hcs, hl, hm, hmm, hx⟩
  · simp [Value.cells] at hcs
    obtain ⟨rfl, rfl, rfl⟩ := hcs
    exact ⟨[], rfl, by omega, fun h => by omega, fun x hx => by cases hx⟩
  · simp [Value.cells] at hcs
    obtain ⟨rfl, rfl, rfl⟩ := hcs
    simp only [if_true] at hmm
    subst hmm
    have each : ∀ i, i < len → ∃ y : ActS, y.Ok W ∧ ∀ (j : Nat) (u : Value), y.cells[j]? = some u → W.cell? (x.add (i * 5 + j)) = some u := by
      intro i hi
      have hx := hx i (by omega)
      obtain ⟨v0, y0, n0, c0, t0⟩ := hx 0 _ rfl
      obtain ⟨v1, y1, n1, c1, t1⟩ := hx 1 _ rfl
      obtain ⟨v2, y2, n2, c2, t2⟩ := hx 2 _ rfl
      obtain ⟨v3, y3, n3, c3, t3⟩ := hx 3 _ rfl
      obtain ⟨v4, y4, n4, c4, t4⟩ := hx 4 _ rfl
      obtain ⟨b0, e0, -, g0⟩ := DataW.trod_int Try.underlying3 t0
      obtain ⟨b1, e1, -, g1⟩ := DataW.trod_int Try.underlying3 t1
      obtain ⟨b2, e2, -, g2⟩ := DataW.trod_int Try.underlying3 t2
      obtain ⟨b3, e3, -⟩ := DataW.trod_bool Try.underlying4 t3
      obtain ⟨A4, k4, m4, l4, rfl, r4⟩ := bools_rd t4
      simp at e0 e1 e2 e3
      subst e0; subst e1; subst e2; subst e3
      refine ⟨⟨b0, b1, b2, b3, A4, k4, m4, l4⟩, ⟨r4, (wf_i64 g2).2⟩, fun j u hu => ?_⟩
      rcases j with _ | _ | _ | _ | _ | j
      · simp [ActS.cells] at hu; subst hu; exact c0
      · simp [ActS.cells] at hu; subst hu; exact c1
      · simp [ActS.cells] at hu; subst hu; exact c2
      · simp [ActS.cells] at hu; subst hu; exact c3
      · simp [ActS.cells] at hu; subst hu; exact c4
      · simp [ActS.cells] at hu
    obtain ⟨f, hf⟩ := choose_lt each
    refine ⟨(List.range len).map f, by simp, by simp [maxLen] at hm; omega, fun _ => ⟨x, rfl, fun i y hy j u hu => ?_⟩, fun y hy => ?_⟩
    · simp only [List.getElem?_map, Option.map_eq_some_iff] at hy
      obtain ⟨i', hi', rfl⟩ := hy
      obtain ⟨hi, hi'⟩ := List.getElem?_eq_some_iff.1 hi'
      simp at hi hi'
      subst hi'
      exact (hf i hi).2 j u hu
    · simp only [List.mem_map, List.mem_range] at hy
      obtain ⟨i, hi, rfl⟩ := hy
      exact (hf i hi).1
end Go.Proofs.Ytfmfedfalljokaa
