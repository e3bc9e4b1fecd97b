/-
  Four slots that came in by value, opened.
-/
import Derived.OpenShut
import Derived.ShutString
import Derived.WideWitness
import Derived.Test.YtcjackjoonijnaaDir1
import Derived.Test.YtcjackjoonijnaaSeal3
import Derived.Test.YtcjackjoonijnaaOpen
namespace Go.Proofs.Ytcjackjoonijnaa
open Go.ChangeShapes Go.WideShapes Go.RowKit

theorem IsRow.le {k : IntKind} {w : World} {a : Option Addr} {len cap : Nat} {zs : List Int} (h : IsRow k w a len cap zs) : len ≤ cap := by
  rcases h with ⟨-, h1, h2, -⟩ | ⟨x, -, hl, -⟩
  · omega
  · exact hl
theorem IsRow.bytes {w : World} {a : Option Addr} {len cap : Nat} {zs : List Int} (h : IsRow .u8 w a len cap zs) : Bytes8 (zs.take len) := by
  intro x hx
  have hx' := List.mem_of_mem_take hx
  rcases h with ⟨-, -, -, rfl⟩ | ⟨_, -, -, -, -, -, hw⟩
  · cases hx'
  · have := hw x hx'
    simp [Lit.wf, IntKind.min, IntKind.max, IntKind.bits, IntKind.signed] at this
    omega
theorem okWide_array {P : Program} {w : World} {r : Reach} {base : Nat} {t e : TypeId} {v : Value} {n : Nat} (ht : P.underlying t = some (.array n e)) (h : Value.okWide P w r base t v) : ∃ cs, v = .agg cs ∧ cs.size = P.cellsOf t := by
  simp only [Value.okWide, ht] at h
  obtain ⟨cs, h1, h2, _⟩ := h
  exact ⟨cs, h1, h2⟩
theorem slot_open {H : Type} {enc : TypeId × Value → H} {W : World} {base : Nat} {spare : Nat → Bool} {held : Bool} {n : Nat} {a b c : Value} {x : DataW H × List MemPlace} (h : DataW.trod enc Try.prog W base spare held n 39 [a, b, c] = some x) :
    ∃ s : Slt, a = .int .i64 s.ino ∧ b = .int .i64 s.kind ∧ c = .string s.name := by
  obtain ⟨xs, m, rfl, hx, hl, hn, hf⟩ := DataW.trod_struct Try.underlying39 h
  have e0 := hf 0 _ rfl
  have e1 := hf 1 _ rfl
  have e2 := hf 2 _ rfl
  obtain ⟨y0, h0⟩ : ∃ y, xs[0]? = some y := ⟨_, List.getElem?_eq_getElem (by rw [hn]; decide)⟩
  obtain ⟨y1, h1⟩ : ∃ y, xs[1]? = some y := ⟨_, List.getElem?_eq_getElem (by rw [hn]; decide)⟩
  obtain ⟨y2, h2⟩ : ∃ y, xs[2]? = some y := ⟨_, List.getElem?_eq_getElem (by rw [hn]; decide)⟩
  have t0 : DataW.trod enc Try.prog W base spare held m 3 [a] = some y0 := e0.trans h0
  have t1 : DataW.trod enc Try.prog W base spare held m 3 [b] = some y1 := e1.trans h1
  have t2 : DataW.trod enc Try.prog W base spare held m 9 [c] = some y2 := e2.trans h2
  obtain ⟨i, g0, -⟩ := DataW.trod_int Try.underlying3 t0
  obtain ⟨k, g1, -⟩ := DataW.trod_int Try.underlying3 t1
  obtain ⟨s, g2, -⟩ := DataW.trod_string Try.underlying9 t2
  simp only [List.cons.injEq, and_true] at g0 g1 g2
  exact ⟨⟨i, k, s⟩, g0, g1, g2⟩
theorem slots_open {H : Type} {enc : TypeId × Value → H} {W : World} {r : Reach} {b0 base : Nat} {spare : Nat → Bool} {held : Bool} {v : Value} {d : DataW H} {p : List MemPlace} (hv : Value.okWide Try.prog W r b0 40 v) (h : DataW.Trod enc Try.prog W base spare held 40 v d p) :
    ∃ a b c d : Slt, v = sltsV a b c d := by
  obtain ⟨cs, rfl, hsz⟩ := okWide_array Try.underlying40 hv
  have hsz12 : cs.size = 12 := hsz.trans (by kernel_rfl)
  obtain ⟨l⟩ := cs
  match l, hsz12 with
  | [c0, c1, c2, c3, c4, c5, c6, c7, c8, c9, c10, c11], _ =>
    obtain ⟨fuel, hf⟩ := h
    obtain ⟨xs, m, rfl, hx, hl, hn, hg⟩ := DataW.trod_array Try.underlying40 hf
    have hc : Try.prog.cellsOf 39 = 3 := by kernel_rfl
    have e0 := hg 0 (by decide)
    have e1 := hg 1 (by decide)
    have e2 := hg 2 (by decide)
    have e3 := hg 3 (by decide)
    rw [hc] at e0 e1 e2 e3
    obtain ⟨y0, h0⟩ : ∃ y, xs[0]? = some y := ⟨_, List.getElem?_eq_getElem (by omega)⟩
    obtain ⟨y1, h1⟩ : ∃ y, xs[1]? = some y := ⟨_, List.getElem?_eq_getElem (by omega)⟩
    obtain ⟨y2, h2⟩ : ∃ y, xs[2]? = some y := ⟨_, List.getElem?_eq_getElem (by omega)⟩
    obtain ⟨y3, h3⟩ : ∃ y, xs[3]? = some y := ⟨_, List.getElem?_eq_getElem (by omega)⟩
    have t0 : DataW.trod enc Try.prog W base spare held m 39 [c0, c1, c2] = some y0 := e0.trans h0
    have t1 : DataW.trod enc Try.prog W base spare held m 39 [c3, c4, c5] = some y1 := e1.trans h1
    have t2 : DataW.trod enc Try.prog W base spare held m 39 [c6, c7, c8] = some y2 := e2.trans h2
    have t3 : DataW.trod enc Try.prog W base spare held m 39 [c9, c10, c11] = some y3 := e3.trans h3
    obtain ⟨s0, rfl, rfl, rfl⟩ := slot_open t0
    obtain ⟨s1, rfl, rfl, rfl⟩ := slot_open t1
    obtain ⟨s2, rfl, rfl, rfl⟩ := slot_open t2
    obtain ⟨s3, rfl, rfl, rfl⟩ := slot_open t3
    exact ⟨s0, s1, s2, s3, rfl⟩
end Go.Proofs.Ytcjackjoonijnaa
