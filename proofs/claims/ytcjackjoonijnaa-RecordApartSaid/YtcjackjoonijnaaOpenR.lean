/-
  A record that came in by value, opened.
-/
import Derived.OpenShut
import Derived.ShutString
import Derived.WideWitness
import Derived.Test.YtcjackjoonijnaaOpenD
import Derived.Test.YtcjackjoonijnaaRec1
namespace Go.Proofs.Ytcjackjoonijnaa
open Go.ChangeShapes Go.WideShapes Go.RowKit

theorem okWide_struct {P : Program} {w : World} {r : Reach} {base : Nat} {t : TypeId} {v : Value} {fs : Array Field} (ht : P.underlying t = some (.struct fs)) (h : Value.okWide P w r base t v) : ∃ cs, v = .agg cs ∧ cs.size = P.cellsOf t := by
  simp only [Value.okWide, ht] at h
  obtain ⟨cs, h1, h2, _⟩ := h
  exact ⟨cs, h1, h2⟩
theorem rec_open {H : Type} {enc : TypeId × Value → H} {W : World} {r : Reach} {b0 base : Nat} {spare : Nat → Bool} {held : Bool} {v : Value} {dd : DataW H} {p : List MemPlace} (hv : Value.okWide Try.prog W r b0 23 v) (h : DataW.Trod enc Try.prog W base spare held 23 v dd p) :
    ∃ r : Rcd, v = r.val := by
  obtain ⟨cs, rfl, hsz⟩ := okWide_struct Try.underlying23 hv
  have hsz7 : cs.size = 7 := hsz.trans (by kernel_rfl)
  obtain ⟨l⟩ := cs
  match l, hsz7 with
  | [a, b, c, d, e, f, g], _ =>
    obtain ⟨fuel, hF⟩ := h
    obtain ⟨xs, m, rfl, hx, hl, hn, hf⟩ := DataW.trod_struct Try.underlying23 hF
    have e0 := hf 0 _ rfl
    have e1 := hf 1 _ rfl
    have e2 := hf 2 _ rfl
    have e3 := hf 3 _ rfl
    have e4 := hf 4 _ rfl
    have e5 := hf 5 _ rfl
    have e6 := hf 6 _ rfl
    obtain ⟨y0, h0⟩ : ∃ y, xs[0]? = some y := ⟨_, List.getElem?_eq_getElem (by rw [hn]; decide)⟩
    obtain ⟨y1, h1⟩ : ∃ y, xs[1]? = some y := ⟨_, List.getElem?_eq_getElem (by rw [hn]; decide)⟩
    obtain ⟨y2, h2⟩ : ∃ y, xs[2]? = some y := ⟨_, List.getElem?_eq_getElem (by rw [hn]; decide)⟩
    obtain ⟨y3, h3⟩ : ∃ y, xs[3]? = some y := ⟨_, List.getElem?_eq_getElem (by rw [hn]; decide)⟩
    obtain ⟨y4, h4⟩ : ∃ y, xs[4]? = some y := ⟨_, List.getElem?_eq_getElem (by rw [hn]; decide)⟩
    obtain ⟨y5, h5⟩ : ∃ y, xs[5]? = some y := ⟨_, List.getElem?_eq_getElem (by rw [hn]; decide)⟩
    obtain ⟨y6, h6⟩ : ∃ y, xs[6]? = some y := ⟨_, List.getElem?_eq_getElem (by rw [hn]; decide)⟩
    have t0 : DataW.trod enc Try.prog W base spare held m 4 [a] = some y0 := e0.trans h0
    have t1 : DataW.trod enc Try.prog W base spare held m 3 [b] = some y1 := e1.trans h1
    have t2 : DataW.trod enc Try.prog W base spare held m 3 [c] = some y2 := e2.trans h2
    have t3 : DataW.trod enc Try.prog W base spare held m 3 [d] = some y3 := e3.trans h3
    have t4 : DataW.trod enc Try.prog W base spare held m 3 [e] = some y4 := e4.trans h4
    have t5 : DataW.trod enc Try.prog W base spare held m 9 [f] = some y5 := e5.trans h5
    have t6 : DataW.trod enc Try.prog W base spare held m 9 [g] = some y6 := e6.trans h6
    obtain ⟨on, g0, -⟩ := DataW.trod_bool Try.underlying4 t0
    obtain ⟨fr, g1, -⟩ := DataW.trod_int Try.underlying3 t1
    obtain ⟨td, g2, -⟩ := DataW.trod_int Try.underlying3 t2
    obtain ⟨ino, g3, -⟩ := DataW.trod_int Try.underlying3 t3
    obtain ⟨old, g4, -⟩ := DataW.trod_int Try.underlying3 t4
    obtain ⟨fn, g5, -⟩ := DataW.trod_string Try.underlying9 t5
    obtain ⟨tn, g6, -⟩ := DataW.trod_string Try.underlying9 t6
    simp only [List.cons.injEq, and_true] at g0 g1 g2 g3 g4 g5 g6
    subst g0 g1 g2 g3 g4 g5 g6
    exact ⟨⟨on, fr, td, ino, old, fn, tn⟩, rfl⟩
end Go.Proofs.Ytcjackjoonijnaa
