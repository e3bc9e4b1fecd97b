/-
  Variables of several cells, known whole: loaded, stored, handed back. Plain lemmas.
-/
import Derived.Deep.MidRow
import Derived.Laws.ResultCell
import Derived.Test.YtcjackjoonijnaaBase
namespace Go.Proofs.Ytcjackjoonijnaa
open Go.RowKit

section
variable {P : Program} {w w' : World} {S : Nat → Prop} {g : Nat} {t : TypeId} {cs : Array Value}
theorem Blk.there (h : Blk w g t cs) (o n : Nat) (hn : o + n ≤ cs.size) : w.there g o n := fun j hj => by
  have hlt : o + j < cs.size := by omega
  refine ⟨?_, h.frozen (o + j)⟩
  rw [h.cell, Array.getElem?_eq_getElem hlt]
  rfl
theorem Blk.range (h : Blk w g t cs) : w.rangeAt g 0 cs.toList := fun j v hj => by
  rw [Nat.zero_add, h.cell, ← Array.getElem?_toList]
  exact hj
theorem Keep.setCells (h : Keep S w w') (hg : g < w.heap.size → S g) : ∀ (vs : List Value) (o : Nat), Keep S w (w'.setCells g o vs) := by
  intro vs
  induction vs generalizing w' with
  | nil => intro o; exact h
  | cons v r ih => intro o; exact ih (h.setCell hg v) (o + 1)
/-- Cells laid from o on. -/
def layC (cs : Array Value) : Nat → List Value → Array Value
  | _, [] => cs
  | o, v :: r => layC (cs.setIfInBounds o v) (o + 1) r
theorem Blk.setCells : ∀ (vs : List Value) (o : Nat) {w : World} {cs : Array Value}, Blk w g t cs → Blk (w.setCells g o vs) g t (layC cs o vs)
  | [], _, _, _, h => h
  | v :: r, o, _, _, h => Blk.setCells r (o + 1) (h.set_ o v)
/-- A store onto a variable known whole: the world behind it is a letter. -/
theorem wpList_store_blk {ops : Array Oper} {rest : List Oper} {op : Oper} {a : Act} {Q : Exit → Act → World → Prop} (hb : Blk w g t cs) (hgd : op.guard = none) (ty : TypeId) (x y : Operand) (ho : op.op = .store ty x y)
    (o : Nat) (cells : Array Value) (hx : a.eval x = .pointer (some ⟨g, o, none⟩)) (hy : a.eval y = .agg cells) (hn : o + cells.size ≤ cs.size) (hi : (P.info? ty).map (·.size) = some cells.size) (h1 : cells.all (·.oneCell') = true)
    (h : ∀ w', Hid (Blk w' g t (layC cs o cells.toList)) → Keep (fun b => b = g) w w' → wpList P ops Q rest (a.put op.dst undef) w') : wpList P ops Q (op :: rest) a w :=
  wpList_store_mid hgd ty x y ho g o cells hx hy (hb.there o _ hn) hi h1 (h _ (Blk.setCells _ _ hb) ((Keep.refl (fun b => b = g) w).setCells (fun _ => rfl) _ _))
theorem wp_store_blk {op : Oper} {a : Act} {K : Act → World → Prop} {Q : Exit → Act → World → Prop} (hb : Blk w g t cs) (ty : TypeId) (x y : Operand) (ho : op.op = .store ty x y)
    (o : Nat) (cells : Array Value) (hx : a.eval x = .pointer (some ⟨g, o, none⟩)) (hy : a.eval y = .agg cells) (hn : o + cells.size ≤ cs.size) (hi : (P.info? ty).map (·.size) = some cells.size) (h1 : cells.all (·.oneCell') = true)
    (h : ∀ w', Hid (Blk w' g t (layC cs o cells.toList)) → Keep (fun b => b = g) w w' → K (a.put op.dst undef) w') : op.wp P a w K Q :=
  wp_store_mid ty x y ho g o cells hx hy (hb.there o _ hn) hi h1 (h _ (Blk.setCells _ _ hb) ((Keep.refl (fun b => b = g) w).setCells (fun _ => rfl) _ _))
/-- A variable known whole is loaded. -/
theorem wpList_load_blk {ops : Array Oper} {rest : List Oper} {op : Oper} {a : Act} {Q : Exit → Act → World → Prop} (hb : Blk w g t cs) (hgd : op.guard = none) (ty : TypeId) (x : Operand) (ho : op.op = .load ty x)
    (hx : a.eval x = .pointer (some ⟨g, 0, none⟩)) {d : TypeDesc} (hu : P.underlying ty = some d) (hd : d.isRow = true) (hi : (P.info? ty).map (·.size) = some cs.size)
    (h : wpList P ops Q rest (a.put op.dst (.agg cs)) w) : wpList P ops Q (op :: rest) a w :=
  wpList_load_mid hgd ty x ho g 0 hx cs.toList d hb.range hu hd (by simpa using hi) (by simpa using h)
/-- The result that lies in a variable known whole, and another beside it. -/
theorem ret_cell {fn : Func} {R : Ending → World → Prop} {a : Act} {p u : Tmp} {ty : TypeId} (hb : Blk w g t cs) (hres : fn.results = #[.cell p ty, .tmp u]) (hdf : a.defers = []) {d : TypeDesc} {v : Value}
    (hp : a.tmps.getD p undef = .pointer (some ⟨g, 0, none⟩)) (hv : a.tmps.getD u undef = v) (hu : P.underlying ty = some d) (hd : d.isRow = true) (hi : (P.info? ty).map (·.size) = some cs.size)
    (h : R (.returned (.tuple #[.agg cs, v])) w) : bodyPost P fn R .ret a w := by
  refine bodyPost_ret (v := .tuple #[.agg cs, v]) ?_ hdf h
  have hl := run_loadVar_mid (P := P) w g 0 ty cs.toList d hb.range hu hd (by simpa using hi)
  rw [results_cell_tmp hres, hp, hv]
  simp only [asAddr, Sem.run_pure, Result.andThen_ok, hl]
end
end Go.Proofs.Ytcjackjoonijnaa
