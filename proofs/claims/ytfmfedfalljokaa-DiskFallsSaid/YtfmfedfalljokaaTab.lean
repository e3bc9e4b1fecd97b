/-
  A table of byte slices that a row has made for itself; a disk, a table and other rows, side by side.
-/
import Derived.Test.YtfmfedfalljokaaDisk8
namespace Go.Proofs.Ytfmfedfalljokaa
open Go.RowKit

/-- A table of n byte slices in block B, all of it among G. -/
structure TabIn (w : World) (G : Nat → Prop) (B n : Nat) (ls : List (List Int)) (vs : List Value) : Prop where
  own : Own w 28 1 (.slice (some ⟨B, 0, none⟩) n n) n vs
  gB : G B
  rows : All2 (ByteIn G w) vs ls
  low : ∀ b, G b → b < w.heap.size
def Tab (w : World) (G : Nat → Prop) (B n : Nat) (ls : List (List Int)) : Prop := ∃ vs, TabIn w G B n ls vs

section tab
variable {w w' : World} {G S : Nat → Prop} {B n : Nat} {ls : List (List Int)}
theorem Tab.keep (h : Tab w G B n ls) (hk : Keep S w w') (hS : ∀ b, G b → ¬ S b) : Tab w' G B n ls := by
  obtain ⟨vs, h⟩ := h
  exact ⟨vs, own_keep h.own hk (fun k e => by simp [Value.ownBlock] at e; subst e; exact hS _ h.gB), h.gB, h.rows.imp fun _ _ _ _ r => r.keep hk hS, fun b hb => Nat.lt_of_lt_of_le (h.low b hb) hk.size⟩
theorem Tab.fresh (h : Tab w G B n ls) (hk : Fresh w w') : Tab w' G B n ls := h.keep hk (fun _ _ f => f)
theorem Tab.low (h : Tab w G B n ls) : ∀ b, G b → b < w.heap.size := by obtain ⟨vs, h⟩ := h; exact h.low
theorem Tab.gB (h : Tab w G B n ls) : G B := by obtain ⟨vs, h⟩ := h; exact h.gB
theorem Tab.len (h : Tab w G B n ls) : ls.length = n := by
  obtain ⟨vs, h⟩ := h
  have h1 := h.own.1
  have h2 := h.rows.1
  omega
theorem Tab.at_ (h : Tab w G B n ls) {k : Nat} (hk : k < n) : ∃ A m c, w.cell? ⟨B, k, none⟩ = some (.slice A m c) ∧ w.frozen? ⟨B, k, none⟩ = false ∧ Rd w 1 A m (iv .u8 (ls.getD k [])) := by
  have hl := h.len
  obtain ⟨vs, h⟩ := h
  obtain ⟨u, y, hu, hy, r⟩ := h.rows.get (i := k) (by omega)
  obtain ⟨A, c, rfl⟩ := r.1.shape
  refine ⟨A, y.length, c, ?_, h.own.frozenAt k, ?_⟩
  · rw [h.own.cellAt k (by have := h.own.1; omega)]
    exact hu
  · rw [List.getD_eq_getElem?_getD, hy]
    obtain ⟨A', n', c', e, -, hr⟩ := r.rdb
    cases e
    exact hr
theorem Tab.rdl (h : Tab w G B n ls) : ∃ vs, Rd w 1 (some ⟨B, 0, none⟩) n vs ∧ RdL w n vs ls := by
  have hl := h.len
  obtain ⟨vs, h⟩ := h
  exact ⟨vs, Rd.of_own h.own, by have := RdL.of_all2 h.rows; rw [hl] at this; exact this⟩
/-- A new row of bytes goes into the table. -/
theorem Tab.put {w1 : World} {u : Value} {m : Nat} {l : List Int} (h : Tab w G B n ls) (hn : NewB w w1 5 .u8 u m l) (k : Nat) :
    Tab (w1.setCell ⟨B, k, none⟩ u) (Grow G w (w1.setCell ⟨B, k, none⟩ u)) B n (ls.set k l) ∧ Keep (fun b => b = B) w (w1.setCell ⟨B, k, none⟩ u) := by
  have h1 := h.fresh hn.2.1
  have hs := hn.2.1.size
  have hsz : (w1.setCell ⟨B, k, none⟩ u).heap.size = w1.heap.size := by simp [World.setCell]
  obtain ⟨vs, h1⟩ := h1
  have kk : Keep (OfType w1 28) w1 (w1.setCell ⟨B, k, none⟩ u) := (Keep.refl _ w1).setCell (p := ⟨B, k, none⟩) (fun _ => own_ofType h1.own rfl) u
  have hb := hn.byteIn
  have hb' : ByteIn (Grow G w (w1.setCell ⟨B, k, none⟩ u)) (w1.setCell ⟨B, k, none⟩ u) u l := by
    have q := hb.ty kk (by decide)
    exact ⟨q.1, fun j hj => .inr ⟨q.2 j hj, own_lt q.1 hj⟩⟩
  refine ⟨⟨vs.set k u, by simpa using (h1.own.stored k u).1, .inl h1.gB, (h1.rows.imp fun _ _ _ _ r => (r.ty kk (by decide)).mono (fun b hb => .inl hb)).set k hb', fun b hb => ?_⟩, ?_⟩
  · rcases hb with hb | hb
    · have := h1.low b hb; omega
    · exact hb.2
  · exact (hn.2.1.any (fun b => b = B)).setCell (p := ⟨B, k, none⟩) (fun _ => rfl) u
/-- A table that has just been made. -/
theorem Tab.made (w : World) (n : Nat) (hn : n ≤ maxLen) : Tab (w.alloc (.cells (madeCells #[.slice none 0 0] n) 28)) (fun b => b = w.heap.size) w.heap.size n (List.replicate n []) := by
  refine ⟨List.replicate n (.slice none 0 0), ?_, rfl, ?_, fun b hb => by subst hb; simp⟩
  · have h := World.ownsRow_lit (size := 1) (base := 0) (e := 28) w (madeCells #[.slice none 0 0] n) n (Nat.zero_le _) hn (by simp [madeCells])
    rw [toList_madeCells_one] at h
    exact h
  · refine ⟨by simp, fun i x y hx hy => ?_⟩
    simp only [List.getElem?_replicate] at hx hy
    split at hx
    · rw [if_pos (by assumption)] at hy
      cases hx; cases hy
      exact ⟨Own.nil _ _ _, In.none⟩
    · cases hx
end tab

/-- Zeros laid into a table's k-th row. -/
theorem lay_zeros {α : Type} (n k : Nat) (a b : α) (hk : k < n) : (List.replicate k a ++ List.replicate (n - k) b).set k a = List.replicate (k + 1) a ++ List.replicate (n - (k + 1)) b := by
  rw [List.set_append_right _ _ (by simp)]
  obtain ⟨m, hm⟩ : ∃ m, n - k = m + 1 := ⟨n - k - 1, by omega⟩
  rw [hm, show n - (k + 1) = m from by omega, List.replicate_succ, List.replicate_succ', List.length_replicate, Nat.sub_self, List.set_cons_zero, List.append_assoc]
  rfl
theorem make_tab (n : Nat) (hn : n ≤ 1000000) (w : World) : (Instr.makeSlice 27 (.int .i64 n) (.int .i64 n)).run Try.prog w = .ok (.slice (some ⟨w.heap.size, 0, none⟩) n n) (w.alloc (.cells (madeCells #[.slice none 0 0] n) 28)) := by
  obtain ⟨i, hi, hz, hs, hb⟩ := info_parts info_bytes
  have := run_make (P := Try.prog) w 27 28 i (.slice none 0 0) Try.underlying27 hi hz .i64 .i64 n n (by omega) (by omega) (by rw [hb]; omega) (by omega)
  rw [hs] at this
  simpa [Value.cells] using this
theorem make_tab5 (w : World) : (Instr.makeSlice 27 (.int .i64 5) (.int .i64 5)).run Try.prog w = .ok (.slice (some ⟨w.heap.size, 0, none⟩) 5 5) (w.alloc (.cells (madeCells #[.slice none 0 0] 5) 28)) := make_tab 5 (by omega) w
/-- Zeros that have just been made. -/
theorem newB_zeros (w : World) : NewB w (w.alloc (.cells (madeCells #[.int .u8 0] 128) 5)) 5 .u8 (.slice (some ⟨w.heap.size, 0, none⟩) 128 128) 128 (zeros 128) :=
  ⟨made_u8 w 128 (by simp [maxLen]), (Keep.refl _ _).alloc _, freshV_new _ _ _ _ _⟩

/-! ### a disk, and a row's own table beside it -/
structure Duo (w0 w : World) (F G : Nat → Prop) (g : Nat) (d : DiskS) (B n : Nat) (ls : List (List Int)) : Prop where
  ses : Ses w0 w F g d
  tab : Tab w G B n ls
  apart : ∀ b, F b → ¬ G b
  newG : ∀ b, G b → w0.heap.size ≤ b
section duo
variable {w0 w w' : World} {F G : Nat → Prop} {g B n : Nat} {d d' : DiskS} {ls : List (List Int)}
theorem Duo.op (h : Duo w0 w F G g d B n ls) (ha : DiskAt (Grow F w w') w' g d') (hk : Keep F w w') : Duo w0 w' (Grow F w w') G g d' B n ls :=
  ⟨h.ses.op ha hk, h.tab.keep hk (fun b hG hF => h.apart b hF hG), fun b hb hG => hb.elim (fun hb => h.apart b hb hG) (fun hb => by have := h.tab.low b hG; omega), h.newG⟩
theorem Duo.same (h : Duo w0 w F G g d B n ls) (ha : DiskAt F w' g d') (hk : Keep F w w') : Duo w0 w' F G g d' B n ls :=
  ⟨h.ses.same ha hk, h.tab.keep hk (fun b hG hF => h.apart b hF hG), h.apart, h.newG⟩
theorem Duo.fresh (h : Duo w0 w F G g d B n ls) (hk : Fresh w w') : Duo w0 w' F G g d B n ls := ⟨h.ses.fresh hk, h.tab.fresh hk, h.apart, h.newG⟩
theorem Duo.put {w1 : World} {u : Value} {m : Nat} {l : List Int} (h : Duo w0 w F G g d B n ls) (hn : NewB w w1 5 .u8 u m l) (k : Nat) :
    Duo w0 (w1.setCell ⟨B, k, none⟩ u) F (Grow G w (w1.setCell ⟨B, k, none⟩ u)) g d B n (ls.set k l) ∧ Keep G w (w1.setCell ⟨B, k, none⟩ u) := by
  obtain ⟨t, hk⟩ := h.tab.put hn k
  have hG : Keep G w (w1.setCell ⟨B, k, none⟩ u) := hk.mono fun b _ hb => by subst hb; exact h.tab.gB
  refine ⟨⟨⟨h.ses.at_.keep hG (fun b hF hG => h.apart b hF hG), h.ses.new, h.ses.kept.trans hG (fun b hb hg => by have := h.newG b hg; omega)⟩, t, fun b hF hb => hb.elim (h.apart b hF) (fun hb => by have := h.ses.at_.low b hF; omega), fun b hb => hb.elim (h.newG b) (fun hb => Nat.le_trans h.ses.kept.size hb.1)⟩, hG⟩
/-- A row beside both. -/
def Beside (w0 : World) (F G : Nat → Prop) (v : Value) : Prop := ∀ k, v.ownBlock = some k → ¬ F k ∧ ¬ G k ∧ w0.heap.size ≤ k
theorem Beside.none {n c : Nat} : Beside w0 F G (.slice none n c) := fun k hk => by simp [Value.ownBlock] at hk
theorem Beside.growF {v : Value} (h : Beside w0 F G v) (hl : ∀ k, v.ownBlock = some k → k < w.heap.size) : Beside w0 (Grow F w w') G v :=
  fun k hk => ⟨fun hf => hf.elim (h k hk).1 (fun hf => by have := hl k hk; omega), (h k hk).2⟩
theorem Beside.growG {v : Value} (h : Beside w0 F G v) (hl : ∀ k, v.ownBlock = some k → k < w.heap.size) : Beside w0 F (Grow G w w') v :=
  fun k hk => ⟨(h k hk).1, fun hf => hf.elim (h k hk).2.1 (fun hf => by have := hl k hk; omega), (h k hk).2.2⟩
/-- The row beside has been appended to. -/
theorem Duo.row {v v1 : Value} {o : Obj} (h : Duo w0 w F G g d B n ls) (hb : Beside w0 F G v) (hg : (w.alloc o).grownBy w' v.ownBlock) (h1 : v1.ownBlock = v.ownBlock ∨ v1.ownBlock = some (w.alloc o).heap.size) :
    Duo w0 w' F G g d B n ls ∧ Beside w0 F G v1 := by
  have hk : Keep (fun b => v.ownBlock = some b) w w' := ((Keep.refl _ w).alloc o).grown hg (fun k e _ => e)
  refine ⟨⟨⟨h.ses.at_.keep hk (fun b hF e => (hb b e).1 hF), h.ses.new, h.ses.kept.trans hk (fun b hl e => by have := (hb b e).2.2; omega)⟩, h.tab.keep hk (fun b hG e => (hb b e).2.1 hG), h.apart, h.newG⟩, fun k e => ?_⟩
  rcases h1 with h1 | h1
  · exact hb k (h1 ▸ e)
  · rw [h1] at e
    simp at e
    subst e
    have := h.ses.kept.size
    exact ⟨fun hF => by have := h.ses.at_.low _ hF; omega, fun hG => by have := h.tab.low _ hG; omega, by omega⟩
end duo
end Go.Proofs.Ytfmfedfalljokaa
