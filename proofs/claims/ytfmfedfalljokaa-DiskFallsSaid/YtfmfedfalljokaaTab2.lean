/-
  Two tables of byte slices that share their rows; one copied over the other; a disk beside both.
-/
import Derived.Laws.CopyOwn
import Derived.Test.YtfmfedfalljokaaTab
namespace Go.Proofs.Ytfmfedfalljokaa
open Go.RowKit

section
variable {w w' : World} {G S : Nat → Prop} {B B1 B2 n : Nat} {ls ls1 ls2 : List (List Int)}
theorem Tab.mono {H : Nat → Prop} (h : Tab w G B n ls) (hk : ∀ b, G b → H b) (hl : ∀ b, H b → b < w.heap.size) : Tab w H B n ls := by
  obtain ⟨vs, h⟩ := h
  exact ⟨vs, h.own, hk _ h.gB, h.rows.imp fun _ _ _ _ r => r.mono hk, hl⟩
/-- Another table has been written. -/
theorem Tab.other (h : Tab w G B n ls) (hne : B ≠ B1) (ht : OfType w 28 B1) (hk : Keep (fun b => b = B1) w w') : Tab w' G B n ls := by
  obtain ⟨vs, h⟩ := h
  have kk : Keep (OfType w 28) w w' := hk.mono fun b _ e => by subst e; exact ht
  exact ⟨vs, own_keep h.own hk (fun k e => by simp [Value.ownBlock] at e; subst e; exact hne), h.gB, h.rows.imp fun _ _ _ _ r => r.ty kk (by decide), fun b hb => Nat.lt_of_lt_of_le (h.low b hb) hk.size⟩
theorem Tab.ofType (h : Tab w G B n ls) : OfType w 28 B := by
  obtain ⟨vs, h⟩ := h
  exact own_ofType h.own rfl
theorem Tab.whole {vs : List Value} (h : Own w 28 1 (.slice (some ⟨B, 0, none⟩) n n) n vs) : w.heap[B]? = some (.cells vs.toArray 28 (0, 0)) ∧ n ≤ maxLen := by
  rcases h.2 with ⟨e, _⟩ | ⟨g, cap, cur, e, _, hg, h1, h2, h3, h4⟩
  · cases e
  · cases e
    refine ⟨?_, h2⟩
    rw [hg, ← h4, List.take_of_length_le (by simp; omega)]
theorem copy_tab {ops : Array Oper} {rest : List Oper} {o : Oper} {a : Act} {Q : Exit → Act → World → Prop} (hgd : o.guard = none) (d s : Operand)
    (ho : o.op = .call { callee := .builtin .copy, args := #[d, s], argTypes := #[27, 27] })
    (hd : a.eval d = .slice (some ⟨B1, 0, none⟩) n n) (hs : a.eval s = .slice (some ⟨B2, 0, none⟩) n n) (hne : B1 ≠ B2) (h1 : Tab w G B1 n ls1) (h2 : Tab w G B2 n ls2)
    (h : ∀ w', Tab w' G B1 n ls2 → Tab w' G B2 n ls2 → Keep (fun b => b = B1) w w' → wpList Try.prog ops Q rest (a.put o.dst (goInt n)) w') : wpList Try.prog ops Q (o :: rest) a w := by
  have ht1 := h1.ofType
  obtain ⟨vs1, q1⟩ := h1
  have q2 := h2
  obtain ⟨vs2, q2⟩ := q2
  obtain ⟨hb1, hm⟩ := Tab.whole q1.own
  have l1 : vs1.length = n := by have := q1.own.1; omega
  have l2 : vs2.length = n := by have := q2.own.1; omega
  have hsz : (Try.prog.info? 28).map (·.size) = some 1 := by kernel_rfl
  refine wpList_copy_own hgd d s 27 27 ho 28 Try.underlying27 hsz B1 0 n n ⟨B2, 0, none⟩ n n hd hs vs1.toArray 28 hb1 vs2 (by simp [l2]) ?_ (by simp [l1, l2]) ?_ ?_
  · intro j v hv
    rw [add_plain, Nat.zero_add, q2.own.cellAt j (by have := (List.getElem?_eq_some_iff.1 hv).1; omega)]
    exact hv
  · intro v hv
    obtain ⟨i, hi, rfl⟩ := List.mem_iff_getElem.1 hv
    have hi2 : i < ls2.length := by rw [← q2.rows.1]; exact hi
    have r := q2.rows.2 i _ _ (List.getElem?_eq_getElem hi) (List.getElem?_eq_getElem hi2)
    obtain ⟨A, c, e⟩ := r.1.shape
    rw [e]
    simp [Value.oneCell']
  · have e : (vs1.toArray.toList.take 0 ++ (vs2 ++ vs1.toArray.toList.drop (0 + vs2.length))).toArray = vs2.toArray := by
      rw [List.take_zero, List.nil_append, Nat.zero_add, List.drop_eq_nil_of_le (by simp; omega), List.append_nil]
    rw [e, l2]
    have kB : Keep (fun b => b = B1) w (w.setRow B1 vs2.toArray) := ⟨rfl, rfl, rfl, by simp [World.setRow], fun k _ hn => setRow_other w B1 k _ hn⟩
    have kk : Keep (OfType w 28) w (w.setRow B1 vs2.toArray) := kB.mono fun b _ e => by subst e; exact ht1
    refine h _ ⟨vs2, ?_, q1.gB, q2.rows.imp fun _ _ _ _ r => r.ty kk (by decide), fun b hb => Nat.lt_of_lt_of_le (q1.low b hb) kB.size⟩ (h2.other (Ne.symm hne) ht1 kB) kB
    exact ⟨by simp [l2], .inr ⟨B1, n, vs2.toArray, rfl, Nat.zero_le _, setRow_heap w B1 _ _ _ _ hb1, Nat.le_refl _, hm, by simp [l2], by simpa using List.take_of_length_le (Nat.le_of_eq l2)⟩⟩
end

/-! ### a disk beside two tables -/
structure Trio (w0 w : World) (F G : Nat → Prop) (g : Nat) (d : DiskS) (B1 B2 n : Nat) (ls1 ls2 : List (List Int)) : Prop where
  ses : Ses w0 w F g d
  tab1 : Tab w G B1 n ls1
  tab2 : Tab w G B2 n ls2
  ne : B1 ≠ B2
  apart : ∀ b, F b → ¬ G b
  newG : ∀ b, G b → w0.heap.size ≤ b
section trio
variable {w0 w w' w1 : World} {F G : Nat → Prop} {g B1 B2 n : Nat} {d d' : DiskS} {ls1 ls2 : List (List Int)}
theorem Trio.op (h : Trio w0 w F G g d B1 B2 n ls1 ls2) (ha : DiskAt (Grow F w w') w' g d') (hk : Keep F w w') : Trio w0 w' (Grow F w w') G g d' B1 B2 n ls1 ls2 :=
  ⟨h.ses.op ha hk, h.tab1.keep hk (fun b hG hF => h.apart b hF hG), h.tab2.keep hk (fun b hG hF => h.apart b hF hG), h.ne, fun b hb hG => hb.elim (fun hb => h.apart b hb hG) (fun hb => by have := h.tab1.low b hG; omega), h.newG⟩
theorem Trio.same (h : Trio w0 w F G g d B1 B2 n ls1 ls2) (ha : DiskAt F w' g d') (hk : Keep F w w') : Trio w0 w' F G g d' B1 B2 n ls1 ls2 :=
  ⟨h.ses.same ha hk, h.tab1.keep hk (fun b hG hF => h.apart b hF hG), h.tab2.keep hk (fun b hG hF => h.apart b hF hG), h.ne, h.apart, h.newG⟩
theorem Trio.fresh (h : Trio w0 w F G g d B1 B2 n ls1 ls2) (hk : Fresh w w') : Trio w0 w' F G g d B1 B2 n ls1 ls2 := ⟨h.ses.fresh hk, h.tab1.fresh hk, h.tab2.fresh hk, h.ne, h.apart, h.newG⟩
theorem Trio.swap (h : Trio w0 w F G g d B1 B2 n ls1 ls2) : Trio w0 w F G g d B2 B1 n ls2 ls1 := ⟨h.ses, h.tab2, h.tab1, h.ne.symm, h.apart, h.newG⟩
theorem Trio.put {u : Value} {m : Nat} {l : List Int} (h : Trio w0 w F G g d B1 B2 n ls1 ls2) (hn : NewB w w1 5 .u8 u m l) (k : Nat) :
    Trio w0 (w1.setCell ⟨B2, k, none⟩ u) F (Grow G w (w1.setCell ⟨B2, k, none⟩ u)) g d B1 B2 n ls1 (ls2.set k l) := by
  obtain ⟨t, hk⟩ := h.tab2.put hn k
  have hG : Keep G w (w1.setCell ⟨B2, k, none⟩ u) := hk.mono fun b _ hb => by subst hb; exact h.tab2.gB
  refine ⟨⟨h.ses.at_.keep hG (fun b hF hG => h.apart b hF hG), h.ses.new, h.ses.kept.trans hG (fun b hb hg => by have := h.newG b hg; omega)⟩, ?_, t, h.ne, fun b hF hb => hb.elim (h.apart b hF) (fun hb => by have := h.ses.at_.low b hF; omega), fun b hb => hb.elim (h.newG b) (fun hb => Nat.le_trans h.ses.kept.size hb.1)⟩
  exact (h.tab1.other h.ne h.tab2.ofType hk).mono (fun b hb => .inl hb) t.low
theorem Trio.grow (h : Trio w0 w F G g d B1 B2 n ls1 ls2) (hk : Fresh w w') : Trio w0 w' F (Grow G w w') g d B1 B2 n ls1 ls2 := by
  have h' := h.fresh hk
  have hl : ∀ b, Grow G w w' b → b < w'.heap.size := fun b hb => hb.elim (fun hb => h'.tab1.low b hb) (fun hb => hb.2)
  exact ⟨h'.ses, h'.tab1.mono (fun b hb => .inl hb) hl, h'.tab2.mono (fun b hb => .inl hb) hl, h.ne, fun b hF hb => hb.elim (h.apart b hF) (fun hb => by have := h.ses.at_.low b hF; omega), fun b hb => hb.elim (h.newG b) (fun hb => Nat.le_trans h.ses.kept.size hb.1)⟩
theorem Trio.putIn {u : Value} {l : List Int} (h : Trio w0 w F G g d B1 B2 n ls1 ls2) (hb : ByteIn G w u l) (k : Nat) :
    Trio w0 (w.setCell ⟨B2, k, none⟩ u) F G g d B1 B2 n ls1 (ls2.set k l) ∧ ∀ v y, ByteIn G w v y → ByteIn G (w.setCell ⟨B2, k, none⟩ u) v y := by
  have hk : Keep (fun b => b = B2) w (w.setCell ⟨B2, k, none⟩ u) := (Keep.refl (fun b => b = B2) w).setCell (p := ⟨B2, k, none⟩) (fun _ => rfl) u
  have hG : Keep G w (w.setCell ⟨B2, k, none⟩ u) := hk.mono fun b _ hb => by subst hb; exact h.tab2.gB
  have kk : Keep (OfType w 28) w (w.setCell ⟨B2, k, none⟩ u) := hk.mono fun b _ e => by subst e; exact h.tab2.ofType
  refine ⟨⟨⟨h.ses.at_.keep hG (fun b hF hG => h.apart b hF hG), h.ses.new, h.ses.kept.trans hG (fun b hb hg => by have := h.newG b hg; omega)⟩, h.tab1.other h.ne h.tab2.ofType hk, ?_, h.ne, h.apart, h.newG⟩, fun v y r => r.ty kk (by decide)⟩
  obtain ⟨vs, q⟩ := h.tab2
  exact ⟨vs.set k u, by simpa using (q.own.stored k u).1, q.gB, (q.rows.imp fun _ _ _ _ r => r.ty kk (by decide)).set k (hb.ty kk (by decide)), fun b hb => by simpa [World.setCell] using q.low b hb⟩
/-- Two new rows go in, one into each table. -/
theorem Trio.both {u1 u2 : Value} {m1 m2 : Nat} {l1 l2 : List Int} (h : Trio w0 w F G g d B1 B2 n ls1 ls2) (hn1 : NewB w w' 5 .u8 u1 m1 l1) (hn2 : NewB w w' 5 .u8 u2 m2 l2) (k : Nat) :
    Trio w0 ((w'.setCell ⟨B1, k, none⟩ u1).setCell ⟨B2, k, none⟩ u2) F (Grow G w w') g d B1 B2 n (ls1.set k l1) (ls2.set k l2) := by
  have b1 : ByteIn (Grow G w w') w' u1 l1 := ⟨hn1.byteIn.1, fun j hj => .inr ⟨hn1.2.2 j hj, own_lt hn1.1 hj⟩⟩
  have b2 : ByteIn (Grow G w w') w' u2 l2 := ⟨hn2.byteIn.1, fun j hj => .inr ⟨hn2.2.2 j hj, own_lt hn2.1 hj⟩⟩
  obtain ⟨q1, q2⟩ := (h.grow hn1.2.1).swap.putIn b1 k
  exact (q1.swap.putIn (q2 _ _ b2) k).1
theorem Trio.copied (h : Trio w0 w F G g d B1 B2 n ls1 ls2) (t1 : Tab w' G B1 n ls2) (t2 : Tab w' G B2 n ls2) (hk : Keep (fun b => b = B1) w w') : Trio w0 w' F G g d B1 B2 n ls2 ls2 := by
  have hG : Keep G w w' := hk.mono fun b _ hb => by subst hb; exact h.tab1.gB
  exact ⟨⟨h.ses.at_.keep hG (fun b hF hG => h.apart b hF hG), h.ses.new, h.ses.kept.trans hG (fun b hb hg => by have := h.newG b hg; omega)⟩, t1, t2, h.ne, h.apart, h.newG⟩
end trio
end Go.Proofs.Ytfmfedfalljokaa
