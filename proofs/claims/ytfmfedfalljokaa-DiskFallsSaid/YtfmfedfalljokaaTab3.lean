/-
  An array of byte slices, a list of integers and a list of byte slices that a row has made for itself, beside a disk.
-/
import Derived.Test.YtfmfedfalljokaaTab2
namespace Go.Proofs.Ytfmfedfalljokaa
open Go.RowKit

structure QG (w : World) (G : Nat → Prop) (B : Nat) (av bv : Value) (ls : List (List Int)) (ats : List Int) (bss : List (List Int)) : Prop where
  arr : ∃ vs : List Value, Blk w B 43 vs.toArray ∧ All2 (ByteIn G w) vs ls
  at_ : Own w 3 1 av ats.length (iv .i64 ats)
  bs_ : ∃ vs : List Value, Own w 28 1 bv bss.length vs ∧ All2 (ByteIn G w) vs bss
  gB : G B
  inA : In G av
  inB : In G bv
  low : ∀ b, G b → b < w.heap.size

section
variable {w w' w1 : World} {G S : Nat → Prop} {B : Nat} {av bv : Value} {ls : List (List Int)} {ats : List Int} {bss : List (List Int)}
theorem QG.keep (h : QG w G B av bv ls ats bss) (hk : Keep S w w') (hS : ∀ b, G b → ¬ S b) : QG w' G B av bv ls ats bss := by
  obtain ⟨⟨vs, a1, a2⟩, h2, ⟨us, b1, b2⟩, h4, h5, h6, h7⟩ := h
  exact ⟨⟨vs, a1.keep hk (hS _ h4), a2.imp fun _ _ _ _ r => r.keep hk hS⟩, own_keep h2 hk (fun k e => hS k (h5 k e)), ⟨us, own_keep b1 hk (fun k e => hS k (h6 k e)), b2.imp fun _ _ _ _ r => r.keep hk hS⟩, h4, h5, h6, fun b hb => Nat.lt_of_lt_of_le (h7 b hb) hk.size⟩
theorem QG.fresh (h : QG w G B av bv ls ats bss) (hk : Fresh w w') : QG w' G B av bv ls ats bss := h.keep hk (fun _ _ f => f)
theorem QG.nils (h : QG w G B av bv ls ats bss) : QG w G B (.slice none 0 0) (.slice none 0 0) ls [] [] :=
  ⟨h.arr, Own.nil _ _ _, ⟨[], Own.nil _ _ _, All2.nil⟩, h.gB, In.none, In.none, h.low⟩
/-- The array's k-th slice. -/
theorem QG.arrAt (h : QG w G B av bv ls ats bss) {k : Nat} (hk : k < ls.length) : ∃ A m c, w.cell? ⟨B, k, none⟩ = some (.slice A m c) ∧ w.frozen? ⟨B, k, none⟩ = false := by
  obtain ⟨vs, a1, a2⟩ := h.arr
  obtain ⟨u, y, hu, hy, r⟩ := a2.get hk
  obtain ⟨A, c, rfl⟩ := r.1.shape
  exact ⟨A, _, c, a1.at_ k (by simpa using hu), a1.frozen k⟩
theorem QG.rdl (h : QG w G B av bv ls ats bss) (hn : ls.length ≤ 1000000) : ∃ vs, Rd w 1 (some ⟨B, 0, none⟩) ls.length vs ∧ RdL w ls.length vs ls := by
  obtain ⟨vs, a1, a2⟩ := h.arr
  refine ⟨vs, ⟨by have := a2.1; omega, by omega, fun _ => ⟨_, rfl, fun j u hu => ?_⟩⟩, RdL.of_all2 a2⟩
  rw [add_plain, Nat.zero_add]
  exact a1.at_ j (by simpa using hu)
theorem QG.grow (h : QG w G B av bv ls ats bss) (hk : Fresh w w') : QG w' (Grow G w w') B av bv ls ats bss := by
  obtain ⟨⟨vs, a1, a2⟩, h2, ⟨us, b1, b2⟩, h4, h5, h6, h7⟩ := h.fresh hk
  have up : ∀ b, G b → Grow G w w' b := fun b hb => .inl hb
  exact ⟨⟨vs, a1, a2.imp fun _ _ _ _ r => r.mono up⟩, h2, ⟨us, b1, b2.imp fun _ _ _ _ r => r.mono up⟩, .inl h4, h5.mono up, h6.mono up, fun b hb => hb.elim (h7 b) (fun hb => hb.2)⟩
/-- A slice that lies among G goes into the array. -/
theorem QG.put (h : QG w G B av bv ls ats bss) {u : Value} {l : List Int} (hb : ByteIn G w u l) (k : Nat) : QG (w.setCell ⟨B, k, none⟩ u) G B av bv (ls.set k l) ats bss ∧ Keep G w (w.setCell ⟨B, k, none⟩ u) := by
  have hl := h.low
  have hgB := h.gB
  obtain ⟨⟨vs, a1, a2⟩, h2, ⟨us, b1, b2⟩, h4, h5, h6, h7⟩ := h
  have kk : Keep (OfType w 43) w (w.setCell ⟨B, k, none⟩ u) := (Keep.refl _ w).setCell (p := ⟨B, k, none⟩) (fun _ => a1.ofType) u
  have hG : Keep G w (w.setCell ⟨B, k, none⟩ u) := (Keep.refl G w).setCell (p := ⟨B, k, none⟩) (fun _ => hgB) u
  refine ⟨⟨⟨vs.set k u, by simpa using a1.set_ k u, (a2.imp fun _ _ _ _ r => r.ty kk (by decide)).set k (hb.ty kk (by decide))⟩, own_ty h2 kk (by decide), ⟨us, own_ty b1 kk (by decide), b2.imp fun _ _ _ _ r => r.ty kk (by decide)⟩, h4, h5, h6, fun b hb => by simpa [World.setCell] using h7 b hb⟩, hG⟩
/-- The k-th of the byte slices. -/
theorem QG.bsAt (h : QG w G B av bv ls ats bss) {k : Nat} (hk : k < bss.length) : ∃ ad A m c, (∃ c', bv = .slice (some ad) bss.length c') ∧ w.cell? (ad.add k) = some (.slice A m c) ∧ ByteIn G w (.slice A m c) (bss.getD k []) := by
  obtain ⟨us, b1, b2⟩ := h.bs_
  obtain ⟨u, y, hu, hy, r⟩ := b2.get hk
  obtain ⟨A, c, rfl⟩ := r.1.shape
  obtain ⟨A', c', rfl, -, hr⟩ := Own.rd b1
  obtain ⟨ad, rfl, u', hu', hc⟩ := hr.at_ hk
  rw [hu] at hu'
  cases hu'
  exact ⟨ad, A, _, c, ⟨c', rfl⟩, hc, by rw [List.getD_eq_getElem?_getD, hy]; exact r⟩
/-- An integer more. -/
theorem QG.appA (h : QG w G B av bv ls ats bss) {av1 : Value} {x : Int} {o : Obj} (ho : Own w1 3 1 av1 (ats.length + 1) (iv .i64 (ats ++ [x]))) (hg : (w.alloc o).grownBy w1 av.ownBlock) (hb : av1.ownBlock = av.ownBlock ∨ av1.ownBlock = some (w.alloc o).heap.size) :
    QG w1 (Grow G w w1) B av1 bv ls (ats ++ [x]) bss ∧ Keep G w w1 := by
  have hq := h.fresh ((Keep.refl (fun _ => False) w).alloc o)
  have hin := h.inA
  obtain ⟨⟨vs, a1, a2⟩, h2, ⟨us, b1, b2⟩, h4, h5, h6, h7⟩ := hq
  have kW : Keep (OfType (w.alloc o) 3) (w.alloc o) w1 := (Keep.refl _ _).grown hg (fun k hk _ => own_ofType h2 hk)
  have hG : Keep G w w1 := ((Keep.refl G w).alloc o).grown hg (fun k hk _ => hin k hk)
  have hs := hG.size
  have hs1 := hg.size
  have up : ∀ b, G b → Grow G w w1 b := fun b hb => .inl hb
  refine ⟨⟨⟨vs, a1.ty kW (by decide), a2.imp fun _ _ _ _ r => (r.ty kW (by decide)).mono up⟩, by simpa using ho, ⟨us, own_ty b1 kW (by decide), b2.imp fun _ _ _ _ r => (r.ty kW (by decide)).mono up⟩, .inl h4, ?_, h6.mono up, fun b hb => ?_⟩, hG⟩
  · intro k hk
    rcases hb with hb | hb
    · exact .inl (hin k (hb ▸ hk))
    · have := own_lt ho hk
      rw [hb] at hk
      injection hk with hk
      simp at hk
      exact .inr ⟨by omega, by omega⟩
  · rcases hb with hb | hb
    · have := h.low b hb; omega
    · exact hb.2
/-- A row of bytes more. -/
theorem QG.appB (h : QG w G B av bv ls ats bss) {w2 : World} {v2 bv1 : Value} {n : Nat} {l : List Int} {o : Obj} (hn : NewB w w2 5 .u8 v2 n l) {us : List Value}
    (hus : ∃ us', us' = us ∧ Own w 28 1 bv bss.length us' ∧ All2 (ByteIn G w) us' bss)
    (ho : Own w1 28 1 bv1 (bss.length + 1) (us ++ [v2])) (hg : (w2.alloc o).grownBy w1 bv.ownBlock) (hb : bv1.ownBlock = bv.ownBlock ∨ bv1.ownBlock = some (w2.alloc o).heap.size) :
    QG w1 (Grow G w w1) B av bv1 ls ats (bss ++ [l]) ∧ Keep G w w1 := by
  have k2 : Fresh w (w2.alloc o) := hn.2.1.alloc o
  have hq := h.fresh k2
  have hin := h.inB
  obtain ⟨us', rfl, b1, b2⟩ := hus
  obtain ⟨⟨vs, a1, a2⟩, h2, -, h4, h5, h6, h7⟩ := hq
  have b1' := own_keep b1 k2 (fun _ _ f => f)
  have kW : Keep (OfType (w2.alloc o) 28) (w2.alloc o) w1 := (Keep.refl _ _).grown hg (fun k hk _ => own_ofType b1' hk)
  have hG : Keep G w w1 := (k2.any G).grown hg (fun k hk _ => hin k hk)
  have hs := hG.size
  have hs1 := hg.size
  have hs2 := hn.2.1.size
  have up : ∀ b, G b → Grow G w w1 b := fun b hb => .inl hb
  have hv2 : ByteIn (Grow G w w1) w1 v2 l := by
    have hv := hn.byteIn
    have hv' := (hv.fresh ((Keep.refl (fun _ => False) w2).alloc o)).ty kW (by decide)
    exact ⟨hv'.1, fun k hk => .inr ⟨hv.2 k hk, own_lt hv'.1 hk⟩⟩
  refine ⟨⟨⟨vs, a1.ty kW (by decide), a2.imp fun _ _ _ _ r => (r.ty kW (by decide)).mono up⟩, own_ty h2 kW (by decide), ⟨us' ++ [v2], by simpa using ho, (b2.imp fun _ _ _ _ r => ((r.fresh k2).ty kW (by decide)).mono up).snoc hv2⟩, .inl h4, h5.mono up, ?_, fun b hb => ?_⟩, hG⟩
  · intro k hk
    rcases hb with hb | hb
    · exact .inl (hin k (hb ▸ hk))
    · have := own_lt ho hk
      rw [hb] at hk
      injection hk with hk
      simp at hk
      exact .inr ⟨by omega, by omega⟩
  · rcases hb with hb | hb
    · have := h.low b hb; omega
    · exact hb.2
end

/-! ### beside a disk -/
structure Quad (w0 w : World) (F G : Nat → Prop) (g : Nat) (d : DiskS) (B : Nat) (av bv : Value) (ls : List (List Int)) (ats : List Int) (bss : List (List Int)) : Prop where
  ses : Ses w0 w F g d
  q : QG w G B av bv ls ats bss
  apart : ∀ b, F b → ¬ G b
  newG : ∀ b, G b → w0.heap.size ≤ b
section
variable {w0 w w' w1 : World} {F G : Nat → Prop} {g B : Nat} {d d' : DiskS} {av bv av1 bv1 : Value} {ls ls1 : List (List Int)} {ats ats1 : List Int} {bss bss1 : List (List Int)}
theorem Quad.op (h : Quad w0 w F G g d B av bv ls ats bss) (ha : DiskAt (Grow F w w') w' g d') (hk : Keep F w w') : Quad w0 w' (Grow F w w') G g d' B av bv ls ats bss :=
  ⟨h.ses.op ha hk, h.q.keep hk (fun b hG hF => h.apart b hF hG), fun b hb hG => hb.elim (fun hb => h.apart b hb hG) (fun hb => by have := h.q.low b hG; omega), h.newG⟩
theorem Quad.same (h : Quad w0 w F G g d B av bv ls ats bss) (ha : DiskAt F w' g d') (hk : Keep F w w') : Quad w0 w' F G g d' B av bv ls ats bss :=
  ⟨h.ses.same ha hk, h.q.keep hk (fun b hG hF => h.apart b hF hG), h.apart, h.newG⟩
theorem Quad.fresh (h : Quad w0 w F G g d B av bv ls ats bss) (hk : Fresh w w') : Quad w0 w' F G g d B av bv ls ats bss := ⟨h.ses.fresh hk, h.q.fresh hk, h.apart, h.newG⟩
/-- What the row has of its own has changed. -/
theorem Quad.mine (h : Quad w0 w F G g d B av bv ls ats bss) (hq : QG w' (Grow G w w') B av1 bv1 ls1 ats1 bss1) (hG : Keep G w w') : Quad w0 w' F (Grow G w w') g d B av1 bv1 ls1 ats1 bss1 :=
  ⟨⟨h.ses.at_.keep hG (fun b hF hG => h.apart b hF hG), h.ses.new, h.ses.kept.trans hG (fun b hb hg => by have := h.newG b hg; omega)⟩, hq, fun b hF hb => hb.elim (h.apart b hF) (fun hb => by have := h.ses.at_.low b hF; omega), fun b hb => hb.elim (h.newG b) (fun hb => Nat.le_trans h.ses.kept.size hb.1)⟩
theorem Quad.mine' (h : Quad w0 w F G g d B av bv ls ats bss) (hq : QG w' G B av1 bv1 ls1 ats1 bss1) (hG : Keep G w w') : Quad w0 w' F G g d B av1 bv1 ls1 ats1 bss1 :=
  ⟨⟨h.ses.at_.keep hG (fun b hF hG => h.apart b hF hG), h.ses.new, h.ses.kept.trans hG (fun b hb hg => by have := h.newG b hg; omega)⟩, hq, h.apart, h.newG⟩
theorem Quad.grow (h : Quad w0 w F G g d B av bv ls ats bss) (hk : Fresh w w') : Quad w0 w' F (Grow G w w') g d B av bv ls ats bss :=
  ⟨h.ses.fresh hk, h.q.grow hk, fun b hF hb => hb.elim (h.apart b hF) (fun hb => by have := h.ses.at_.low b hF; omega), fun b hb => hb.elim (h.newG b) (fun hb => Nat.le_trans h.ses.kept.size hb.1)⟩
theorem Quad.put (h : Quad w0 w F G g d B av bv ls ats bss) {u : Value} {l : List Int} (hb : ByteIn G w u l) (k : Nat) : Quad w0 (w.setCell ⟨B, k, none⟩ u) F G g d B av bv (ls.set k l) ats bss :=
  h.mine' (h.q.put hb k).1 (h.q.put hb k).2
theorem Quad.fill (h : Quad w0 w F G g d B av bv ls ats bss) {u : Value} {m : Nat} {l : List Int} (hn : NewB w w1 5 .u8 u m l) (k : Nat) : Quad w0 (w1.setCell ⟨B, k, none⟩ u) F (Grow G w w1) g d B av bv (ls.set k l) ats bss :=
  (h.grow hn.2.1).put ⟨hn.byteIn.1, fun j hj => .inr ⟨hn.2.2 j hj, own_lt hn.1 hj⟩⟩ k
theorem Quad.start {w1 : World} (h : Ses w0 w F g d) (hw : w1 = w.alloc (.cells #[.slice none 0 0, .slice none 0 0, .slice none 0 0, .slice none 0 0, .slice none 0 0, .slice none 0 0] 43)) :
    Quad w0 w1 F (fun b => b = w.heap.size) g d w.heap.size (.slice none 0 0) (.slice none 0 0) (List.replicate 6 []) [] [] := by
  subst hw
  have hs := h.kept.size
  refine ⟨h.fresh ((Keep.refl _ _).alloc _), ⟨⟨List.replicate 6 (.slice none 0 0), Blk.new _ _ _, ⟨rfl, fun i x y hx hy => ?_⟩⟩, Own.nil _ _ _, ⟨[], Own.nil _ _ _, All2.nil⟩, rfl, In.none, In.none, fun b hb => by subst hb; simp⟩, fun b hF hb => by subst hb; have := h.at_.low _ hF; omega, fun b hb => by omega⟩
  simp only [List.getElem?_replicate] at hx hy
  split at hx
  · rw [if_pos (by assumption)] at hy
    cases hx; cases hy
    exact ⟨Own.nil _ _ _, In.none⟩
  · cases hx
theorem Quad.nils (h : Quad w0 w F G g d B av bv ls ats bss) : Quad w0 w F G g d B (.slice none 0 0) (.slice none 0 0) ls [] [] := ⟨h.ses, h.q.nils, h.apart, h.newG⟩
end
end Go.Proofs.Ytfmfedfalljokaa
