/-
  Two lists side by side; what a structure owns in memory; rows of bytes that are owned.
-/
import Derived.Test.YtfmfedfalljokaaLeaf2
namespace Go.Proofs.Ytfmfedfalljokaa
open Go.RowKit

/-! ### 1. Two lists side by side -/
def All2 {α β : Type} (R : α → β → Prop) (xs : List α) (ys : List β) : Prop := xs.length = ys.length ∧ ∀ (i : Nat) x y, xs[i]? = some x → ys[i]? = some y → R x y
section
variable {α β : Type} {R T : α → β → Prop} {xs xs' : List α} {ys ys' : List β} {x : α} {y : β}
theorem All2.nil : All2 R [] [] := ⟨rfl, fun _ _ _ h => by simp at h⟩
theorem All2.imp (h : All2 R xs ys) (k : ∀ x y, x ∈ xs → y ∈ ys → R x y → T x y) : All2 T xs ys :=
  ⟨h.1, fun i x y hx hy => k x y (List.mem_of_getElem? hx) (List.mem_of_getElem? hy) (h.2 i x y hx hy)⟩
theorem All2.append (h : All2 R xs ys) (k : All2 R xs' ys') : All2 R (xs ++ xs') (ys ++ ys') := by
  refine ⟨by rw [List.length_append, List.length_append, h.1, k.1], fun i x y hx hy => ?_⟩
  by_cases hi : i < xs.length
  · rw [List.getElem?_append_left hi] at hx
    rw [List.getElem?_append_left (by rw [← h.1]; exact hi)] at hy
    exact h.2 i x y hx hy
  · rw [List.getElem?_append_right (by omega)] at hx
    rw [List.getElem?_append_right (by have := h.1; omega)] at hy
    exact k.2 _ x y hx (by rw [h.1]; exact hy)
theorem All2.one (h : R x y) : All2 R [x] [y] := ⟨rfl, fun i a b ha hb => by
  rcases i with _ | i
  · simp at ha hb; subst ha; subst hb; exact h
  · simp at ha⟩
theorem All2.snoc (h : All2 R xs ys) (k : R x y) : All2 R (xs ++ [x]) (ys ++ [y]) := h.append (.one k)
theorem All2.set (h : All2 R xs ys) (i : Nat) (k : R x y) : All2 R (xs.set i x) (ys.set i y) := by
  refine ⟨by simp [h.1], fun j a b ha hb => ?_⟩
  rw [List.getElem?_set] at ha hb
  by_cases hij : i = j
  · rw [if_pos hij] at ha hb
    split at ha
    · split at hb
      · injection ha with ha; injection hb with hb; subst ha; subst hb; exact k
      · cases hb
    · cases ha
  · rw [if_neg hij] at ha hb
    exact h.2 j a b ha hb
theorem All2.get (h : All2 R xs ys) {i : Nat} (hi : i < ys.length) : ∃ x y, xs[i]? = some x ∧ ys[i]? = some y ∧ R x y := by
  have hx : i < xs.length := by have := h.1; omega
  exact ⟨xs[i], ys[i], List.getElem?_eq_getElem hx, List.getElem?_eq_getElem hi, h.2 i _ _ (List.getElem?_eq_getElem hx) (List.getElem?_eq_getElem hi)⟩
theorem All2.take (h : All2 R xs ys) (k : Nat) : All2 R (xs.take k) (ys.take k) := by
  refine ⟨by simp [h.1], fun i a b ha hb => ?_⟩
  rw [List.getElem?_take] at ha hb
  split at ha
  · rw [if_pos (by assumption)] at hb
    exact h.2 i a b ha hb
  · cases ha
theorem All2.drop (h : All2 R xs ys) (k : Nat) : All2 R (xs.drop k) (ys.drop k) := by
  refine ⟨by simp [h.1], fun i a b ha hb => ?_⟩
  rw [List.getElem?_drop] at ha hb
  exact h.2 _ a b ha hb
theorem All2.replicate (n : Nat) (h : R x y) : All2 R (List.replicate n x) (List.replicate n y) :=
  ⟨by simp, fun i a b ha hb => by
    have h1 := List.eq_of_mem_replicate (List.mem_of_getElem? ha)
    have h2 := List.eq_of_mem_replicate (List.mem_of_getElem? hb)
    subst h1; subst h2; exact h⟩
end

/-! ### 2. What a structure owns -/
/-- The blocks of F, and all that are new. -/
def Grow (F : Nat → Prop) (w w' : World) (b : Nat) : Prop := F b ∨ (w.heap.size ≤ b ∧ b < w'.heap.size)
/-- A slice's row is among F. -/
def In (F : Nat → Prop) (v : Value) : Prop := ∀ k, v.ownBlock = some k → F k
theorem In.none {F : Nat → Prop} {n c : Nat} : In F (.slice none n c) := fun k hk => by simp [Value.ownBlock] at hk
theorem In.mono {F G : Nat → Prop} {v : Value} (h : In F v) (hk : ∀ b, F b → G b) : In G v := fun k e => hk k (h k e)
theorem In.grow {F : Nat → Prop} {v : Value} {w w' : World} (h : In F v) : In (Grow F w w') v := h.mono fun _ hb => .inl hb
theorem In.new {F : Nat → Prop} {v : Value} {w w' : World} (h : FreshV w v) (hl : ∀ k, v.ownBlock = some k → k < w'.heap.size) : In (Grow F w w') v := fun k e => .inr ⟨h k e, hl k e⟩
theorem Grow.self (F : Nat → Prop) (w : World) (b : Nat) : Grow F w w b ↔ F b := ⟨fun h => h.elim id (fun h => by omega), .inl⟩

theorem Keep.growTrans {F : Nat → Prop} {w w1 w2 : World} (h : Keep F w w1) (k : Keep (Grow F w w1) w1 w2) : Keep F w w2 := h.trans k (fun b hb hg => hg.elim id (fun hg => by omega))
theorem Grow.trans {F : Nat → Prop} {w w1 w2 : World} (h1 : w.heap.size ≤ w1.heap.size) (h2 : w1.heap.size ≤ w2.heap.size) {b : Nat} (h : Grow (Grow F w w1) w1 w2 b) : Grow F w w2 b := by
  rcases h with (h | h) | h
  · exact .inl h
  · exact .inr ⟨h.1, by omega⟩
  · exact .inr ⟨by omega, h.2⟩
theorem Grow.low {F : Nat → Prop} {w w1 : World} (hk : w.heap.size ≤ w1.heap.size) (hF : ∀ b, F b → b < w.heap.size) : ∀ b, Grow F w w1 b → b < w1.heap.size := fun b h => h.elim (fun h => by have := hF b h; omega) (fun h => h.2)
theorem Grow.from_ {F : Nat → Prop} {w w1 w2 : World} (h1 : w.heap.size ≤ w1.heap.size) {b : Nat} (h : Grow F w1 w2 b) : Grow F w w2 b := h.elim .inl (fun h => .inr ⟨by omega, h.2⟩)

/-- A row of bytes among F. -/
def ByteIn (F : Nat → Prop) (w : World) (v : Value) (l : List Int) : Prop := Own w 5 1 v l.length (iv .u8 l) ∧ In F v
theorem ByteIn.keep {F S : Nat → Prop} {w w' : World} {v : Value} {l : List Int} (h : ByteIn F w v l) (hk : Keep S w w') (hS : ∀ b, F b → ¬ S b) : ByteIn F w' v l :=
  ⟨own_keep h.1 hk (fun k e => hS k (h.2 k e)), h.2⟩
theorem ByteIn.mono {F G : Nat → Prop} {w : World} {v : Value} {l : List Int} (h : ByteIn F w v l) (hk : ∀ b, F b → G b) : ByteIn G w v l := ⟨h.1, h.2.mono hk⟩
theorem ByteIn.fresh {F : Nat → Prop} {w w' : World} {v : Value} {l : List Int} (h : ByteIn F w v l) (hk : Fresh w w') : ByteIn F w' v l := h.keep hk (fun _ _ f => f)
/-- Bytes stay where a block of another element type is written. -/
theorem ByteIn.other {F S : Nat → Prop} {w w' : World} {v : Value} {l : List Int} (h : ByteIn F w v l) (hk : Keep S w w') (hS : ∀ k, v.ownBlock = some k → ¬ S k) : ByteIn F w' v l :=
  ⟨own_keep h.1 hk hS, h.2⟩
theorem ByteIn.rdb {F : Nat → Prop} {w : World} {v : Value} {l : List Int} (h : ByteIn F w v l) : RdB w v l := by
  obtain ⟨A, c, e, hc, hr⟩ := Own.rd h.1
  exact ⟨A, l.length, c, e, hc, hr⟩
theorem NewB.byteIn {w w' : World} {v : Value} {n : Nat} {l : List Int} (h : NewB w w' 5 .u8 v n l) : ByteIn (fun b => w.heap.size ≤ b) w' v l := by
  have hl := Own.len h.1
  subst hl
  exact ⟨h.1, fun k e => h.2.2 k e⟩
theorem RdL.of_all2 {F : Nat → Prop} {w : World} {vs : List Value} {ls : List (List Int)} (h : All2 (ByteIn F w) vs ls) : RdL w ls.length vs ls :=
  ⟨h.1, rfl, fun i hi => by
    obtain ⟨x, y, hx, hy, hr⟩ := h.get hi
    simp only [List.getD_eq_getElem?_getD, hx, hy, Option.getD_some]
    exact hr.rdb⟩

/-! ### 3. Blocks told apart by what their cells are -/
def OfType (w : World) (t : TypeId) (b : Nat) : Prop := ∃ cs fr, w.heap[b]? = some (.cells cs t fr)
theorem Blk.ofType {w : World} {g : Nat} {t : TypeId} {cs : Array Value} (h : Blk w g t cs) : OfType w t g := ⟨cs, _, h⟩
theorem OfType.ne_ {w : World} {g : Nat} {t t' : TypeId} {cs : Array Value} (h : OfType w t g) (hb : Blk w g t' cs) (hne : t' ≠ t) : False := by
  obtain ⟨c, fr, h⟩ := h
  unfold Blk at hb
  rw [h] at hb
  injection hb with hb
  injection hb with _ e
  exact hne e.symm
theorem own_ofType {w : World} {e : TypeId} {size n : Nat} {v : Value} {xs : List Value} (h : Own w e size v n xs) {k : Nat} (hk : v.ownBlock = some k) : OfType w e k := by
  rcases h.2 with ⟨rfl, _⟩ | ⟨g, cap, cur, rfl, _, hh, _⟩
  · simp [Value.ownBlock] at hk
  · have : g = k := by simpa [Value.ownBlock] using hk
    subst this
    exact ⟨_, _, hh⟩
theorem OfType.uniq {w : World} {t t' : TypeId} {b : Nat} (h : OfType w t b) (h' : OfType w t' b) : t = t' := by
  obtain ⟨c, fr, h⟩ := h
  obtain ⟨c', fr', h'⟩ := h'
  rw [h] at h'
  injection h' with h'
  injection h'
theorem own_ty {w w' : World} {t e : TypeId} {size n : Nat} {v : Value} {xs : List Value} (h : Own w e size v n xs) (hk : Keep (OfType w t) w w') (hne : e ≠ t) : Own w' e size v n xs :=
  own_keep h hk (fun k hb hs => hne ((own_ofType h hb).uniq hs))
theorem Blk.ty {w w' : World} {g : Nat} {t e : TypeId} {cs : Array Value} (h : Blk w g e cs) (hk : Keep (OfType w t) w w') (hne : e ≠ t) : Blk w' g e cs :=
  h.keep hk (fun hs => hne (h.ofType.uniq hs))
theorem ByteIn.ty {F : Nat → Prop} {w w' : World} {t : TypeId} {v : Value} {l : List Int} (h : ByteIn F w v l) (hk : Keep (OfType w t) w w') (hne : 5 ≠ t) : ByteIn F w' v l :=
  ⟨own_ty h.1 hk hne, h.2⟩
theorem RdB.ty {w w' : World} {t : TypeId} {v : Value} {n : Nat} {l : List Int} (h : Own w 5 1 v n (iv .u8 l)) (hk : Keep (OfType w t) w w') (hne : 5 ≠ t) : Own w' 5 1 v n (iv .u8 l) := own_ty h hk hne
end Go.Proofs.Ytfmfedfalljokaa
