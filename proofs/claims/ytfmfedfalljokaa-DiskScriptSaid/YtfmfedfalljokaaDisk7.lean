/-
  The disk read, where the sector is there.
-/
import Derived.Stop.RegionWithIn
import Derived.Test.YtfmfedfalljokaaDisk6
namespace Go.Proofs.Ytfmfedfalljokaa
open Go.RowKit Go.Shelf

attribute [local go_sem] Oper.semAt_some

theorem Keep.fromB {w w' : World} (h : Fresh w w') (B : Nat) : KeepsFrom B w w' :=
  ⟨h.size, fun k o _ hk _ => (h.block k (Array.getElem?_eq_some_iff.1 hk).1 (fun f => f)).trans hk⟩
theorem own_no_row {X Y : World} {row : Option Nat} {e : TypeId} {size n : Nat} {v : Value} {xs : List Value} (h : Own X e size v n xs) (hg : X.grownBy Y row)
    (hr : ∀ r, row = some r → ∃ o : Obj, X.heap[r]? = some o ∧ o.isCells = false) : Own Y e size v n xs := by
  refine own_keep h ((Keep.refl (fun b => row = some b) X).grown hg (fun k e _ => e)) (fun k hk e => ?_)
  obtain ⟨o, ho, hc⟩ := hr k e
  rcases h.2 with ⟨rfl, _⟩ | ⟨g', cap, cur, rfl, _, hh, _⟩
  · simp [Value.ownBlock] at hk
  · simp [Value.ownBlock] at hk
    subst hk
    rw [hh] at ho
    cases ho
    cases hc
/-- A new row of bytes stays one while the machine keeps its books. -/
theorem newB_row {w X Y : World} {e : TypeId} {ki : IntKind} {v : Value} {n : Nat} {l : List Int} {row : Option Nat} (h : NewB w X e ki v n l) (hg : X.grownBy Y row)
    (hr : ∀ r, row = some r → w.heap.size ≤ r ∧ ∃ o : Obj, X.heap[r]? = some o ∧ o.isCells = false) : NewB w Y e ki v n l :=
  ⟨own_no_row h.1 hg (fun r e => (hr r e).2), h.2.1.grown hg (fun k e hk => absurd (hr k e).1 (by omega)), h.2.2⟩

theorem RowsAt.wide {n m : Nat} {W : World} {A : Option Addr} {rs : List Row} (h : RowsAt n W A rs) (hm : n ≤ m) : RowsAt m W A rs := by
  rcases h with h | ⟨gw, e, hg, hc⟩
  · exact .inl h
  · exact .inr ⟨gw, e, by omega, hc⟩

/-- A piece of code that neither panics nor stops: whatever is said of the other ways out. -/
theorem wpIn_calm {F : Fence} {n : Nat} {P : Program} {c : Code} {K : Act → World → Prop} {Q : Exit → Act → World → Prop} {a : Act} {w : World} (h : c.wpIn F n P (Exit.then K (fun _ _ _ => False)) a w) : c.wpIn F n P (Exit.then K Q) a w :=
  wpIn_mono h (fun e a w hq => by cases e <;> first | exact hq | exact hq.elim)
/-- A result that has just been made goes into its box. -/
theorem into_boxes {w W w' : World} {e : TypeId} {ki : IntKind} {v : Value} {n : Nat} {l : List Int} {t t' : TypeId} {u u' : Value} (hW : Fresh w W) (hs : w.heap.size + 1 + 1 < W.heap.size) (h : NewB W w' e ki v n l)
    (bV : Boxed w' (w.heap.size + 1) t u) (bE : Boxed w' (w.heap.size + 1 + 1) t' u') (z : Value) (B : Nat) :
    KeepsFrom B W ((w'.setCell ⟨w.heap.size + 1, 0, none⟩ v).setCell ⟨w.heap.size + 1 + 1, 0, none⟩ z) ∧
    NewB w ((w'.setCell ⟨w.heap.size + 1, 0, none⟩ v).setCell ⟨w.heap.size + 1 + 1, 0, none⟩ z) e ki v n l ∧
    Boxed ((w'.setCell ⟨w.heap.size + 1, 0, none⟩ v).setCell ⟨w.heap.size + 1 + 1, 0, none⟩ z) (w.heap.size + 1) t v ∧
    Boxed ((w'.setCell ⟨w.heap.size + 1, 0, none⟩ v).setCell ⟨w.heap.size + 1 + 1, 0, none⟩ z) (w.heap.size + 1 + 1) t' z := by
  obtain ⟨ho, hf, hv⟩ := h
  refine ⟨((Keep.fromB hf B).trans ((KeepsOthers.setCell _ _ _).from B)).trans ((KeepsOthers.setCell _ _ _).from B), ⟨?_, ?_, ?_⟩, (bV.set _).other (by omega) _, (bE.other (by omega) _).set _⟩
  · refine own_keep ho ((((Keep.refl (fun b => b = w.heap.size + 1 ∨ b = w.heap.size + 1 + 1) w').setCell (p := ⟨w.heap.size + 1, 0, none⟩) (fun _ => .inl rfl) v)).setCell (p := ⟨w.heap.size + 1 + 1, 0, none⟩) (fun _ => .inr rfl) z) (fun k hk hS => ?_)
    have := hv k hk
    rcases hS with h | h <;> omega
  · exact ((hW.trans hf (fun _ _ f => f)).setCell (p := ⟨w.heap.size + 1, 0, none⟩) (fun h => by simp at h; omega) v).setCell (p := ⟨w.heap.size + 1 + 1, 0, none⟩) (fun h => by simp at h; omega) z
  · intro k hk
    have := hv k hk
    omega

/-- A write as a row. -/
def rowOf (p : Int × Value) : Row := match p.2 with
  | .slice A n c => (p.1, (A, (n, c)))
  | _ => (p.1, (none, (0, 0)))
/-- The rows of the writes that wait. -/
theorem rows_of {F : Nat → Prop} {w : World} {g : Nat} {d : DiskS} {fv wv av rv : Value} {fvs : List Value} {ws : List (Int × Value)} (h : DiskIn F w g d fv wv av rv fvs ws) (hb : ∀ p ∈ d.waits, p.2.length ≤ 1000000) :
    ∃ (A : Option Addr) (c : Nat) (rs : List Row), wv = .slice A d.waits.length c ∧ rs.length = d.waits.length ∧ RowsAt w.heap.size w A rs ∧ (∀ j, (∃ l, RdB w (.slice (rs.getD j (0, (none, (0, 0)))).2.1 (rs.getD j (0, (none, (0, 0)))).2.2.1 (rs.getD j (0, (none, (0, 0)))).2.2.2) l) ∧ (rs.getD j (0, (none, (0, 0)))).2.2.1 ≤ 1000000) ∧
      ∀ j p, d.waits[j]? = some p → (rs.getD j (0, (none, (0, 0)))).1 = p.1 ∧ ByteIn F w (.slice (rs.getD j (0, (none, (0, 0)))).2.1 (rs.getD j (0, (none, (0, 0)))).2.2.1 (rs.getD j (0, (none, (0, 0)))).2.2.2) p.2 := by
  obtain ⟨A, c, rfl, hc, hr⟩ := Own.rd h.waits
  have hl : ws.length = d.waits.length := h.waitss.1
  have hat : ∀ j p, ws[j]? = some p → ∃ (B : Option Addr) (n c : Nat), p = (p.1, .slice B n c) ∧ (ws.map rowOf).getD j (0, (none, (0, 0))) = (p.1, (B, (n, c))) := by
    intro j p hp
    have hj : j < d.waits.length := by rw [← hl]; exact (List.getElem?_eq_some_iff.1 hp).1
    obtain ⟨-, hb'⟩ := h.waitss.2 j p _ hp (List.getElem?_eq_getElem hj)
    obtain ⟨B, c', e⟩ := hb'.1.shape
    obtain ⟨p1, p2⟩ := p
    dsimp only at e
    subst e
    exact ⟨B, _, c', rfl, by simp [List.getD_eq_getElem?_getD, hp, rowOf]⟩
  refine ⟨A, c, ws.map rowOf, rfl, by simp; exact hl, ?_, fun j => ?_, fun j p hp => ?_⟩
  · by_cases h0 : ws.length = 0
    · exact .inl (by simpa using h0)
    · rcases Own.slice h.waits with ⟨e, e0, -⟩ | ⟨g', c', e, -, hg'⟩
      · omega
      · cases e
        refine .inr ⟨g', rfl, hg', fun j hj => ?_⟩
        rw [List.length_map] at hj
        obtain ⟨B, n, c2, e1, e2⟩ := hat j _ (List.getElem?_eq_getElem hj)
        obtain ⟨k0, k1⟩ := wcells_get ws j _ (List.getElem?_eq_getElem hj)
        obtain ⟨ad, ea, hcs⟩ := hr.2.2 (by omega)
        cases ea
        have q0 := hcs _ _ k0
        have q1 := hcs _ _ k1
        rw [add_plain, Nat.zero_add] at q0 q1
        rw [e2]
        rw [e1] at q1
        exact ⟨q0, q1⟩
  · by_cases hj : j < ws.length
    · have hj' : j < d.waits.length := by omega
      obtain ⟨B, n, c2, e1, e2⟩ := hat j _ (List.getElem?_eq_getElem hj)
      obtain ⟨-, hb'⟩ := h.waitss.2 j _ _ (List.getElem?_eq_getElem hj) (List.getElem?_eq_getElem hj')
      rw [e1] at hb'
      rw [e2]
      refine ⟨⟨_, hb'.rdb⟩, ?_⟩
      obtain ⟨A', n', c', e', -, hr'⟩ := hb'.rdb
      cases e'
      have := hb _ (List.getElem_mem hj')
      have := hr'.len
      dsimp only
      omega
    · have e : (ws.map rowOf).getD j (0, (none, (0, 0))) = (0, (none, (0, 0))) := by simp [List.getD_eq_getElem?_getD, List.getElem?_eq_none (Nat.le_of_not_lt hj)]
      rw [e]
      exact ⟨⟨[], none, 0, 0, rfl, Nat.le_refl _, Rd.none_⟩, by decide⟩
  · have hj : j < ws.length := by have := (List.getElem?_eq_some_iff.1 hp).1; omega
    obtain ⟨B, n, c2, e1, e2⟩ := hat j _ (List.getElem?_eq_getElem hj)
    obtain ⟨e3, hb'⟩ := h.waitss.2 j _ _ (List.getElem?_eq_getElem hj) hp
    rw [e1] at hb'
    rw [e2]
    exact ⟨e3, hb'⟩
theorem read_none {d : DiskS} {x : Int} (h : d.asked (d.there x) = 0) (hno : ∀ p ∈ d.waits, p.1 ≠ x) : (d.read x).2 = d.firm.getD x.toNat [] := by
  unfold DiskS.read
  rw [if_pos h]
  exact last_none _ _ _ hno
theorem read_some {d : DiskS} {x : Int} (h : d.asked (d.there x) = 0) {i : Nat} {p : Int × List Int} (hi : d.waits[i]? = some p) (hp : p.1 = x) (hno : ∀ j q, i < j → d.waits[j]? = some q → q.1 ≠ x) : (d.read x).2 = p.2 := by
  unfold DiskS.read
  rw [if_pos h]
  exact last_some _ _ _ hi hp hno
theorem mem_upto {α : Type} {f : Nat → α} {k : Nat} {x : α} : x ∈ upto f k ↔ ∃ i, i < k ∧ f i = x := by simp [upto]
theorem none_of {F : Nat → Prop} {w : World} {d : DiskS} {rs : List Row} {x : Int} (hrl : rs.length = d.waits.length)
    (hrs : ∀ j p, d.waits[j]? = some p → (rs.getD j (0, (none, (0, 0)))).1 = p.1 ∧ ByteIn F w (.slice (rs.getD j (0, (none, (0, 0)))).2.1 (rs.getD j (0, (none, (0, 0)))).2.2.1 (rs.getD j (0, (none, (0, 0)))).2.2.2) p.2)
    (hp : ∀ p ∈ upto (fromBehind rs) rs.length, (rs.getD p (0, (none, (0, 0)))).1 ≠ x) : ∀ p ∈ d.waits, p.1 ≠ x := by
  intro p hm
  obtain ⟨j, hj⟩ := List.getElem?_of_mem hm
  have hjl := (List.getElem?_eq_some_iff.1 hj).1
  rw [← (hrs j p hj).1]
  exact hp j (mem_upto.2 ⟨rs.length - 1 - j, by omega, by unfold fromBehind; omega⟩)
theorem rdb_uniq {w : World} {v : Value} {l l' : List Int} (h : RdB w v l) (h' : RdB w v l') : l = l' := by
  obtain ⟨A, n, c, rfl, hc, hr⟩ := h
  obtain ⟨A', n', c', e, hc', hr'⟩ := h'
  cases e
  refine List.ext_getElem (by rw [hr.len, hr'.len]) (fun k h1 h2 => ?_)
  have hk : k < n := by rw [hr.len] at h1; exact h1
  obtain ⟨ad, rfl, c1⟩ := hr.int hk
  obtain ⟨ad', e', c2⟩ := hr'.int hk
  cases e'
  rw [c1] at c2
  simp only [Option.some.injEq, Value.int.injEq, List.getD_eq_getElem?_getD, List.getElem?_eq_getElem h1, List.getElem?_eq_getElem h2, Option.getD_some, true_and] at c2
  exact c2
theorem some_of {F : Nat → Prop} {w : World} {d : DiskS} {rs : List Row} {x : Int} (hrl : rs.length = d.waits.length)
    (hrs : ∀ j p, d.waits[j]? = some p → (rs.getD j (0, (none, (0, 0)))).1 = p.1 ∧ ByteIn F w (.slice (rs.getD j (0, (none, (0, 0)))).2.1 (rs.getD j (0, (none, (0, 0)))).2.2.1 (rs.getD j (0, (none, (0, 0)))).2.2.2) p.2)
    {k last : Nat} {ini : List Nat} {l : List Int} (hk : k ≤ rs.length) (e1 : upto (fromBehind rs) k = ini ++ [last]) (e2 : ∀ p ∈ ini, (rs.getD p (0, (none, (0, 0)))).1 ≠ x) (e3 : (rs.getD last (0, (none, (0, 0)))).1 = x)
    (hb : RdB w (.slice (rs.getD last (0, (none, (0, 0)))).2.1 (rs.getD last (0, (none, (0, 0)))).2.2.1 (rs.getD last (0, (none, (0, 0)))).2.2.2) l) :
    ∃ (i : Nat) (p : Int × List Int), d.waits[i]? = some p ∧ p.1 = x ∧ (∀ (j : Nat) (q : Int × List Int), i < j → d.waits[j]? = some q → q.1 ≠ x) ∧ l = p.2 ∧ l.length = (rs.getD last (0, (none, (0, 0)))).2.2.1 := by
  obtain ⟨k', rfl⟩ : ∃ k', k = k' + 1 := by
    cases k with
    | zero => simp [upto] at e1
    | succ k' => exact ⟨k', rfl⟩
  rw [upto_succ] at e1
  obtain ⟨rfl, e5⟩ := List.append_inj' e1 rfl
  obtain rfl : fromBehind rs k' = last := by simpa using e5
  obtain ⟨p, hp⟩ : ∃ p, d.waits[fromBehind rs k']? = some p := ⟨_, List.getElem?_eq_getElem (by unfold fromBehind; omega)⟩
  obtain ⟨f1, f2⟩ := hrs _ p hp
  refine ⟨_, p, hp, by rw [← f1]; exact e3, fun j q hj hq => ?_, ?_, ?_⟩
  · have hjl := (List.getElem?_eq_some_iff.1 hq).1
    rw [← (hrs j q hq).1]
    exact e2 j (mem_upto.2 ⟨rs.length - 1 - j, by unfold fromBehind at hj; omega, by unfold fromBehind; omega⟩)
  · exact rdb_uniq hb f2.rdb
  · obtain ⟨A, n, c, e, hc, hr⟩ := hb
    cases e
    exact hr.len
set_option maxRecDepth 100000 in
set_option maxHeartbeats 4000000 in
theorem Read_yes {F : Nat → Prop} {w : World} {g : Nat} {d : DiskS} (h : DiskAt F w g d) (x : Int) (hno : d.asked (d.there x) = 0) (hn : d.waits.length ≤ 1000000) (hb : ∀ p ∈ d.waits, p.2.length ≤ 1000000) (hfb : ∀ p ∈ d.firm, p.length ≤ 1000000):
    Calls Try.prog 22 #[ptr g, .int .i64 x] w fun e w' => ∃ v, e = .returned (.tuple #[v, .int .i64 0]) ∧ NewB w w' 5 .u8 v (d.read x).2.length (d.read x).2 := by
  have hd := h
  obtain ⟨fv, wv, av, rv, fvs, ws, h⟩ := h
  obtain ⟨A, c, rs, rfl, hrl, hrow, hbs, hrs⟩ := rows_of h hb
  have hq : d.there x = true := by
    cases ht : d.there x with
    | true => rfl
    | false => rw [ht] at hno; unfold DiskS.asked at hno; split at hno <;> simp at hno
  obtain ⟨hx0, hx1⟩ : 0 ≤ x ∧ x < d.firm.length := by simpa [DiskS.there] using hq
  have hne : (d.asked true != 0) = false := by rw [← hq, hno]; rfl
  have hn0 := Lib.hid hno; clear hno
  obtain ⟨fn, hfn⟩ : ∃ fn : Nat, fn = x.toNat := ⟨_, rfl⟩
  have h1 := fun o => hd.fresh ((Keep.refl (fun _ => False) w).alloc o)
  have h2 := fun o p => (h1 o).fresh ((Keep.refl (fun _ => False) _).alloc p)
  have h3 := fun o p q => (h2 o p).fresh ((Keep.refl (fun _ => False) _).alloc q)
  have k3 := fun o p q => h.keep ((((Keep.refl (fun _ => False) w).alloc o).alloc p).alloc q) (fun _ _ f => f)
  have c1 := fun o p q => (k3 o p q).cells.2.1
  have f1 : Fence.wide.fn 50 := trivial
  have f2 : Fence.wide.fn 49 := trivial
  have f3 : Fence.wide.fn 54 := trivial
  have f4 : Fence.wide.fn 52 := trivial
  refine (callsIn_wide (n := 6)).1 ?_
  refine callsIn_of_wp_marks Try.func22 rfl trivial ?_ rfl
  simp only [Try.ntmps22, List.size_toArray, List.length_cons, List.length_nil, Nat.reduceAdd, Nat.reduceSub, Array.replicate_succ, Array.replicate_zero, List.push_toArray, List.append_toArray, List.nil_append, List.cons_append]
  gi_wp2_with (first | (gi_at_call 50; refine (callsIn_wide.2 (there_calls (h3 _ _ _) x)).mono ?_; rintro e w' ⟨rfl, rfl⟩) | (gi_at_call 49; refine (callsIn_wide.2 (asked_calls (h3 _ _ _) _)).mono ?_; rintro e w' ⟨rfl, rfl⟩) | (gi_at_call 54; refine (callsIn_wide.2 (Backward_calls _ _ _ _)).mono ?_; rintro e w' ⟨rfl, rfl⟩))
  have bX := ((Boxed.new w 3 (.int .i64 x)).alloc (.cells #[.slice none 0 0] 28)).alloc (.cells #[.int .i64 0] 30)
  have bV := (Boxed.new (w.alloc (.cells #[.int .i64 x] 3)) 28 (.slice none 0 0)).alloc (.cells #[.int .i64 0] 30)
  simp only [World.size_alloc] at bV
  have bE := Boxed.new ((w.alloc (.cells #[.int .i64 x] 3)).alloc (.cells #[.slice none 0 0] 28)) 30 (.int .i64 0)
  simp only [World.size_alloc] at bE
  have hB0 : Below w.heap.size w (((w.alloc (.cells #[.int .i64 x] 3)).alloc (.cells #[.slice none 0 0] 28)).alloc (.cells #[.int .i64 0] 30)) := (((Below.refl _ w).alloc (Nat.le_refl _) _).alloc (by simp) _).alloc (by simp; omega) _
  have hsz : (((w.alloc (.cells #[.int .i64 x] 3)).alloc (.cells #[.slice none 0 0] 28)).alloc (.cells #[.int .i64 0] 30)).heap.size = w.heap.size + 3 := by simp
  obtain ⟨W0, hW0⟩ : ∃ W0, ((w.alloc (.cells #[.int .i64 x] 3)).alloc (.cells #[.slice none 0 0] 28)).alloc (.cells #[.int .i64 0] 30) = W0 := ⟨_, rfl⟩
  have hg := h.low g h.fg
  clear h1 h2 h3 k3 c1
  rw [hW0] at bX bV bE hB0 hsz ⊢
  clear hW0
  have bB := Boxed.new W0 80 (.slice A d.waits.length c)
  rw [hsz] at bB
  have hB1 : Below w.heap.size w (W0.alloc (.cells #[.slice A d.waits.length c] 80)) := hB0.alloc (by omega) _
  have hs1 : (W0.alloc (.cells #[.slice A d.waits.length c] 80)).heap.size = w.heap.size + 4 := by simp; omega
  have bX' := bX.alloc (.cells #[.slice A d.waits.length c] 80)
  have bV' := bV.alloc (.cells #[.slice A d.waits.length c] 80)
  have bE' := bE.alloc (.cells #[.slice A d.waits.length c] 80)
  obtain ⟨W1, hW1⟩ : ∃ W1, W0.alloc (.cells #[.slice A d.waits.length c] 80) = W1 := ⟨_, rfl⟩
  rw [hW1] at hB1 hs1 bX' bV' bE' bB ⊢
  clear hW1
  refine wpIn_rangeFunc_ownH rfl (by omega) (gf := 76) (lb := #[.pointer (some ⟨w.heap.size + 1 + 1 + 1, 0, none⟩)]) rfl trivial (enters_of Try.func76 (by kernel_rfl) rfl)
    (back_stops Fence.wide (6 - 1) trivial rfl (by omega) (w.heap.size + 1 + 1 + 1) W1.heap.size c A rs (by omega) W1 (by omega) (Nat.le_refl _) (by rw [hrl]; exact bB.cell) ((hrow.below hB1).wide (by omega))) belowK_t (belowK_b (Nat.le_refl _)) (Below.refl _ _) (fun _ => rfl)
    (fun pre W => (((∀ p ∈ pre, (rs.getD p (0, (none, (0, 0)))).1 ≠ x) ∧ Boxed W w.heap.size 3 (.int .i64 x)) ∧ Boxed W (w.heap.size + 1) 28 (.slice none 0 0)) ∧ Boxed W (w.heap.size + 1 + 1) 30 (.int .i64 0) ∧ Below W1.heap.size W1 W)
    (fun c pre W => (c = .ret ∧ ∃ ini last, pre = ini ++ [last] ∧ (∀ p ∈ ini, (rs.getD p (0, (none, (0, 0)))).1 ≠ x) ∧ (rs.getD last (0, (none, (0, 0)))).1 = x ∧ ∃ v l, NewB w W 5 .u8 v (rs.getD last (0, (none, (0, 0)))).2.2.1 l ∧ RdB w (.slice (rs.getD last (0, (none, (0, 0)))).2.1 (rs.getD last (0, (none, (0, 0)))).2.2.1 (rs.getD last (0, (none, (0, 0)))).2.2.2) l ∧ Boxed W (w.heap.size + 1) 28 v) ∧ Boxed W (w.heap.size + 1 + 1) 30 (.int .i64 0))
    (OwnFrom.and (OwnFrom.and (Own.from (fun s X Y row hs hg hr => ⟨hs.1, boxed_own _ 3 (fun (_ : Unit) => Value.int .i64 x) () X Y row hs.2 hg hr⟩) _) (Own.from (boxed_own _ _ _) _)) (OwnFrom.and (Own.from (boxed_own _ _ _) _) (ownFrom_below (Nat.le_refl _) (Nat.le_refl _))))
    (fun c pre X Y row hs hg hr => by
      obtain ⟨⟨hc, ini, last, e1, e2, e3, v, l, hn, hb, hv⟩, he⟩ := hs
      have hr' : ∀ r, row = some r → ∃ o : Obj, X.heap[r]? = some o ∧ o.isCells = false := fun r e => (hr r e).2
      exact ⟨⟨hc, ini, last, e1, e2, e3, v, l, newB_row hn hg (fun r e => ⟨by have := (hr r e).1; omega, (hr r e).2⟩), hb, boxed_own _ 28 (fun (_ : Unit) => v) () X Y row hv hg hr'⟩, boxed_own _ 30 (fun (_ : Unit) => Value.int .i64 0) () X Y row he hg hr'⟩)
    ⟨⟨⟨by simp, bX'⟩, bV'⟩, bE', Below.refl _ _⟩
    (fun j a' W => ∃ Bx, w.heap.size + 1 + 1 < Bx ∧ Blk W Bx 88 #[.int .i64 (rs.getD j (0, (none, (0, 0)))).1, .slice (rs.getD j (0, (none, (0, 0)))).2.1 (rs.getD j (0, (none, (0, 0)))).2.2.1 (rs.getD j (0, (none, (0, 0)))).2.2.2] ∧ a' = { tmps := #[ptr g, .int .i64 x, undef, .pointer (some ⟨w.heap.size, 0, none⟩), .pointer (some ⟨w.heap.size + 1, 0, none⟩), .pointer (some ⟨w.heap.size + 1 + 1, 0, none⟩), .int .i64 (d.asked true), undef, .pointer (some ⟨Bx, 0, none⟩), ptr g, ptr g, .int .i64 x, .bool true, .int .i64 (d.asked true), .int .i64 (d.asked true), .bool false, undef, ptr g, .pointer (some ⟨g, 0, none⟩), .pointer (some ⟨g, 1, none⟩), .slice A d.waits.length c, .func (.func 76) #[] #[.pointer (some ⟨w.heap.size + 1 + 1 + 1, 0, none⟩)], .int .i64 (j : Int), .agg #[.int .i64 (rs.getD j (0, (none, (0, 0)))).1, .slice (rs.getD j (0, (none, (0, 0)))).2.1 (rs.getD j (0, (none, (0, 0)))).2.2.1 (rs.getD j (0, (none, (0, 0)))).2.2.2], undef, undef, undef, undef, undef, undef, undef, undef, undef, undef, undef, undef, undef, undef, undef], defers := [] })
    (fun j a' _ X Y row hs hg hr => by
      obtain ⟨Bx, h1, h2, h3⟩ := hs
      exact ⟨Bx, h1, h2.grown hg (fun e => by obtain ⟨o, ho, hc⟩ := (hr Bx e.symm).2; rw [show X.heap[Bx]? = _ from h2] at ho; cases ho; cases hc), h3⟩)
    ?assign ?body ?done ?stop
  case assign =>
    rintro l pre j W K ⟨⟨⟨hp, bX1⟩, bV1⟩, bE1, hB⟩ hK
    obtain ⟨r, hr⟩ : ∃ r, r = rs.getD j (0, (none, (0, 0))) := ⟨_, rfl⟩
    dsimp only [encR, encW]
    rw [← hr] at hK ⊢
    clear hr
    gi_wp2
    exact hK _ _ ((KeepsOthers.alloc _ _).from _) ((Below.refl _ W).alloc hB.size _) ⟨⟨⟨hp, bX1.alloc _⟩, bV1.alloc _⟩, bE1.alloc _, hB.alloc hB.size _⟩ ⟨W.heap.size, bE1.lt, Blk.new _ _ _, rfl⟩
  case body =>
    rintro l pre j a' W hl hlo ⟨⟨⟨hp, bX1⟩, bV1⟩, bE1, hB⟩ ⟨Bx, hBx, bW, rfl⟩ hlt
    have hrd := hbs j
    have hjx : (rs.getD j (0, (none, (0, 0)))).1 = x ∨ (rs.getD j (0, (none, (0, 0)))).1 ≠ x := by omega
    obtain ⟨r, hr⟩ : ∃ r, r = rs.getD j (0, (none, (0, 0))) := ⟨_, rfl⟩
    rw [← hr] at bW hrd hjx ⊢
    obtain ⟨hrd, hlen⟩ := hrd
    obtain ⟨lj, hrdb⟩ := hrd
    have hrdb' := hrdb
    obtain ⟨A', n', c', e', -, hrd⟩ := hrdb'
    cases e'
    have HR := Lib.hid hr
    clear hr
    have cX := bX1.cell
    have c0 := bW.cell 0
    have c1 := bW.cell 1
    rcases hjx with hjx | hjx
    · have hj : (r.1 == x) = true := by rw [beq_iff_eq]; exact hjx
      have HJ := Lib.hid hjx; clear hjx
      have hFW : Fresh w W := (Keep.of_below hB1).trans (Keep.of_below hB) (fun _ _ f => f)
      have hrW := hrd.fresh hFW
      have hsW := bE1.lt
      have f4' : (Fence.wide.inRound l).fn 52 := trivial
      gi_wp2_with (gi_at_call 52; refine (CallsIn.inRound l (callsIn_wide.2 (CloneB_calls W hrW (by omega)))).mono ?_; rintro e w' ⟨v, rfl, hnew⟩; obtain ⟨A2, c2, rfl⟩ := hnew.1.shape; have bV2 : Boxed w' _ _ _ := (hnew.2.1.block _ bV1.lt (fun f => f)).trans bV1; have bE2 : Boxed w' _ _ _ := (hnew.2.1.block _ bE1.lt (fun f => f)).trans bE1; have cV2 := bV2.cell; have fV2 := bV2.frozen; have cE2 := bE2.cell; have fE2 := bE2.frozen)
      obtain ⟨q1, q2, q3, q4⟩ := into_boxes hFW hsW hnew bV2 bE2 (.int .i64 0) W1.heap.size
      exact ⟨q1, ⟨rfl, pre, j, rfl, hp, by rw [← HR.out]; exact HJ.out, _, _, by rw [← HR.out]; exact q2, by rw [← HR.out]; exact hrdb, q3⟩, q4⟩
    · gi_wp2
      exact ⟨KeepsFrom.refl _ _, Below.refl _ _, ⟨⟨fun p hp' => (List.mem_append.1 hp').elim (hp p) (fun e => by simp at e; subst e; rw [← HR.out]; exact hjx), bX1⟩, bV1⟩, bE1, hB⟩
  case done =>
    rintro D ys W hD rfl ⟨⟨⟨hp, bX1⟩, bV1⟩, bE1, hB⟩ hK
    have hFW : Fresh w W := (Keep.of_below hB1).trans (Keep.of_below hB) (fun _ _ f => f)
    have hW := h.keep hFW (fun _ _ f => f)
    obtain ⟨A0, c0, rfl, hc0, hr0⟩ := Own.rd h.firm
    have cf := hW.cells.1
    have cX := bX1.cell
    have hxn : fn < d.firm.length := by omega
    have hxi : x = (fn : Int) := by omega
    clear hfn
    subst hxi
    obtain ⟨ad, rfl, u, hu, hcu⟩ := (hr0.fresh hFW).at_ hxn
    obtain ⟨A3, n3, c3, rfl, hc3, hr3⟩ : RdB w u (d.firm.getD fn []) := by
      obtain ⟨u', y, hu', hy, hb'⟩ := h.firms.get hxn
      rw [hu] at hu'
      cases hu'
      rw [List.getD_eq_getElem?_getD, hy]
      exact hb'.rdb
    have hr3' : Rd W.drew 1 A3 n3 _ := (hr3.fresh hFW).drew
    have hlen3 : n3 ≤ 1000000 := by
      rw [← hr3.len, List.getD_eq_getElem?_getD, List.getElem?_eq_getElem hxn]
      exact hfb _ (List.getElem_mem _)
    have hsW := bE1.lt
    gi_wp2
    refine wpIn_calm ?_
    gi_region_with (gi_at_call 52; refine (callsIn_wide.2 (CloneB_calls W.drew hr3' (by omega))).mono ?_; rintro e w' ⟨v, rfl, hnew⟩; obtain ⟨A2, c2, rfl⟩ := hnew.1.shape; have bV2 : Boxed w' _ _ _ := (hnew.2.1.block _ bV1.lt (fun f => f)).trans bV1; have bE2 : Boxed w' _ _ _ := (hnew.2.1.block _ bE1.lt (fun f => f)).trans bE1; have cV2 := bV2.cell; have fV2 := bV2.frozen; have cE2 := bE2.cell; have fE2 := bE2.frozen)
    all_goals
      dsimp only [Exit.then]
      obtain ⟨q1, q2, q3, q4⟩ := into_boxes (hFW.drew) (by simpa using hsW) hnew bV2 bE2 (.int .i64 0) W1.heap.size
      gi_wp2
      have hK' := q1.same D _ hD hK rfl
      refine ⟨by simp, .inl ⟨_, _, rfl, run_takeDeferred hK', ?_⟩⟩
      have hV := Boxed.cell (boxed_own _ 28 (fun (_ : Unit) => Value.slice A2 n3 c2) () _ _ (some D) q3 (grownBy_putObj' _ D (.deferred none)) (fun r e => by cases e; exact ⟨_, hK', rfl⟩))
      have hE := Boxed.cell (boxed_own _ 30 (fun (_ : Unit) => Value.int .i64 0) () _ _ (some D) q4 (grownBy_putObj' _ D (.deferred none)) (fun r e => by cases e; exact ⟨_, hK', rfl⟩))
      refine ⟨.tuple #[.slice A2 n3 c2, .int .i64 0], ?_, _, rfl, ?_⟩
      · simp [results, Try.f22, go_sem, hV, hE]
      · have hq2 := newB_row q2 (grownBy_putObj' _ D (.deferred none)) (fun r e => by cases e; exact ⟨by omega, _, hK', rfl⟩)
        rw [read_none hn0.out (none_of hrl hrs hp), Int.toNat_natCast]
        have : (d.firm.getD fn []).length = n3 := hr3.len
        rw [this]
        exact hq2
  case stop =>
    rintro D c pre W hD ⟨k, hk, rfl⟩ ⟨⟨rfl, ini, last, e1, e2, e3, v, l, hn', hb', bV1⟩, bE1⟩ hK
    gi_wp2
    refine ⟨by simp, .inl ⟨_, _, rfl, run_takeDeferred hK, ?_⟩⟩
    have hV := Boxed.cell (boxed_own _ 28 (fun (_ : Unit) => v) () _ _ (some D) bV1 (grownBy_putObj' _ D (.deferred none)) (fun r e => by cases e; exact ⟨_, hK, rfl⟩))
    have hE := Boxed.cell (boxed_own _ 30 (fun (_ : Unit) => Value.int .i64 0) () _ _ (some D) bE1 (grownBy_putObj' _ D (.deferred none)) (fun r e => by cases e; exact ⟨_, hK, rfl⟩))
    refine ⟨.tuple #[v, .int .i64 0], ?_, _, rfl, ?_⟩
    · simp [results, Try.f22, go_sem, hV, hE]
    · have hq2 := newB_row hn' (grownBy_putObj' _ D (.deferred none)) (fun r e => by cases e; exact ⟨by omega, _, hK, rfl⟩)
      obtain ⟨i, p, hi, hpi, hno, el, en⟩ := some_of hrl hrs hk e1 e2 e3 hb'
      rw [read_some hn0.out hi hpi hno, ← el]
      rw [← en] at hq2
      exact hq2
end Go.Proofs.Ytfmfedfalljokaa
