/-
  The document's own disk: the power, a write, walked.
-/
import Derived.Test.YtfmfedfalljokaaRefA
namespace Go.Proofs.Ytfmfedfalljokaa
open Go.RowKit

set_option maxHeartbeats 400000 in
theorem Rfalls_calls {F : Nat → Prop} {w : World} {g : Nat} {d : DiskS} (h : RefAt F w g d) (hok : d.Ok) :
    Calls Try.prog 77 #[ptr g] w fun e w' => e = .returned (.bool d.falls.1) ∧ RefAt F w' g d.falls.2 ∧ Keep F w w' := by
  have hD := h
  obtain ⟨fv, wv, kv, rv, left, fvs, ws, h⟩ := h
  obtain ⟨-, -, -, c3, -, c5, -⟩ := h.cells
  have f3 := h.blk.frozen 3
  rcases ha : d.armed with _ | ⟨n, keep⟩
  · have hf : d.falls = (false, d) := by simp [DiskS.falls, ha]
    have hA := h.armed
    rw [ha] at hA
    obtain ⟨rfl, -⟩ := hA
    have HF := Lib.hid hf; clear hf ha
    go_enter Try.func77, Try.ntmps77
    go_wp2
    go_ret
    rw [HF.out]
    exact ⟨rfl, hD, Keep.refl _ _⟩
  · have hA := h.armed
    rw [ha] at hA
    obtain ⟨rfl, h0, hown⟩ := hA
    have h1 := (hok.left left keep ha).2
    obtain ⟨kA, kc, rfl, hkc, hkr⟩ := Own.rd hown
    by_cases hl : 0 < left
    · have HF : Hid (d.falls = (false, { d with armed := some (left - 1, keep) })) := by unfold Hid; simp [DiskS.falls, ha, hl]
      have hb : (left == 0) = false := by rw [beq_eq_false_iff_ne]; omega
      clear ha
      go_enter Try.func77, Try.ntmps77
      go_wp2
      go_ret
      rw [HF.out]
      have hs := h.self (on := d.on) (fl := d.flushes) (left' := left - 1) (a := some (left - 1, keep)) ((Keep.refl _ w).setCell (p := ⟨g, 3, none⟩) (fun _ => h.blk.ofType) (.int .i64 (left - 1))) (by simpa using h.blk.set_ 3 (.int .i64 (left - 1))) ⟨rfl, by omega, hown⟩
      exact ⟨rfl, ⟨_, _, _, _, _, _, _, hs⟩, (Keep.refl F w).setCell (p := ⟨g, 3, none⟩) (fun _ => h.fg) _⟩
    · obtain rfl : left = 0 := by omega
      have HF : Hid (d.falls = (true, d.crash keep)) := by unfold Hid; simp [DiskS.falls, ha]
      have HC := Lib.hid (RCrash_calls (kc := kc) hD hok.fit hkr (fun ad e => by
        rintro ⟨-, ht⟩
        subst e
        exact absurd ((own_ofType hown rfl).uniq ht) (by decide)))
      clear ha
      go_enter Try.func77, Try.ntmps77
      go_wp2_with (go_at_call 62; refine HC.out.mono ?_; rintro e w' ⟨rfl, hd', hk'⟩)
      go_ret
      rw [HF.out]
      exact ⟨rfl, hd', hk'⟩

section
variable {F : Nat → Prop} {w1 w3 : World} {g : Nat} {d : DiskS} {fv wv kv rv : Value} {left : Int} {fvs : List Value} {ws : List (Int × Value)}
/-- A wait more. -/
theorem RefIn.put {x : Int} {v2 v3 : Value} {l : List Int} (h : RefIn F w1 g d fv wv kv rv left fvs ws) (hk : Fresh w1 w3)
    (ho : Own w3 99 2 v3 (d.waits.length + 1) (wcells ws ++ [.int .i64 x, v2])) (hf3 : FreshV w1 v3) (hb : Own w3 5 1 v2 l.length (iv .u8 l)) (hf2 : FreshV w1 v2) :
    RefIn (Grow F w1 (w3.setCell ⟨g, 1, none⟩ v3)) (w3.setCell ⟨g, 1, none⟩ v3) g { d with waits := d.waits ++ [(x, l)] } fv v3 kv rv left fvs (ws ++ [(x, v2)]) ∧ Keep F w1 (w3.setCell ⟨g, 1, none⟩ v3) := by
  have hsz : (w3.setCell ⟨g, 1, none⟩ v3).heap.size = w3.heap.size := by simp [World.setCell]
  have h3 := h.keep hk (fun _ _ f => f)
  have kG : Keep (OfType w3 56) w3 (w3.setCell ⟨g, 1, none⟩ v3) := (Keep.refl _ w3).setCell (p := ⟨g, 1, none⟩) (fun _ => h3.blk.ofType) _
  have kAll : Keep F w1 (w3.setCell ⟨g, 1, none⟩ v3) := (hk.any F).setCell (p := ⟨g, 1, none⟩) (fun _ => h.fg) _
  have up : ∀ b, F b → Grow F w1 (w3.setCell ⟨g, 1, none⟩ v3) b := fun b hb => .inl hb
  refine ⟨?_, kAll⟩
  exact { blk := by simpa using h3.blk.set_ 1 v3, fg := .inl h.fg, inf := h.inf.grow, inr := h.inr.grow, ink := h.ink.grow
          inw := fun k e => .inr ⟨hf3 k e, by rw [hsz]; exact own_lt ho e⟩
          firm := own_ty h3.firm kG (by decide), firms := h3.firms.imp fun _ _ _ _ r => (r.ty kG (by decide)).mono up
          waits := by simpa [wcells_snoc] using own_ty ho kG (by decide)
          waitss := (h3.waitss.imp fun _ _ _ _ r => ⟨r.1, (r.2.ty kG (by decide)).mono up⟩).snoc ⟨rfl, own_ty hb kG (by decide), fun k e => .inr ⟨hf2 k e, by rw [hsz]; exact own_lt hb e⟩⟩
          armed := h3.armed.ty kG (by decide), writes := own_ty h3.writes kG (by decide)
          low := fun b hb => hb.elim (fun hb => Nat.lt_of_lt_of_le (h.low b hb) kAll.size) (fun hb => hb.2) }
theorem freshV_app {w : World} {v2 : Value} (hb : v2.ownBlock = (Value.slice none 0 0).ownBlock ∨ v2.ownBlock = some w.heap.size) : FreshV w v2 := fun k e => by
  rcases hb with hb | hb
  · rw [hb] at e; simp [Value.ownBlock] at e
  · rw [hb] at e; injection e with e; omega
theorem RefIn.write {x : Int} {w2 w4 : World} {v2 v3 v4 : Value} {m : Nat} {l : List Int} {o : Obj} (h : RefIn F w1 g d fv wv kv rv left fvs ws) (ho2 : Own w2 99 2 v2 d.waits.length (wcells ws)) (hg2 : w1.grownBy w2 (Value.slice none 0 0).ownBlock) (hb2 : v2.ownBlock = (Value.slice none 0 0).ownBlock ∨ v2.ownBlock = some w1.heap.size)
    (hn3 : NewB w2 w3 5 .u8 v3 m l) (ho4 : Own w4 99 2 v4 (d.waits.length + 1) (wcells ws ++ [.int .i64 x, v3])) (hg4 : (w3.alloc o).grownBy w4 v2.ownBlock) (hb4 : v4.ownBlock = v2.ownBlock ∨ v4.ownBlock = some (w3.alloc o).heap.size) :
    Fresh w1 w4 ∧ RefIn (Grow F w1 (w4.setCell ⟨g, 1, none⟩ v4)) (w4.setCell ⟨g, 1, none⟩ v4) g { d with waits := d.waits ++ [(x, l)] } fv v4 kv rv left fvs (ws ++ [(x, v3)]) ∧ Keep F w1 (w4.setCell ⟨g, 1, none⟩ v4) := by
  have hf2 := freshV_app hb2
  have k2 : Fresh w1 w2 := (Keep.refl _ w1).grown hg2 (fun k hk => by simp [Value.ownBlock] at hk)
  have k3 : Fresh w1 (w3.alloc o) := (k2.trans hn3.2.1 (fun _ _ f => f)).alloc o
  have k4 : Fresh w1 w4 := k3.grown hg4 (fun k e hlt => by have := hf2 k e; omega)
  have ho3 := own_keep ho2 (hn3.2.1.alloc o) (fun _ _ f => f)
  have kW : Keep (OfType (w3.alloc o) 99) (w3.alloc o) w4 := (Keep.refl _ _).grown hg4 (fun k hk _ => own_ofType ho3 hk)
  have hb3 := own_ty (hn3.1.alloc o) kW (by decide)
  have hs2 := k2.size
  have hl : l.length = m := Own.len hn3.1
  refine ⟨k4, h.put k4 ho4 (fun k e => ?_) (by rw [hl]; exact hb3) (fun k e => Nat.le_trans hs2 (hn3.2.2 k e))⟩
  rcases hb4 with hb4 | hb4
  · exact hf2 k (hb4 ▸ e)
  · rw [hb4] at e
    injection e with e
    have := k3.size
    omega
/-- A write more is told of. -/
theorem RefIn.log {x : Int} {v3 : Value} {o : Obj} (h : RefIn F w1 g d fv wv kv rv left fvs ws)
    (ho : Own w3 3 1 v3 (d.writes.length + 1) (iv .i64 (d.writes ++ [x]))) (hg : (w1.alloc o).grownBy w3 rv.ownBlock) (hb : v3.ownBlock = rv.ownBlock ∨ v3.ownBlock = some (w1.alloc o).heap.size) :
    RefIn (Grow F w1 (w3.setCell ⟨g, 6, none⟩ v3)) (w3.setCell ⟨g, 6, none⟩ v3) g { d with writes := d.writes ++ [x] } fv wv kv v3 left fvs ws ∧ Keep F w1 (w3.setCell ⟨g, 6, none⟩ v3) := by
  have hsz : (w3.setCell ⟨g, 6, none⟩ v3).heap.size = w3.heap.size := by simp [World.setCell]
  have h2a := h.keep ((Keep.refl (fun _ => False) w1).alloc o) (fun _ _ f => f)
  have kW : Keep (OfType (w1.alloc o) 3) (w1.alloc o) w3 := (Keep.refl _ _).grown hg (fun k hk _ => own_ofType h2a.writes hk)
  have b3 : Blk w3 g 56 _ := h2a.blk.ty kW (by decide)
  have kG : Keep (OfType w3 56) w3 (w3.setCell ⟨g, 6, none⟩ v3) := (Keep.refl _ w3).setCell (p := ⟨g, 6, none⟩) (fun _ => b3.ofType) _
  have kAll : Keep F w1 (w3.setCell ⟨g, 6, none⟩ v3) := (((Keep.refl F w1).alloc o).grown hg (fun k hk _ => h.inr k hk)).setCell (p := ⟨g, 6, none⟩) (fun _ => h.fg) _
  have up : ∀ b, F b → Grow F w1 (w3.setCell ⟨g, 6, none⟩ v3) b := fun b hb => .inl hb
  have hinr : In (Grow F w1 (w3.setCell ⟨g, 6, none⟩ v3)) v3 := by
    intro k hk
    rcases hb with hb | hb
    · exact .inl (h.inr k (hb ▸ hk))
    · have hlt := own_lt ho hk
      rw [hb] at hk
      injection hk with hk
      simp at hk
      exact .inr ⟨by omega, by omega⟩
  refine ⟨?_, kAll⟩
  exact { blk := by simpa using b3.set_ 6 v3, fg := .inl h.fg, inf := h.inf.grow, inw := h.inw.grow, inr := hinr, ink := h.ink.grow
          firm := own_ty (own_ty h2a.firm kW (by decide)) kG (by decide)
          firms := h2a.firms.imp fun _ _ _ _ r => ((r.ty kW (by decide)).ty kG (by decide)).mono up
          waits := own_ty (own_ty h2a.waits kW (by decide)) kG (by decide)
          waitss := h2a.waitss.imp fun _ _ _ _ r => ⟨r.1, ((r.2.ty kW (by decide)).ty kG (by decide)).mono up⟩
          armed := (h2a.armed.ty kW (by decide)).ty kG (by decide)
          writes := by simpa using own_ty ho kG (by decide)
          low := fun b hb => hb.elim (fun hb => Nat.lt_of_lt_of_le (h.low b hb) kAll.size) (fun hb => hb.2) }
end
theorem RefAt.grow {F : Nat → Prop} {w w' : World} {g : Nat} {d : DiskS} (h : RefAt F w' g d) (hk : w.heap.size ≤ w'.heap.size) : RefAt (Grow F w w') w' g d := by
  obtain ⟨fv, wv, kv, rv, left, fvs, ws, h⟩ := h
  exact ⟨fv, wv, kv, rv, left, fvs, ws, h.mono (fun b hb => .inl hb) (fun b hb => hb.elim (h.low b) (fun h => h.2))⟩

theorem app_wait {ops : Array Oper} {rest : List Oper} {o : Oper} {a : Act} {Q : Exit → Act → World → Prop} {w : World} (hgd : o.guard = none) (s x : Operand)
    (ho : o.op = .call { callee := .builtin .append, args := #[s, x], argTypes := #[54, 54] })
    {v : Value} {n : Nat} {xs : List Value} (hown : Own w 99 2 v n xs) (hs : a.eval s = v)
    {A : Option Addr} {m c : Nat} {news : List Value} (hr : Rd w 2 A m news) (hx : a.eval x = .slice A m c) (h1 : ∀ u ∈ news, u.oneCell' = true) (hb : n + m ≤ 4000000000000)
    (h : ∀ v' w', Own w' 99 2 v' (n + m) (xs ++ news) → w.grownBy w' v.ownBlock → (v'.ownBlock = v.ownBlock ∨ v'.ownBlock = some w.heap.size) → wpList Try.prog ops Q rest (a.put o.dst v') w') : wpList Try.prog ops Q (o :: rest) a w :=
  wpList_app w hgd s x 54 ho 99 _ 2 32 Try.underlying54 info_wait rfl (by decide) hown hs hr hx h1 (by omega) (by omega) h

/-- Bytes of one's own, copied behind nil. -/
theorem app_clone {ops : Array Oper} {rest : List Oper} {o : Oper} {a : Act} {Q : Exit → Act → World → Prop} {w : World} (hgd : o.guard = none) (x : Operand)
    (ho : o.op = .call { callee := .builtin .append, args := #[.const (.slice none 0 0), x], argTypes := #[28, 28] })
    {A : Option Addr} {m c : Nat} {l : List Int} (hr : Rd w 1 A m (iv .u8 l)) (hx : a.eval x = .slice A m c) (hb : m ≤ 140737488355328)
    (h : ∀ A' c' w', NewB w w' 5 .u8 (.slice A' m c') m l → wpList Try.prog ops Q rest (a.put o.dst (.slice A' m c')) w') : wpList Try.prog ops Q (o :: rest) a w :=
  app_u8 (l := []) hgd _ x ho (Own.nil _ _ _) rfl hr hx (by omega) fun v' w' ho' hg hb' => by
    simp only [Nat.zero_add, List.nil_append] at ho'
    obtain ⟨A', c', rfl⟩ := ho'.shape
    exact h A' c' w' (newB_app (Keep.refl _ w) (freshV_none _ _ _) ho' hg hb')

def RWPost (F : Nat → Prop) (w : World) (g : Nat) (d : DiskS) (x : Int) (l : List Int) (e : Ending) (w' : World) : Prop :=
  e = .returned (.int .i64 (d.write x l).1) ∧ RefAt (Grow F w w') w' g (d.write x l).2 ∧ Keep F w w'

theorem wcells_one (ws : List (Int × Value)) (h : ∀ p ∈ ws, p.2.oneCell' = true) : ∀ u ∈ wcells ws, u.oneCell' = true := by
  intro u hu
  simp only [wcells, List.mem_flatMap] at hu
  obtain ⟨p, hp, hu⟩ := hu
  simp at hu
  rcases hu with rfl | rfl
  · rfl
  · exact h p hp
theorem RefIn.wone {F : Nat → Prop} {w : World} {g : Nat} {d : DiskS} {fv wv kv rv : Value} {left : Int} {fvs : List Value} {ws : List (Int × Value)} (h : RefIn F w g d fv wv kv rv left fvs ws) : ∀ u ∈ wcells ws, u.oneCell' = true := by
  refine wcells_one ws fun p hp => ?_
  obtain ⟨j, hj⟩ := List.getElem?_of_mem hp
  have hj1 := (List.getElem?_eq_some_iff.1 hj).1
  have hj2 : j < d.waits.length := by rw [← h.waitss.1]; exact hj1
  obtain ⟨-, r⟩ := h.waitss.2 j p _ hj (List.getElem?_eq_getElem hj2)
  obtain ⟨A, c, e⟩ := r.1.shape
  rw [e]; rfl

set_option maxRecDepth 100000 in
set_option maxHeartbeats 1600000 in
theorem RWrite_calls {F : Nat → Prop} {w : World} {g : Nat} {d : DiskS} {A : Option Addr} {n c : Nat} {l : List Int} (h : RefAt F w g d) (hok : d.Ok) (x : Int) (hr : Rd w 1 A n (iv .u8 l)) (hA : ∀ ad, A = some ad → ¬ F ad.block)
    (hw : d.waits.length ≤ 1000000) (hws : d.writes.length ≤ 1000000) :
    Calls Try.prog 59 #[ptr g, .int .i64 x, .slice A n c] w (RWPost F w g d x l) := by
  have hF := h.low
  have hl := hr.len
  have hle := hr.le
  have hD := h
  obtain ⟨fv, wv, kv, rv, left, fvs, ws, h⟩ := h
  obtain ⟨c0, -, c2, -, -, -, -⟩ := h.cells
  obtain ⟨A0, k0, rfl, -, hr0⟩ := Own.rd h.firm
  have hle0 := hr0.le
  cases hon : d.on with
  | false =>
    have hval : Hid (d.write x l = (4, d)) := by unfold Hid DiskS.write; simp [DiskS.asked, hon]
    rw [hon] at c2
    have c2' : w.cell? ⟨g, 2, none⟩ = some (.bool true) := c2
    clear c2 hl hon
    go_enter Try.func59, Try.ntmps59
    go_wp2
    go_ret
    unfold RWPost
    rw [hval.out]
    exact ⟨rfl, hD.grow (Nat.le_refl _), Keep.refl _ _⟩
  | true =>
    rw [hon] at c2
    have c2' : w.cell? ⟨g, 2, none⟩ = some (.bool false) := c2
    clear c2
    by_cases hgood : d.there x = true ∧ n = 128
    · obtain ⟨hth, rfl⟩ := hgood
      have hask : d.asked true = 0 := by simp [DiskS.asked, hon]
      have hval : Hid (d.write x l = (if d.falls.1 then (4, d.falls.2) else (0, { d.falls.2 with waits := d.falls.2.waits ++ [(x, l)], writes := d.falls.2.writes ++ [x] }))) := by unfold Hid DiskS.write; simp [hth, hl, hask]
      obtain ⟨hx0, hx1⟩ : 0 ≤ x ∧ x < d.firm.length := by simpa [DiskS.there] using hth
      have HL := Lib.hid hl
      clear hth hask hl hon
      rcases hfa : d.falls.1 with _ | _
      · have HS := Lib.hid (DiskS.falls_same d hfa)
        have HFA := Lib.hid hfa
        clear hfa
        go_enter Try.func59, Try.ntmps59
        go_upto_region 7 with (first | (go_at_call 77; refine (Rfalls_calls hD hok).mono ?_; rintro e w1 ⟨rfl, hd1, hk1⟩; rw [HFA.out]))
        have hs2 := HS.out.2.1
        have hlen : d.falls.2.waits.length ≤ 1000000 := by rw [hs2]; exact hw
        have hlw : d.falls.2.writes.length ≤ 1000000 := by rw [HS.out.2.2.2.1]; exact hws
        have hr1 := hr.keep hk1 hA
        clear hs2
        obtain ⟨D, HD⟩ : ∃ D, D = d.falls.2 := ⟨_, rfl⟩
        rw [← HD] at hd1 hlen hlw
        have HDD := Lib.hid HD
        clear HD hok h hD c0 c2' hr0
        obtain ⟨fv, wv, kv, rv, left, fvs, ws, h1⟩ := hd1
        obtain ⟨-, c1, -, -, -, -, -⟩ := h1.cells
        obtain ⟨A1, k1, rfl, -, hr2⟩ := Own.rd h1.waits
        have hone := h1.wone
        have HONE := Lib.hid hone; clear hone
        go_wp2_with (first | (refine app_wait (xs := []) rfl (.const (.slice none 0 0)) (.tmp 36) rfl (Own.nil _ _ _) rfl hr2 rfl HONE.out (by omega) ?_; intro v2 w2 ho2 hg2 hb2; simp only [Nat.zero_add, List.nil_append] at ho2; have kf2 : Fresh w1 w2 := (Keep.refl _ w1).grown hg2 (fun k hk => by simp [Value.ownBlock] at hk); have hr3 := hr1.fresh kf2) | (refine app_clone rfl (.tmp 39) rfl hr3 rfl (by omega) ?_; intro A3 k3 w3 hn3; have ho3 := own_keep ho2 hn3.2.1 (fun _ _ f => f)) | (refine app_wait rfl (.tmp 37) (.tmp 42) rfl (ho3.alloc _) rfl (Rd.lit' _ [.int .i64 x, .slice A3 128 k3] _ 2 1 w3.heap.size rfl rfl (by omega)) rfl (by simp [Value.oneCell']) (by omega) ?_; intro v4 w4 ho4 hg4 hb4; obtain ⟨A4, k4, rfl⟩ := Own.shape ho4; obtain ⟨kf4, hP1, hP2⟩ := h1.write (x := x) ho2 hg2 hb2 hn3 ho4 hg4 hb4; have B4 := h1.blk.fresh kf4; have q1 := B4.at_ 1 rfl; have q2 := B4.frozen 1; have c6 := B4.at_ 6 rfl; have f6 := B4.frozen 6; have hW6 : Own _ 3 1 rv D.writes.length (iv .i64 D.writes) := hP1.writes) | (at_builtin; refine app_int (l := D.writes) rfl (.tmp 50) (.tmp 52) rfl (hW6.alloc _) rfl (Rd.one' _ _ _ _ w4.heap.size (by simp [World.setCell])) rfl (by omega) ?_; intro v5 w5 ho5 hg5 hb5; obtain ⟨A5, k5, rfl⟩ := Own.shape ho5; have B5 := (hP1.blk.alloc (.cells #[.int .i64 x] 3)).grown hg5 (own_blk_ne hW6 hP1.blk (by decide)).symm; have r1 := B5.at_ 6 rfl; have r2 := B5.frozen 6))
        go_ret
        obtain ⟨hx1, hx2⟩ := hP1.log ho5 hg5 hb5
        have hlow := (hx1.mono (fun b hb => Grow.from_ hk1.size (Grow.trans hP2.size hx2.size hb)) (fun b hb => Grow.low (Nat.le_trans hk1.size (Nat.le_trans hP2.size hx2.size)) hF b hb))
        unfold RWPost
        rw [hval.out, if_neg (by rw [HFA.out]; simp), ← HDD.out]
        exact ⟨rfl, ⟨_, _, _, _, _, _, _, hlow⟩, hk1.trans (hP2.growTrans hx2) (fun b _ hb => hb)⟩
      · have HFA := Lib.hid hfa
        clear hfa
        go_enter Try.func59, Try.ntmps59
        go_wp2_with (first | (go_at_call 77; refine (Rfalls_calls hD hok).mono ?_; rintro e w1 ⟨rfl, hd1, hk1⟩; rw [HFA.out]))
        go_ret
        unfold RWPost
        rw [hval.out, if_pos HFA.out]
        exact ⟨rfl, hd1.grow hk1.size, hk1⟩
    · have hval : Hid (d.write x l = (2, d)) := by
        unfold Hid DiskS.write
        have : (d.there x && decide (l.length = 128)) = false := by
          rw [Bool.and_eq_false_iff]
          by_cases ht : d.there x = true
          · right; simp; intro he; exact hgood ⟨ht, by omega⟩
          · left; simpa using ht
        rw [this]
        simp [DiskS.asked, hon]
      have hcs : x < 0 ∨ (0 ≤ x ∧ (d.firm.length : Int) ≤ x) ∨ (0 ≤ x ∧ x < d.firm.length ∧ ((n : Int) != 128) = true) := by
        by_cases h0 : 0 ≤ x
        · by_cases h1 : x < d.firm.length
          · right; right
            refine ⟨h0, h1, ?_⟩
            rw [bne_iff_ne]
            intro e
            exact hgood ⟨by simp [DiskS.there, h0, h1], by omega⟩
          · right; left; omega
        · left; omega
      clear hgood hl hon
      rcases hcs with hc | ⟨hc1, hc2⟩ | ⟨hc1, hc2, hc3⟩
      all_goals
        go_enter Try.func59, Try.ntmps59
        go_wp2
        go_ret
        unfold RWPost
        rw [hval.out]
        exact ⟨rfl, hD.grow (Nat.le_refl _), Keep.refl _ _⟩
end Go.Proofs.Ytfmfedfalljokaa
