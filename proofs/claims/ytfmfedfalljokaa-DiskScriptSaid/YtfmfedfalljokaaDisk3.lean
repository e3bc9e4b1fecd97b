/-
  The disk's greater methods walked: a write.
-/
import Derived.Test.YtfmfedfalljokaaDisk2
import Derived.Deep.RegionLaw
import Derived.Deep.DeepCutAuto
namespace Go.Proofs.Ytfmfedfalljokaa
open Go.RowKit

theorem falls_none {F : Nat → Prop} {w : World} {g : Nat} {d : DiskS} (h : DiskAt F w g d) (ha : d.armed = none) :
    Calls Try.prog 51 #[ptr g] w fun e w' => e = .returned (.bool false) ∧ w = w' := by
  obtain ⟨fv, wv, av, rv, fvs, ws, h⟩ := h
  obtain ⟨-, -, -, c3, -, -⟩ := h.cells
  have hA := h.armed
  rw [ha] at hA
  obtain rfl : av = .pointer none := hA
  go_enter Try.func51, Try.ntmps51
  go_wp2
  go_ret
  exact ⟨rfl, rfl⟩

set_option maxHeartbeats 400000 in
theorem falls_some {F : Nat → Prop} {w : World} {g : Nat} {d : DiskS} (h : DiskAt F w g d) (hfit : d.Fit) {left : Int} {keep : List Bool} (ha : d.armed = some (left, keep)) (h0 : 0 ≤ left) (h1 : left ≤ 9223372036854775807) :
    Calls Try.prog 51 #[ptr g] w fun e w' => e = .returned (.bool d.falls.1) ∧ DiskAt F w' g d.falls.2 ∧ Keep F w w' := by
  have hD := h
  obtain ⟨fv, wv, av, rv, fvs, ws, h⟩ := h
  obtain ⟨-, -, -, c3, -, -⟩ := h.cells
  have hA := h.armed
  rw [ha] at hA
  obtain ⟨ga, kv, rfl, hga, hblk, hown, hin⟩ := hA
  obtain ⟨kA, kc, rfl, hkc, hkr⟩ := Own.rd hown
  have a0 := hblk.cell 0
  have a1 := hblk.cell 1
  have az := hblk.frozen 0
  simp at a0 a1
  by_cases hl : 0 < left
  · have HF : Hid (d.falls = (false, { d with armed := some (left - 1, keep) })) := by unfold Hid; simp [DiskS.falls, ha, hl]
    go_enter Try.func51, Try.ntmps51
    go_wp2
    go_ret
    rw [HF.out]
    have hk : Keep (OfType w 95) w (w.setCell ⟨ga, 0, none⟩ (.int .i64 (left - 1))) := (Keep.refl _ w).setCell (p := ⟨ga, 0, none⟩) (fun _ => hblk.ofType) _
    refine ⟨rfl, ⟨fv, wv, ptr ga, rv, fvs, ws, ?_⟩, (Keep.refl F w).setCell (p := ⟨ga, 0, none⟩) (fun _ => hga) _⟩
    exact { blk := h.blk.ty hk (by decide), fg := h.fg, inf := h.inf, inw := h.inw, inr := h.inr, firm := own_ty h.firm hk (by decide), firms := h.firms.imp fun _ _ _ _ r => r.ty hk (by decide)
            waits := own_ty h.waits hk (by decide), waitss := h.waitss.imp fun _ _ _ _ r => ⟨r.1, r.2.ty hk (by decide)⟩
            armed := ⟨ga, _, rfl, hga, by simpa using hblk.set_ 0 (.int .i64 (left - 1)), own_ty hown hk (by decide), hin⟩
            writes := own_ty h.writes hk (by decide), low := fun b hb => Nat.lt_of_lt_of_le (h.low b hb) hk.size }
  · have HF : Hid (d.falls = (true, d.crash keep)) := by unfold Hid; simp [DiskS.falls, ha, hl]
    have HC := Lib.hid (Crash_calls (kc := kc) hD hfit hkr (fun ad e => by
      rintro ⟨-, ht⟩
      subst e
      exact absurd ((own_ofType hown rfl).uniq ht) (by decide)))
    go_enter Try.func51, Try.ntmps51
    go_wp2_with (go_at_call 17; refine HC.out.mono ?_; rintro e w' ⟨rfl, hd', hk'⟩)
    go_ret
    rw [HF.out]
    exact ⟨rfl, hd', hk'⟩

theorem falls_calls {F : Nat → Prop} {w : World} {g : Nat} {d : DiskS} (h : DiskAt F w g d) (hok : d.Ok) :
    Calls Try.prog 51 #[ptr g] w fun e w' => e = .returned (.bool d.falls.1) ∧ DiskAt F w' g d.falls.2 ∧ Keep F w w' := by
  rcases ha : d.armed with _ | ⟨l, k⟩
  · have hf : d.falls = (false, d) := by simp [DiskS.falls, ha]
    rw [hf]
    refine (falls_none h ha).mono ?_
    rintro e w' ⟨rfl, rfl⟩
    exact ⟨rfl, h, Keep.refl _ _⟩
  · obtain ⟨h0, h1⟩ := hok.left l k ha
    exact falls_some h hok.fit ha h0 h1

theorem asked_ne (d : DiskS) : d.asked false ≠ 0 := by unfold DiskS.asked; cases d.on <;> simp

/-- Rows of writes that wait: one more. -/
theorem wcells_snoc (ws : List (Int × Value)) (p : Int × Value) : wcells (ws ++ [p]) = wcells ws ++ [.int .i64 p.1, p.2] := by simp [wcells]

theorem stepapp_write {ops : Array Oper} {o : Oper} {a : Act} {K : Act → World → Prop} {Q : Exit → Act → World → Prop} {E : Prop} {w : World} (hgd : o.guard = none) (s x : Operand)
    (ho : o.op = .call { callee := .builtin .append, args := #[s, x], argTypes := #[80, 80] })
    {v : Value} {n : Nat} {xs : List Value} (hown : Own w 88 2 v n xs) (hs : a.eval s = v)
    {A : Option Addr} {m c : Nat} {news : List Value} (hr : Rd w 2 A m news) (hx : a.eval x = .slice A m c) (h1 : ∀ u ∈ news, u.oneCell' = true) (hb : n + m ≤ 4000000000000)
    (h : ∀ A' c' w', Own w' 88 2 (.slice A' (n + m) c') (n + m) (xs ++ news) → w.grownBy w' v.ownBlock → ((Value.slice A' (n + m) c').ownBlock = v.ownBlock ∨ (Value.slice A' (n + m) c').ownBlock = some w.heap.size) → K (a.put o.dst (.slice A' (n + m) c')) w') :
    if Region.wanted o (yielded ops a.tmps) = true then Oper.wp Try.prog o a w K Q else E :=
  step_app w hgd s x 80 ho 88 _ 2 32 Try.underlying80 info_write rfl (by decide) hown hs hr hx h1 (by omega) (by omega) fun v' w' ho hg hb => by
    obtain ⟨A', c', rfl⟩ := ho.shape
    exact h A' c' w' ho hg hb

def WPost (F : Nat → Prop) (w : World) (g : Nat) (d : DiskS) (x : Int) (l : List Int) (e : Ending) (w' : World) : Prop :=
  e = .returned (.int .i64 (d.write x l).1) ∧ DiskAt (Grow F w w') w' g (d.write x l).2 ∧ Keep F w w'

theorem DiskAt.grow {F : Nat → Prop} {w w' : World} {g : Nat} {d : DiskS} (h : DiskAt F w' g d) (hk : w.heap.size ≤ w'.heap.size) : DiskAt (Grow F w w') w' g d := by
  obtain ⟨fv, wv, av, rv, fvs, ws, h⟩ := h
  exact ⟨fv, wv, av, rv, fvs, ws, h.mono (fun b hb => .inl hb) (fun b hb => hb.elim (h.low b) (fun h => h.2))⟩

set_option maxHeartbeats 800000 in
theorem Write_no {F : Nat → Prop} {w : World} {g : Nat} {d : DiskS} {A : Option Addr} {n c : Nat} {l : List Int} (h : DiskAt F w g d) (x : Int) (hr : Rd w 1 A n (iv .u8 l)) (hno : (d.there x && decide (l.length = 128)) = false) :
    Calls Try.prog 15 #[ptr g, .int .i64 x, .slice A n c] w (WPost F w g d x l) := by
  have hl := hr.len
  have hle := hr.le
  have hval : Hid (d.write x l = (d.asked false, d)) := by unfold Hid DiskS.write; rw [hno, if_neg (asked_ne d)]
  have hne : (d.asked false != 0) = true := by rw [bne_iff_ne]; exact asked_ne d
  rcases hth : d.there x with _ | _
  · have HTH := Lib.hid hth
    clear hth hno
    go_enter Try.func15, Try.ntmps15
    go_wp2_with (first | (go_at_call 50; refine (there_calls h x).mono ?_; rintro e w' ⟨rfl, rfl⟩; rw [HTH.out]) | (go_at_call 49; refine (asked_calls h _).mono ?_; rintro e w' ⟨rfl, rfl⟩))
    go_ret
    unfold WPost
    rw [hval.out]
    exact ⟨rfl, h.grow (Nat.le_refl _), Keep.refl _ _⟩
  · have hn : ¬ l.length = 128 := by simpa [hth] using hno
    have hb : ((n : Int) == 128) = false := by simp; omega
    have HTH := Lib.hid hth
    clear hth hno
    go_enter Try.func15, Try.ntmps15
    go_wp2_with (first | (go_at_call 50; refine (there_calls h x).mono ?_; rintro e w' ⟨rfl, rfl⟩; rw [HTH.out]) | (go_at_call 49; refine (asked_calls h _).mono ?_; rintro e w' ⟨rfl, rfl⟩))
    go_ret
    unfold WPost
    rw [hval.out]
    exact ⟨rfl, h.grow (Nat.le_refl _), Keep.refl _ _⟩

theorem ArmIs.fresh {F : Nat → Prop} {w w' : World} {av : Value} {o : Option (Int × List Bool)} (h : ArmIs F w av o) (hk : Fresh w w') : ArmIs F w' av o := h.keep hk (fun _ _ f => f)
/-- Behind a row of the disk's that has grown: all else of it stands. -/
structure DiskRest (F : Nat → Prop) (w : World) (g : Nat) (d : DiskS) (fv wv av rv : Value) (fvs : List Value) (ws : List (Int × Value)) : Prop where
  blk : Blk w g 83 #[fv, wv, .bool d.on, av, rv, .int .i64 d.flushes]
  firm : Own w 28 1 fv d.firm.length fvs
  firms : All2 (ByteIn F w) fvs d.firm
  waitss : All2 (fun (p : Int × Value) (q : Int × List Int) => p.1 = q.1 ∧ ByteIn F w p.2 q.2) ws d.waits
  armed : ArmIs F w av d.armed

/-- A wait more. -/
theorem DiskIn.put {F : Nat → Prop} {w1 w2 w3 : World} {g : Nat} {d : DiskS} {fv wv av rv : Value} {fvs : List Value} {ws : List (Int × Value)} {x : Int} {v2 v3 : Value} {l : List Int} {n : Nat} {o : Obj}
    (h : DiskIn F w1 g d fv wv av rv fvs ws) (hn : NewB w1 w2 5 .u8 v2 n l)
    (ho : Own w3 88 2 v3 (d.waits.length + 1) (wcells ws ++ [.int .i64 x, v2])) (hg : (w2.alloc o).grownBy w3 wv.ownBlock) (hb : v3.ownBlock = wv.ownBlock ∨ v3.ownBlock = some (w2.alloc o).heap.size) :
    DiskIn (Grow F w1 (w3.setCell ⟨g, 1, none⟩ v3)) (w3.setCell ⟨g, 1, none⟩ v3) g { d with waits := d.waits ++ [(x, l)] } fv v3 av rv fvs (ws ++ [(x, v2)]) ∧ Keep F w1 (w3.setCell ⟨g, 1, none⟩ v3) := by
  have hsz : (w3.setCell ⟨g, 1, none⟩ v3).heap.size = w3.heap.size := by simp [World.setCell]
  have h2 := h.keep hn.2.1 (fun _ _ f => f)
  have h2a := h2.keep ((Keep.refl (fun _ => False) w2).alloc o) (fun _ _ f => f)
  have kW : Keep (OfType (w2.alloc o) 88) (w2.alloc o) w3 := (Keep.refl _ _).grown hg (fun k hk _ => own_ofType h2a.waits hk)
  have b3 : Blk w3 g 83 _ := h2a.blk.ty kW (by decide)
  have kG : Keep (OfType w3 83) w3 (w3.setCell ⟨g, 1, none⟩ v3) := (Keep.refl _ w3).setCell (p := ⟨g, 1, none⟩) (fun _ => b3.ofType) _
  have kAll : Keep F w1 (w3.setCell ⟨g, 1, none⟩ v3) := (((hn.2.1.any F).alloc o).grown hg (fun k hk _ => h.inw k hk)).setCell (p := ⟨g, 1, none⟩) (fun _ => h.fg) _
  have hv2 : ByteIn (Grow F w1 (w3.setCell ⟨g, 1, none⟩ v3)) (w3.setCell ⟨g, 1, none⟩ v3) v2 l := by
    have hv := hn.byteIn
    have hv' : ByteIn (fun b => w1.heap.size ≤ b) (w3.setCell ⟨g, 1, none⟩ v3) v2 l := ((hv.fresh ((Keep.refl (fun _ => False) w2).alloc o)).ty kW (by decide)).ty kG (by decide)
    exact ⟨hv'.1, fun k hk => .inr ⟨hv.2 k hk, own_lt hv'.1 hk⟩⟩
  have up : ∀ b, F b → Grow F w1 (w3.setCell ⟨g, 1, none⟩ v3) b := fun b hb => .inl hb
  have hinw : In (Grow F w1 (w3.setCell ⟨g, 1, none⟩ v3)) v3 := by
    intro k hk
    rcases hb with hb | hb
    · exact .inl (h.inw k (hb ▸ hk))
    · have hlt := own_lt ho hk
      have := hn.2.1.size
      rw [hb] at hk
      injection hk with hk
      simp at hk
      exact .inr ⟨by omega, by omega⟩
  refine ⟨?_, kAll⟩
  exact { blk := by simpa using b3.set_ 1 v3, fg := .inl h.fg, inf := h.inf.grow, inw := hinw, inr := h.inr.grow
          firm := own_ty (own_ty h2a.firm kW (by decide)) kG (by decide)
          firms := h2a.firms.imp fun _ _ _ _ r => ((r.ty kW (by decide)).ty kG (by decide)).mono up
          waits := by simpa [wcells_snoc] using own_ty ho kG (by decide)
          waitss := (h2a.waitss.imp fun _ _ _ _ r => ⟨r.1, ((r.2.ty kW (by decide)).ty kG (by decide)).mono up⟩).snoc ⟨rfl, hv2⟩
          armed := ((h2a.armed.ty kW (by decide) (by decide)).ty kG (by decide) (by decide)).mono up
          writes := own_ty (own_ty h2a.writes kW (by decide)) kG (by decide)
          low := fun b hb => hb.elim (fun hb => Nat.lt_of_lt_of_le (h.low b hb) kAll.size) (fun hb => hb.2) }

/-- A write more is told of. -/
theorem DiskIn.log {F : Nat → Prop} {w1 w3 : World} {g : Nat} {d : DiskS} {fv wv av rv : Value} {fvs : List Value} {ws : List (Int × Value)} {x : Int} {v3 : Value} {o : Obj}
    (h : DiskIn F w1 g d fv wv av rv fvs ws)
    (ho : Own w3 3 1 v3 (d.writes.length + 1) (iv .i64 (d.writes ++ [x]))) (hg : (w1.alloc o).grownBy w3 rv.ownBlock) (hb : v3.ownBlock = rv.ownBlock ∨ v3.ownBlock = some (w1.alloc o).heap.size) :
    DiskIn (Grow F w1 (w3.setCell ⟨g, 4, none⟩ v3)) (w3.setCell ⟨g, 4, none⟩ v3) g { d with writes := d.writes ++ [x] } fv wv av v3 fvs ws ∧ Keep F w1 (w3.setCell ⟨g, 4, none⟩ v3) := by
  have hsz : (w3.setCell ⟨g, 4, none⟩ v3).heap.size = w3.heap.size := by simp [World.setCell]
  have h2a := h.keep ((Keep.refl (fun _ => False) w1).alloc o) (fun _ _ f => f)
  have kW : Keep (OfType (w1.alloc o) 3) (w1.alloc o) w3 := (Keep.refl _ _).grown hg (fun k hk _ => own_ofType h2a.writes hk)
  have b3 : Blk w3 g 83 _ := h2a.blk.ty kW (by decide)
  have kG : Keep (OfType w3 83) w3 (w3.setCell ⟨g, 4, none⟩ v3) := (Keep.refl _ w3).setCell (p := ⟨g, 4, none⟩) (fun _ => b3.ofType) _
  have kAll : Keep F w1 (w3.setCell ⟨g, 4, none⟩ v3) := (((Keep.refl F w1).alloc o).grown hg (fun k hk _ => h.inr k hk)).setCell (p := ⟨g, 4, none⟩) (fun _ => h.fg) _
  have up : ∀ b, F b → Grow F w1 (w3.setCell ⟨g, 4, none⟩ v3) b := fun b hb => .inl hb
  have hinr : In (Grow F w1 (w3.setCell ⟨g, 4, none⟩ v3)) v3 := by
    intro k hk
    rcases hb with hb | hb
    · exact .inl (h.inr k (hb ▸ hk))
    · have hlt := own_lt ho hk
      rw [hb] at hk
      injection hk with hk
      simp at hk
      exact .inr ⟨by omega, by omega⟩
  refine ⟨?_, kAll⟩
  exact { blk := by simpa using b3.set_ 4 v3, fg := .inl h.fg, inf := h.inf.grow, inw := h.inw.grow, inr := hinr
          firm := own_ty (own_ty h2a.firm kW (by decide)) kG (by decide)
          firms := h2a.firms.imp fun _ _ _ _ r => ((r.ty kW (by decide)).ty kG (by decide)).mono up
          waits := own_ty (own_ty h2a.waits kW (by decide)) kG (by decide)
          waitss := h2a.waitss.imp fun _ _ _ _ r => ⟨r.1, ((r.2.ty kW (by decide)).ty kG (by decide)).mono up⟩
          armed := ((h2a.armed.ty kW (by decide) (by decide)).ty kG (by decide) (by decide)).mono up
          writes := by simpa using own_ty ho kG (by decide)
          low := fun b hb => hb.elim (fun hb => Nat.lt_of_lt_of_le (h.low b hb) kAll.size) (fun hb => hb.2) }
theorem stepapp_int {ops : Array Oper} {o : Oper} {a : Act} {K : Act → World → Prop} {Q : Exit → Act → World → Prop} {E : Prop} {w : World} (hgd : o.guard = none) (s x : Operand)
    (ho : o.op = .call { callee := .builtin .append, args := #[s, x], argTypes := #[22, 22] })
    {v : Value} {n : Nat} {l : List Int} (hown : Own w 3 1 v n (iv .i64 l)) (hs : a.eval s = v)
    {A : Option Addr} {m c : Nat} {news : List Int} (hr : Rd w 1 A m (iv .i64 news)) (hx : a.eval x = .slice A m c) (hb : n + m ≤ 17592186044416)
    (h : ∀ A' c' w', Own w' 3 1 (.slice A' (n + m) c') (n + m) (iv .i64 (l ++ news)) → w.grownBy w' v.ownBlock → ((Value.slice A' (n + m) c').ownBlock = v.ownBlock ∨ (Value.slice A' (n + m) c').ownBlock = some w.heap.size) → K (a.put o.dst (.slice A' (n + m) c')) w') :
    if Region.wanted o (yielded ops a.tmps) = true then Oper.wp Try.prog o a w K Q else E :=
  step_app w hgd s x 22 ho 3 _ 1 8 Try.underlying22 info_int rfl (by decide) hown hs hr hx (iv_one _ _) (by omega) (by omega) fun v' w' ho hg hb => by
    obtain ⟨A', c', rfl⟩ := ho.shape
    exact h A' c' w' (by simpa [iv] using ho) hg hb

set_option maxRecDepth 100000 in
set_option maxHeartbeats 1600000 in
theorem Write_yes {F : Nat → Prop} {w : World} {g : Nat} {d : DiskS} {A : Option Addr} {n c : Nat} {l : List Int} (h : DiskAt F w g d) (hok : d.Ok) (x : Int) (hr : Rd w 1 A n (iv .u8 l)) (hyes : (d.there x && decide (l.length = 128)) = true) (hA : ∀ ad, A = some ad → ¬ F ad.block)
    (hw : d.waits.length ≤ 1000000) (hws : d.writes.length ≤ 1000000) :
    Calls Try.prog 15 #[ptr g, .int .i64 x, .slice A n c] w (WPost F w g d x l) := by
  have hF : ∀ b, F b → b < w.heap.size := by obtain ⟨_, _, _, _, _, _, h'⟩ := h; exact h'.low
  have hl := hr.len
  simp only [Bool.and_eq_true, decide_eq_true_eq] at hyes
  obtain ⟨hth, hl128⟩ := hyes
  obtain rfl : n = 128 := by omega
  rcases hon : d.on with _ | _
  · have hval : Hid (d.write x l = (4, d)) := by unfold Hid DiskS.write; simp [hth, hl128, DiskS.asked, hon]
    have hask : d.asked true = 4 := by simp [DiskS.asked, hon]
    have HTH := Lib.hid hth
    clear hth hl hl128 hon
    go_enter Try.func15, Try.ntmps15
    go_wp2_with (first | (go_at_call 50; refine (there_calls h x).mono ?_; rintro e w' ⟨rfl, rfl⟩; rw [HTH.out]) | (go_at_call 49; refine (asked_calls h _).mono ?_; rintro e w' ⟨rfl, rfl⟩))
    go_ret
    unfold WPost
    rw [hval.out]
    exact ⟨rfl, h.grow (Nat.le_refl _), Keep.refl _ _⟩
  · have hask : d.asked true = 0 := by simp [DiskS.asked, hon]
    have hval : Hid (d.write x l = (if d.falls.1 then (4, d.falls.2) else (0, { d.falls.2 with waits := d.falls.2.waits ++ [(x, l)], writes := d.falls.2.writes ++ [x] }))) := by unfold Hid DiskS.write; simp [hth, hl128, hask]
    have HTH := Lib.hid hth
    have HL := Lib.hid hl128
    clear hth hl hl128 hon
    rcases hfa : d.falls.1 with _ | _
    · have hsame := DiskS.falls_same d hfa
      have HS := Lib.hid hsame
      have HFA := Lib.hid hfa
      clear hfa hsame
      go_enter Try.func15, Try.ntmps15
      go_wp2_with (first | (go_at_call 50; refine (there_calls h x).mono ?_; rintro e w' ⟨rfl, rfl⟩; rw [HTH.out]) | (go_at_call 49; refine (asked_calls h _).mono ?_; rintro e w' ⟨rfl, rfl⟩) | (go_at_call 51; refine (falls_calls h hok).mono ?_; rintro e w1 ⟨rfl, hd1, hk1⟩; rw [HFA.out]))
      obtain ⟨s1, s2, s3, s4, s5⟩ := HS.out
      have hr1 := hr.keep hk1 hA
      obtain ⟨fv, wv, av, rv, fvs, ws, h1⟩ := hd1
      obtain ⟨-, c1, -, -, -, -⟩ := h1.cells
      have f1 := h1.blk.frozen 1
      have hlen : d.falls.2.waits.length ≤ 1000000 := by rw [s2]; exact hw
      have hW := h1.waits
      clear s1 s2 s3 s4 s5
      go_cut [] (fun wx => DiskAt (Grow F w1 wx) wx g { d.falls.2 with waits := d.falls.2.waits ++ [(x, l)] } ∧ Keep F w1 wx)
      case first =>
        go_region_law (first | (go_simp; go_at_call 52; refine (shape_of (CloneB_calls _ hr1.drew (by omega))).mono ?_; rintro e w2 ⟨B2, k2, rfl, hn2⟩; have d1 := (h1.blk.drew.fresh hn2.2.1).at_ 1 rfl; have d2 := alloc_cell d1) | (refine stepapp_write rfl (.tmp 27) (.tmp 32) rfl ((own_keep (w := w1.drew) hW hn2.2.1 (fun _ _ f => f)).alloc _) rfl (Rd.lit _ [.int .i64 x, .slice B2 128 k2] _ 2 1 rfl (by omega)) rfl (by simp [Value.oneCell']) (by omega) ?_; intro A3 c3 w3 ho3 hg3 hb3; have B3 := (((h1.blk.drew).fresh hn2.2.1).alloc (.cells #[.int .i64 x, .slice B2 128 k2] 88)).grown hg3 (own_blk_ne hW h1.blk (by decide)).symm; have q1 := B3.at_ 1 rfl; have q2 := B3.frozen 1))
        all_goals
          go_wp2_with fail
          go_meet
          obtain ⟨hx1, hx2⟩ := DiskIn.put (w1 := w1.drew) (h1.keep ((Keep.refl (fun _ => False) w1).drew) (fun _ _ f => f)) hn2 ho3 hg3 hb3
          exact ⟨⟨_, _, _, _, _, _, hx1⟩, hx2.undrew⟩
      case rest =>
        obtain ⟨hd2, hk2⟩ := hcut
        clear hr1 c1 f1 hW h1
        obtain ⟨fv, wv, av, rv, fvs, ws, h1⟩ := hd2
        obtain ⟨-, -, -, -, c4, -⟩ := h1.cells
        have f4 := h1.blk.frozen 4
        have hlw : d.falls.2.writes.length ≤ 1000000 := by rw [HS.out.2.2.2.1]; exact hws
        have hW := h1.writes
        have c4a := alloc_cell c4
        have f4a := alloc_frozen h1.blk.lt f4
        have hW : Own wc 3 1 rv d.falls.2.writes.length (iv .i64 d.falls.2.writes) := h1.writes
        go_wp2_with (first | (at_builtin; refine app_int (l := d.falls.2.writes) rfl (.tmp 40) (.tmp 42) rfl (hW.alloc _) rfl (Rd.one _ _ _ _) rfl (by omega) ?_; intro v3 w3 ho3 hg3 hb3; obtain ⟨A3, c3, rfl⟩ := Own.shape ho3; have B3 := (h1.blk.alloc (.cells #[.int .i64 x] 3)).grown hg3 (own_blk_ne hW h1.blk (by decide)).symm; have q1 := B3.at_ 4 rfl; have q2 := B3.frozen 4))
        go_ret
        obtain ⟨hx1, hx2⟩ := DiskIn.log h1 ho3 hg3 hb3
        have hlow := (hx1.mono (fun b hb => Grow.from_ hk1.size (Grow.trans hk2.size hx2.size hb)) (fun b hb => Grow.low (Nat.le_trans hk1.size (Nat.le_trans hk2.size hx2.size)) hF b hb))
        unfold WPost
        rw [hval.out, if_neg (by rw [HFA.out]; simp)]
        exact ⟨rfl, ⟨_, _, _, _, _, _, hlow⟩, hk1.trans (hk2.growTrans hx2) (fun b _ hb => hb)⟩
    · have HFA := Lib.hid hfa
      clear hfa
      go_enter Try.func15, Try.ntmps15
      go_wp2_with (first | (go_at_call 50; refine (there_calls h x).mono ?_; rintro e w' ⟨rfl, rfl⟩; rw [HTH.out]) | (go_at_call 49; refine (asked_calls h _).mono ?_; rintro e w' ⟨rfl, rfl⟩) | (go_at_call 51; refine (falls_calls h hok).mono ?_; rintro e w1 ⟨rfl, hd1, hk1⟩; rw [HFA.out]))
      go_ret
      unfold WPost
      rw [hval.out, if_pos HFA.out]
      exact ⟨rfl, hd1.grow hk1.size, hk1⟩

theorem Write_calls {F : Nat → Prop} {w : World} {g : Nat} {d : DiskS} {A : Option Addr} {n c : Nat} {l : List Int} (h : DiskAt F w g d) (hok : d.Ok) (x : Int) (hr : Rd w 1 A n (iv .u8 l)) (hA : ∀ ad, A = some ad → ¬ F ad.block)
    (hw : d.waits.length ≤ 1000000) (hws : d.writes.length ≤ 1000000) :
    Calls Try.prog 15 #[ptr g, .int .i64 x, .slice A n c] w (WPost F w g d x l) := by
  rcases hx : (d.there x && decide (l.length = 128)) with _ | _
  · exact Write_no h x hr hx
  · exact Write_yes h hok x hr hx hA hw hws
end Go.Proofs.Ytfmfedfalljokaa
