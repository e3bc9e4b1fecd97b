/-
  The document's own disk: made, read, flushed, armed: walked.
-/
import Derived.Test.YtfmfedfalljokaaRefB
namespace Go.Proofs.Ytfmfedfalljokaa
open Go.RowKit

def RFPost (F : Nat → Prop) (w : World) (g : Nat) (d : DiskS) (e : Ending) (w' : World) : Prop :=
  e = .returned (.int .i64 d.flush.1) ∧ RefAt F w' g d.flush.2 ∧ Keep F w w'

set_option maxRecDepth 100000 in
set_option maxHeartbeats 1600000 in
theorem RFlush_calls {F : Nat → Prop} {w : World} {g : Nat} {d : DiskS} (h : RefAt F w g d) (hok : d.Ok) (hf0 : 0 ≤ d.flushes) (hf1 : d.flushes ≤ 1000000) :
    Calls Try.prog 60 #[ptr g] w (RFPost F w g d) := by
  have hD := h
  obtain ⟨fv, wv, kv, rv, left, fvs, ws, h⟩ := h
  obtain ⟨-, -, c2, -, -, -, -⟩ := h.cells
  cases hon : d.on with
  | false =>
    have hval : Hid (d.flush = (4, d)) := by unfold Hid DiskS.flush; simp [DiskS.asked, hon]
    rw [hon] at c2
    have c2' : w.cell? ⟨g, 2, none⟩ = some (.bool true) := c2
    clear c2 hon
    go_enter Try.func60, Try.ntmps60
    go_wp2
    go_ret
    unfold RFPost
    rw [hval.out]
    exact ⟨rfl, hD, Keep.refl _ _⟩
  | true =>
    have hask : d.asked true = 0 := by simp [DiskS.asked, hon]
    have hval : Hid (d.flush = (if d.falls.1 then (4, d.falls.2) else (0, { d.falls.2 with firm := DiskS.layAll d.falls.2.waits d.falls.2.firm, waits := [], flushes := d.falls.2.flushes + 1 }))) := by unfold Hid DiskS.flush; rw [if_pos hask]
    rw [hon] at c2
    have c2' : w.cell? ⟨g, 2, none⟩ = some (.bool false) := c2
    clear c2 hon hask
    rcases hfa : d.falls.1 with _ | _
    · have HS := Lib.hid (DiskS.falls_same d hfa)
      have HFA := Lib.hid hfa
      clear hfa
      have hok2 := DiskS.falls_ok d hok
      go_enter Try.func60, Try.ntmps60
      go_upto_region 3 with (first | (go_at_call 77; refine (Rfalls_calls hD hok).mono ?_; rintro e w1 ⟨rfl, hd1, hk1⟩; rw [HFA.out]))
      have hfl5 : 0 ≤ d.falls.2.flushes ∧ d.falls.2.flushes ≤ 1000000 := by rw [HS.out.2.2.2.2]; exact ⟨hf0, hf1⟩
      obtain ⟨D, HD⟩ : ∃ D, D = d.falls.2 := ⟨_, rfl⟩
      rw [← HD] at hd1 hok2 hfl5
      have HDD := Lib.hid HD
      clear HD hok h hD c2'
      obtain ⟨hfl5a, hfl5b⟩ := hfl5
      obtain ⟨fv, wv, kv, rv, left, fvs, ws, h1⟩ := hd1
      obtain ⟨A, c, rfl, hc, hr⟩ := Own.rd h1.waits
      have hle := hr.le
      go_wp2
      go_loopw [3] (fun i wr => ∃ (k : Nat) (fvs' : List Value), k ≤ D.waits.length ∧ i = .int .i64 k ∧ RefIn F wr g { D with firm := DiskS.layAll (D.waits.take k) D.firm } fv (.slice A D.waits.length c) kv rv left fvs' ws ∧
          Keep (fun b => F b ∧ OfType w1 28 b) w1 wr) (fun i _ => D.waits.length - (intOf i).toNat)
      case atStart => exact ⟨0, fvs, Nat.zero_le _, rfl, by simpa [DiskS.layAll] using h1, Keep.refl _ _⟩
      case round =>
        obtain ⟨k, fvs', hkm, rfl, hd, hkeep⟩ := hrel
        obtain ⟨c0, c1, -, -, c4, -, -⟩ := hd.cells
        by_cases hlt : k < D.waits.length
        · obtain ⟨gw, q1, q2, pb, px, rfl, hq, hc0, hc1, hbq⟩ := hd.waitAt rfl hlt
          have hq : D.waits[k]? = some (q1, q2) := hq
          have hqr := hok2.fit _ (List.mem_of_getElem? hq)
          obtain ⟨qi, rfl⟩ : ∃ n : Nat, q1 = n := Int.eq_ofNat_of_zero_le hqr.1
          have hqn : qi < D.firm.length := by have := hqr.2; simp only at this; omega
          have hfl : Own wr 28 1 fv (DiskS.layAll (D.waits.take k) D.firm).length fvs' := hd.firm
          rw [layAll_length] at hfl
          rcases Own.slice hfl with ⟨_, h0, _⟩ | ⟨gf, cf, rfl, hcf, hgf⟩
          · exact absurd h0 (by omega)
          have hi0 : (0 : Int) ≤ (k : Int) := Int.natCast_nonneg _
          have hi1 : (k : Int) < (D.waits.length : Int) := by omega
          have HQ := Lib.hid hq; clear hq hqr
          have hj0 : (0 : Int) ≤ (qi : Int) := Int.natCast_nonneg _
          have hj1 : (qi : Int) < (D.firm.length : Int) := by omega
          have hfz : wr.frozen? ⟨gf, qi, none⟩ = false := World.ownsRow.frozenAt hfl qi
          have hsome : ∃ x, fvs'[qi]? = some x := ⟨fvs'[qi]'(by have := hfl.1; omega), List.getElem?_eq_getElem _⟩
          obtain ⟨x0, hx0⟩ := hsome
          have hcf0 : wr.cell? ⟨gf, qi, none⟩ = some x0 := (World.ownsRow.cellAt hfl qi (by omega)).trans hx0
          clear hx0
          go_wp2
          go_region
          all_goals go_wp2
          go_roundw
          case rel =>
            refine ⟨k + 1, fvs'.set qi (.slice pb q2.length px), by omega, by go_num, ?_, ?_⟩
            · rw [layAll_take _ _ HQ.out]
              exact (hd.firmSet (i := qi) (by rw [layAll_length]) hbq).keep ((Keep.refl (fun _ => False) _).drew) (fun _ _ f => f)
            · exact (hkeep.setCell (p := ⟨gf, qi, none⟩) (fun hl => ⟨hd.inf gf rfl, own_ofType h1.firm rfl⟩) _).drew
          case measure => simp [intOf]; omega
        · have f1 := hd.blk.frozen 1
          have f4 := hd.blk.frozen 4
          go_wp2
          go_ret
          have hkl : k = D.waits.length := by omega
          subst hkl
          rw [List.take_length] at hd
          unfold RFPost
          rw [hval.out, if_neg (by rw [HFA.out]; simp), ← HDD.out]
          refine ⟨rfl, ⟨_, _, _, _, _, _, _, hd.dark (on := D.on) (fl := D.flushes + 1) (left' := left) (a := D.armed) ?_ ?_ hd.armed⟩, ?_⟩
          · exact ((Keep.refl _ wr).setCell (p := ⟨g, 1, none⟩) (fun _ => hd.blk.ofType) _).setCell (p := ⟨g, 4, none⟩) (fun _ => hd.blk.ofType) _
          · simpa using (hd.blk.set_ 1 (.slice none 0 0)).set_ 4 (.int .i64 (D.flushes + 1))
          · exact ((hk1.trans (hkeep.mono (fun b _ hb => hb.1)) (fun b _ hb => hb)).setCell (p := ⟨g, 1, none⟩) (fun _ => hd.fg) _).setCell (p := ⟨g, 4, none⟩) (fun _ => hd.fg) _
    · have HFA := Lib.hid hfa
      clear hfa
      go_enter Try.func60, Try.ntmps60
      go_wp2_with (first | (go_at_call 77; refine (Rfalls_calls hD hok).mono ?_; rintro e w1 ⟨rfl, hd1, hk1⟩; rw [HFA.out]))
      go_ret
      unfold RFPost
      rw [hval.out, if_pos HFA.out]
      exact ⟨rfl, hd1, hk1⟩

/-! ### armed -/
section
variable {F : Nat → Prop} {w w2 : World} {g : Nat} {d : DiskS} {fv wv kv rv : Value} {left : Int} {fvs : List Value} {ws : List (Int × Value)}
theorem RefIn.arm {v2 : Value} {l : List Bool} {n : Nat} (h : RefIn F w g d fv wv kv rv left fvs ws) (x : Int) (hx : 0 ≤ x) (hl : l.length = n) (hn : NewO w w2 4 v2 n (bv l)) {w3 : World} (hw3 : w3 = (w2.setCell ⟨g, 3, none⟩ (.int .i64 x)).setCell ⟨g, 5, none⟩ v2) :
    RefIn (Grow F w w3) w3 g { d with armed := some (x, l) } fv wv v2 rv x fvs ws ∧ Keep F w w3 := by
  subst hl
  have h2 := h.keep hn.2.1 (fun _ _ f => f)
  have hsz : w3.heap.size = w2.heap.size := by rw [hw3]; simp [World.setCell]
  have kG : Keep (OfType w2 56) w2 w3 := by rw [hw3]; exact ((Keep.refl _ _).setCell (p := ⟨g, 3, none⟩) (fun _ => h2.blk.ofType) _).setCell (p := ⟨g, 5, none⟩) (fun _ => h2.blk.ofType) _
  have kAll : Keep F w w3 := by rw [hw3]; exact ((hn.2.1.any F).setCell (p := ⟨g, 3, none⟩) (fun _ => h.fg) _).setCell (p := ⟨g, 5, none⟩) (fun _ => h.fg) _
  have hblk : Blk w3 g 56 #[fv, wv, .bool (!d.on), .int .i64 x, .int .i64 d.flushes, v2, rv] := by rw [hw3]; simpa using (h2.blk.set_ 3 (.int .i64 x)).set_ 5 v2
  refine ⟨?_, kAll⟩
  have up : ∀ b, F b → Grow F w w3 b := fun b hb => .inl hb
  exact { blk := hblk, fg := .inl h.fg, inf := h.inf.grow, inw := h.inw.grow, inr := h.inr.grow, ink := fun k e => .inr ⟨hn.2.2 k e, by rw [hsz]; exact own_lt hn.1 e⟩
          firm := own_ty h2.firm kG (by decide), firms := h2.firms.imp fun _ _ _ _ r => (r.ty kG (by decide)).mono up
          waits := own_ty h2.waits kG (by decide), waitss := h2.waitss.imp fun _ _ _ _ r => ⟨r.1, (r.2.ty kG (by decide)).mono up⟩
          armed := ⟨rfl, hx, own_ty hn.1 kG (by decide)⟩
          writes := own_ty h2.writes kG (by decide)
          low := fun b hb => hb.elim (fun hb => Nat.lt_of_lt_of_le (h.low b hb) kAll.size) (fun hb => hb.2) }
end
theorem app_bools {ops : Array Oper} {rest : List Oper} {o : Oper} {a : Act} {Q : Exit → Act → World → Prop} {w : World} (hgd : o.guard = none) (x : Operand)
    (ho : o.op = .call { callee := .builtin .append, args := #[.const (.slice none 0 0), x], argTypes := #[29, 29] })
    {A : Option Addr} {m c : Nat} {l : List Bool} (hr : Rd w 1 A m (bv l)) (hx : a.eval x = .slice A m c) (hb : m ≤ 140737488355328)
    (h : ∀ A' c' w', NewO w w' 4 (.slice A' m c') m (bv l) → wpList Try.prog ops Q rest (a.put o.dst (.slice A' m c')) w') : wpList Try.prog ops Q (o :: rest) a w :=
  wpList_app (xs := []) w hgd _ x 29 ho 4 _ 1 1 Try.underlying29 info_bool rfl (by decide) (Own.nil _ _ _) rfl hr hx (bv_one _) (by omega) (by omega) fun v' w' ho' hg hb' => by
    simp only [Nat.zero_add, List.nil_append] at ho'
    obtain ⟨A', c', rfl⟩ := ho'.shape
    exact h A' c' w' (newO_app (Keep.refl _ w) (freshV_none _ _ _) ho' hg hb')
def RAPost (F : Nat → Prop) (w : World) (g : Nat) (d : DiskS) (x : Int) (l : List Bool) (e : Ending) (w' : World) : Prop :=
  e = .returned (.int .i64 (d.arm x l).1) ∧ RefAt (Grow F w w') w' g (d.arm x l).2 ∧ Keep F w w'

set_option maxHeartbeats 1000000 in
theorem RArm_calls {F : Nat → Prop} {w : World} {g : Nat} {d : DiskS} {A : Option Addr} {n c : Nat} {l : List Bool} (h : RefAt F w g d) (x : Int) (hr : Rd w 1 A n (bv l)) (hn : n ≤ 1000000) :
    Calls Try.prog 61 #[ptr g, .int .i64 x, .slice A n c] w (RAPost F w g d x l) := by
  have hln : l.length = n := by have := hr.1; simpa [bv] using this
  have hD := h
  obtain ⟨fv, wv, kv, rv, left, fvs, ws, h⟩ := h
  obtain ⟨-, -, c2, c3, -, c5, -⟩ := h.cells
  have HLN := Lib.hid hln; clear hln
  cases hon : d.on with
  | false =>
    have hval : Hid (d.arm x l = (4, d)) := by unfold Hid DiskS.arm; simp [DiskS.asked, hon]
    rw [hon] at c2
    have c2' : w.cell? ⟨g, 2, none⟩ = some (.bool true) := c2
    clear c2 hon
    go_enter Try.func61, Try.ntmps61
    go_wp2
    go_ret
    unfold RAPost
    rw [hval.out]
    exact ⟨rfl, hD.grow (Nat.le_refl _), Keep.refl _ _⟩
  | true =>
    rw [hon] at c2
    have c2' : w.cell? ⟨g, 2, none⟩ = some (.bool false) := c2
    clear c2
    by_cases hx : 0 ≤ x
    · have hval : Hid (d.arm x l = (0, { d with armed := some (x, l) })) := by unfold Hid DiskS.arm; simp [DiskS.asked, hon, hx]
      have hb : decide (x < 0) = false := by simp; omega
      clear hon
      go_enter Try.func61, Try.ntmps61
      go_wp2_with (first | (refine app_bools rfl (.tmp 18) rfl hr rfl (by omega) ?_; intro A2 k2 w2 hn2; have B2 := h.blk.fresh hn2.2.1; have d3 := B2.at_ 3 rfl; have e3 := B2.frozen 3; have d5 := B2.at_ 5 rfl; have e5 := B2.frozen 5))
      go_ret
      unfold RAPost
      rw [hval.out]
      have hl2 : l.length = n := HLN.out
      obtain ⟨hx1, hx2⟩ := h.arm x hx hl2 hn2 rfl
      exact ⟨rfl, ⟨_, _, _, _, _, _, _, hx1⟩, hx2⟩
    · have hval : Hid (d.arm x l = (2, d)) := by unfold Hid DiskS.arm; simp [DiskS.asked, hon, hx]
      have hb : decide (x < 0) = true := by simp; omega
      clear hon
      go_enter Try.func61, Try.ntmps61
      go_wp2
      go_ret
      unfold RAPost
      rw [hval.out]
      exact ⟨rfl, hD.grow (Nat.le_refl _), Keep.refl _ _⟩

/-! ### read -/
set_option maxRecDepth 100000 in
set_option maxHeartbeats 1600000 in
theorem RRead_calls {F : Nat → Prop} {w : World} {g : Nat} {d : DiskS} (h : RefAt F w g d) (hs : Sec d) (x : Int) (hn : d.waits.length ≤ 1000000) :
    Calls Try.prog 56 #[ptr g, .int .i64 x] w fun e w' => ∃ v, e = .returned (.tuple #[v, .int .i64 (d.read x).1]) ∧ NewB w w' 5 .u8 v (d.read x).2.length (d.read x).2 := by
  have hD := h
  obtain ⟨fv, wv, kv, rv, left, fvs, ws, h⟩ := h
  obtain ⟨c0, c1, c2, -, -, -, -⟩ := h.cells
  obtain ⟨A0, k0, rfl, -, hr0⟩ := Own.rd h.firm
  have hle0 := hr0.le
  obtain ⟨A1, k1, rfl, -, hr1⟩ := Own.rd h.waits
  cases hon : d.on with
  | false =>
    have hval : Hid (d.read x = (4, [])) := by unfold Hid DiskS.read; simp [DiskS.asked, hon]
    rw [hon] at c2
    have c2' : w.cell? ⟨g, 2, none⟩ = some (.bool true) := c2
    clear c2 hon
    go_enter Try.func56, Try.ntmps56
    go_wp2
    go_ret2
    rw [hval.out]
    exact ⟨_, rfl, Own.nil _ _ _, Keep.refl _ _, freshV_none _ _ _⟩
  | true =>
    rw [hon] at c2
    have c2' : w.cell? ⟨g, 2, none⟩ = some (.bool false) := c2
    clear c2
    by_cases hth : d.there x = true
    · obtain ⟨hx0, hx1⟩ : 0 ≤ x ∧ x < d.firm.length := by simpa [DiskS.there] using hth
      have hask : d.asked (d.there x) = 0 := by simp [DiskS.asked, hon, hth]
      have hval : Hid (d.read x = (0, DiskS.last d.waits x (d.firm.getD x.toNat []))) := by unfold Hid DiskS.read; rw [if_pos hask]
      have HSEC := Lib.hid hs
      have hb1 : decide (x < 0) = false := by simp; omega
      have hb2 : decide ((d.firm.length : Int) ≤ x) = false := by simp; omega
      clear hask hth hon hs
      go_enter Try.func56, Try.ntmps56
      go_wp2
      go_loop [6] (fun i => ∃ k : Nat, k ≤ d.waits.length ∧ i = .int .i64 ((k : Int) - 1) ∧ ∀ j q, k ≤ j → d.waits[j]? = some q → q.1 ≠ x) (fun i => (intOf i + 1).toNat)
      case atStart => exact ⟨d.waits.length, Nat.le_refl _, rfl, fun j q hj hq => by have := (List.getElem?_eq_some_iff.1 hq).1; omega⟩
      case round =>
        obtain ⟨k, hk, rfl, hno⟩ := hrel
        rcases k with _ | k
        · have hla := last_none d.waits x (d.firm.getD x.toNat []) (fun p hp => by
            obtain ⟨j, hj⟩ := List.getElem?_of_mem hp
            exact hno j p (Nat.zero_le _) hj)
          have HLA := Lib.hid hla
          clear hla
          obtain ⟨xn, rfl⟩ := Int.eq_ofNat_of_zero_le hx0
          have hxn : xn < d.firm.length := by omega
          obtain ⟨u, y, hu, hy, hbx⟩ := h.firms.get hxn
          obtain ⟨B, cb, rfl, _, hrb⟩ := Own.rd hbx.1
          have hyl : y.length = 128 := HSEC.out.1 y (List.mem_of_getElem? hy)
          obtain ⟨ad, rfl, u', hu', hcu⟩ := hr0.at_ hxn
          rw [hu] at hu'
          cases hu'
          have HY := Lib.hid hy
          have HYL := Lib.hid hyl
          clear hy hu hno hyl
          rw [show ((((0 : Nat) : Int)) - 1) = -1 from by omega]
          have hyb : y.length ≤ 140737488355328 := by rw [HYL.out]; omega
          go_wp2_with (first | (refine app_clone rfl (.tmp 59) rfl hrb rfl hyb ?_; intro A3 k3 w3 hn3))
          go_ret2
          rw [hval.out, HLA.out]
          have e : d.firm.getD ((xn : Int)).toNat [] = y := by rw [Int.toNat_natCast, List.getD_eq_getElem?_getD, HY.out]; rfl
          rw [e]
          exact ⟨_, rfl, hn3⟩
        · have hlt : k < d.waits.length := by omega
          obtain ⟨gw, q1, q2, pb, px, rfl, hq, hc0, hc1, hbq⟩ := h.waitAt rfl hlt
          rw [show (((k + 1 : Nat) : Int) - 1) = (k : Int) from by omega]
          have hi0 : (0 : Int) ≤ (k : Int) := Int.natCast_nonneg _
          have hi1 : (k : Int) < (d.waits.length : Int) := by omega
          by_cases hqx : q1 = x
          · subst hqx
            have hla := last_some d.waits q1 (d.firm.getD q1.toNat []) hq rfl (fun j q hj hq' => hno j q (by omega) hq')
            have HLA := Lib.hid hla
            obtain ⟨B, cb, e, _, hrb⟩ := Own.rd hbq.1
            cases e
            have hyl : q2.length = 128 := HSEC.out.2 _ (List.mem_of_getElem? hq)
            have HYL := Lib.hid hyl
            have hyb : q2.length ≤ 140737488355328 := by omega
            clear hla hq hno hyl
            go_wp2_with (first | (refine app_clone rfl (.tmp 51) rfl hrb rfl hyb ?_; intro A3 k3 w3 hn3))
            go_ret2
            rw [hval.out, HLA.out]
            exact ⟨_, rfl, hn3⟩
          · have hb3 : (q1 == x) = false := by rw [beq_eq_false_iff_ne]; exact hqx
            have HQ := Lib.hid hq
            have HNO := Lib.hid hno
            have HQX := Lib.hid hqx
            clear hq hno hqx
            go_wp2
            go_round
            case rel =>
              refine ⟨k, by omega, rfl, fun j q hj hq' => ?_⟩
              by_cases hjk : j = k
              · subst hjk
                rw [HQ.out] at hq'
                cases hq'
                exact HQX.out
              · exact HNO.out j q (by omega) hq'
            case measure => simp [intOf]
    · have hval : Hid (d.read x = (2, [])) := by
        have : d.there x = false := by simpa using hth
        unfold Hid DiskS.read
        simp [DiskS.asked, hon, this]
      have hcs : x < 0 ∨ (0 ≤ x ∧ (d.firm.length : Int) ≤ x) := by
        by_cases h0 : 0 ≤ x
        · right
          refine ⟨h0, ?_⟩
          by_cases h1 : x < d.firm.length
          · exact absurd (by simp [DiskS.there, h0, h1]) hth
          · omega
        · left; omega
      clear hth hon
      rcases hcs with hc | ⟨hc1, hc2⟩
      all_goals
        go_enter Try.func56, Try.ntmps56
        go_wp2
        go_ret2
        rw [hval.out]
        exact ⟨_, rfl, Own.nil _ _ _, Keep.refl _ _, freshV_none _ _ _⟩
end Go.Proofs.Ytfmfedfalljokaa
