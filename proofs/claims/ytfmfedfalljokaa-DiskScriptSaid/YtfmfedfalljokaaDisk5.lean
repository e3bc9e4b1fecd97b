/-
  The disk read out: what waits, what lasts; armed, and flushed.
-/
import Derived.Test.YtfmfedfalljokaaDisk4
namespace Go.Proofs.Ytfmfedfalljokaa
open Go.RowKit

theorem DiskIn.waitAt {F : Nat → Prop} {w : World} {g : Nat} {d : DiskS} {fv av rv : Value} {fvs : List Value} {ws : List (Int × Value)} {A : Option Addr} {n c : Nat}
    (h : DiskIn F w g d fv (.slice A n c) av rv fvs ws) (hn : n = d.waits.length) {k : Nat} (hk : k < n) :
    ∃ gw q x B cb, A = some ⟨gw, 0, none⟩ ∧ d.waits[k]? = some (q, x) ∧ w.cell? ⟨gw, k * 2, none⟩ = some (.int .i64 q) ∧ w.cell? ⟨gw, k * 2 + 1, none⟩ = some (.slice B x.length cb) ∧ ByteIn F w (.slice B x.length cb) x := by
  subst hn
  obtain ⟨p, ⟨q, x⟩, hp, hq, hpq, hbq⟩ := h.waitss.get hk
  simp only at hpq hbq
  have hwl := h.waits
  rcases Own.slice hwl with ⟨_, h0, _⟩ | ⟨gw, cw, e, hcw, hgw⟩
  · exact absurd h0 (by omega)
  obtain ⟨rfl, rfl⟩ : A = some ⟨gw, 0, none⟩ ∧ c = cw := by injection e with e1 e2 e3; exact ⟨e1, e3⟩
  obtain ⟨w0, w1⟩ := wcells_get ws k p hp
  obtain ⟨B, cb, e, _, _⟩ := Own.rd hbq.1
  refine ⟨gw, q, x, B, cb, rfl, hq, ?_, ?_, by rw [← e]; exact hbq⟩
  · rw [World.ownsRow.cellAt hwl (k * 2) (by omega), w0, hpq]
  · rw [World.ownsRow.cellAt hwl (k * 2 + 1) (by omega), w1, e]

theorem map_take_succ {α β : Type} {l : List α} {f : α → β} {k : Nat} {x : α} (h : l[k]? = some x) : (l.take k).map f ++ [f x] = (l.take (k + 1)).map f := by
  obtain ⟨hk, rfl⟩ := List.getElem?_eq_some_iff.1 h
  rw [List.take_succ_eq_append_getElem hk, List.map_append]
  rfl

set_option maxHeartbeats 1000000 in
theorem Waiting_calls {F : Nat → Prop} {w : World} {g : Nat} {d : DiskS} (h : DiskAt F w g d) (hn : d.waits.length ≤ 1000000) :
    Calls Try.prog 27 #[ptr g] w fun e w' => ∃ v, e = .returned v ∧ NewB w w' 3 .i64 v d.waits.length (d.waits.map (·.1)) := by
  obtain ⟨fv, wv, av, rv, fvs, ws, h⟩ := h
  obtain ⟨-, c1, -, -, -, -⟩ := h.cells
  obtain ⟨A, c, rfl, hc, hr⟩ := Own.rd h.waits
  go_enter Try.func27, Try.ntmps27
  go_wp2
  go_loopw [3, 13] (fun v i wr => ∃ k : Nat, k ≤ d.waits.length ∧ i = .int .i64 k ∧ NewB w wr 3 .i64 v k ((d.waits.take k).map (·.1))) (fun _ i _ => d.waits.length - (intOf i).toNat)
  case atStart => exact ⟨0, Nat.zero_le _, rfl, Own.nil _ _ _, Keep.refl _ _, freshV_none _ _ _⟩
  case round =>
    obtain ⟨k, hk, rfl, hnew⟩ := hrel
    by_cases hlt : k < d.waits.length
    · obtain ⟨gw, q, x, B, cb, rfl, hq, hc0, hc1, _⟩ := (h.keep hnew.2.1 (fun _ _ f => f)).waitAt rfl hlt
      have hi0 : (0 : Int) ≤ (k : Int) := Int.natCast_nonneg _
      have hi1 : (k : Int) < (d.waits.length : Int) := by omega
      have HQ := Lib.hid hq; clear hq
      go_wp2_with (first | (at_builtin; refine app_int (l := (d.waits.take k).map (·.1)) rfl _ _ rfl ((hnew.1.alloc _).alloc _) rfl (Rd.one' _ _ _ _ (wr.heap.size + 1) (by simp)) rfl (by omega) ?_; intro v1 w1 ho1 hg1 hb1))
      rw [map_take_succ (f := (·.1)) HQ.out] at ho1
      go_roundw
      case rel => exact ⟨k + 1, by omega, by go_num, newB_app ((hnew.2.1.alloc _).alloc _) hnew.2.2 ho1 hg1 hb1⟩
      case measure => simp [intOf]; omega
    · go_wp2
      go_ret
      obtain rfl : k = d.waits.length := by omega
      rw [List.take_length] at hnew
      exact ⟨_, rfl, hnew⟩

/-- A list of byte slices of the call's own: rows of its own. -/
def NewL (w w' : World) (v : Value) (vs : List Value) (ls : List (List Int)) : Prop := Own w' 28 1 v ls.length vs ∧ All2 (ByteIn (fun b => w.heap.size ≤ b) w') vs ls ∧ Fresh w w' ∧ FreshV w v

theorem NewL.more {w W W2 w1 : World} {v0 v1 v2 : Value} {vs : List Value} {ls : List (List Int)} {l : List Int} {n : Nat} {o : Obj} (h : NewL w W v0 vs ls) (hn : NewB W W2 5 .u8 v2 n l)
    (ho : Own w1 28 1 v1 (ls.length + 1) (vs ++ [v2])) (hg : (W2.alloc o).grownBy w1 v0.ownBlock) (hb : v1.ownBlock = v0.ownBlock ∨ v1.ownBlock = some (W2.alloc o).heap.size) : NewL w w1 v1 (vs ++ [v2]) (ls ++ [l]) := by
  obtain ⟨h1, h2, h3, h4⟩ := h
  have k2 : Fresh W (W2.alloc o) := hn.2.1.alloc o
  have hown := own_keep h1 k2 (fun _ _ f => f)
  have kW : Keep (OfType (W2.alloc o) 28) (W2.alloc o) w1 := (Keep.refl _ _).grown hg (fun k hk _ => own_ofType hown hk)
  have hs := h3.size
  refine ⟨by simpa using ho, (h2.imp fun _ _ _ _ r => (r.fresh k2).ty kW (by decide)).snoc ?_, (h3.trans k2 (fun _ _ f => f)).grown hg (fun k hk hlt => by have := h4 k hk; omega), fun k hk => ?_⟩
  · exact ((hn.byteIn.fresh ((Keep.refl (fun _ => False) W2).alloc o)).ty kW (by decide)).mono (fun b hb => Nat.le_trans hs hb)
  · rcases hb with hb | hb
    · exact h4 k (hb ▸ hk)
    · have := k2.size
      rw [hb] at hk
      injection hk with hk
      omega

theorem take_succ_get {α : Type} {l : List α} {k : Nat} {x : α} (h : l[k]? = some x) : l.take k ++ [x] = l.take (k + 1) := by
  obtain ⟨hk, rfl⟩ := List.getElem?_eq_some_iff.1 h
  rw [List.take_succ_eq_append_getElem hk]

set_option maxHeartbeats 1000000 in
theorem Image_calls {F : Nat → Prop} {w : World} {g : Nat} {d : DiskS} (h : DiskAt F w g d) (hn : d.firm.length ≤ 1000000) (hb : ∀ l ∈ d.firm, l.length ≤ 1000000) :
    Calls Try.prog 19 #[ptr g] w fun e w' => ∃ v vs, e = .returned v ∧ NewL w w' v vs d.firm := by
  obtain ⟨fv, wv, av, rv, fvs, ws, h⟩ := h
  obtain ⟨c0, -, -, -, -, -⟩ := h.cells
  obtain ⟨A, c, rfl, hc, hr⟩ := Own.rd h.firm
  go_enter Try.func19, Try.ntmps19
  go_wp2
  go_loopw [3, 13] (fun v i wr => ∃ (k : Nat) (vs : List Value), k ≤ d.firm.length ∧ i = .int .i64 k ∧ NewL w wr v vs (d.firm.take k)) (fun _ i _ => d.firm.length - (intOf i).toNat)
  case atStart => exact ⟨0, [], Nat.zero_le _, rfl, Own.nil _ _ _, All2.nil, Keep.refl _ _, freshV_none _ _ _⟩
  case round =>
    obtain ⟨k, vs, hk, rfl, hnew⟩ := hrel
    by_cases hlt : k < d.firm.length
    · have hrr := hr.fresh hnew.2.2.1
      obtain ⟨ad, rfl, u, hu, hcu⟩ := hrr.at_ hlt
      obtain ⟨x, l, hx, hl, hbx⟩ := h.firms.get hlt
      rw [hu] at hx
      injection hx with hx
      subst hx
      have hbx' := hbx.fresh hnew.2.2.1
      obtain ⟨B, cb, rfl, _, hrb⟩ := Own.rd hbx'.1
      have hll := hb l (List.mem_of_getElem? hl)
      have hi0 : (0 : Int) ≤ (k : Int) := Int.natCast_nonneg _
      have hi1 : (k : Int) < (d.firm.length : Int) := by omega
      have HL := Lib.hid hl; clear hl
      have hlk : (d.firm.take k).length = k := by simp; omega
      have HLK := Lib.hid hlk; clear hlk
      go_wp2_with (first | (go_at_call 52; refine (shape_of (CloneB_calls _ hrb (by omega))).mono ?_; rintro e w2 ⟨B2, k2, rfl, hn2⟩) | (at_builtin; refine app_bytes rfl _ _ rfl ((own_keep hnew.1 hn2.2.1 (fun _ _ f => f)).alloc _) rfl (Rd.lit _ [.slice B2 l.length k2] _ 1 1 rfl (by omega)) rfl (by simp [Value.oneCell']) (by rw [HLK.out]; omega) ?_; intro v3 w3 ho3 hg3 hb3))
      have hmore := hnew.more hn2 ho3 hg3 hb3
      rw [take_succ_get HL.out] at hmore
      go_roundw
      case rel => exact ⟨k + 1, _, by omega, by go_num, hmore⟩
      case measure => simp [intOf]; omega
    · go_wp2
      go_ret
      obtain rfl : k = d.firm.length := by omega
      rw [List.take_length] at hnew
      exact ⟨_, _, rfl, hnew⟩

/-! ### armed -/
theorem info_bool : (Try.prog.info? 4).map (fun i => (i.zero, i.size, i.bytes)) = some (some (.bool false), 1, 1) := by kernel_rfl
def NewO (w w' : World) (e : TypeId) (v : Value) (n : Nat) (xs : List Value) : Prop := Own w' e 1 v n xs ∧ Fresh w w' ∧ FreshV w v
theorem newO_app {w W w1 : World} {e : TypeId} {v0 v1 : Value} {n : Nat} {xs : List Value} (hW : Fresh w W) (h0 : FreshV w v0) (ho1 : Own w1 e 1 v1 n xs) (hg1 : W.grownBy w1 v0.ownBlock)
    (hb1 : v1.ownBlock = v0.ownBlock ∨ v1.ownBlock = some W.heap.size) : NewO w w1 e v1 n xs :=
  ⟨ho1, hW.grown hg1 (fun k hk hlt => by have := h0 k hk; omega), fun k hk => by
    rcases hb1 with hb1 | hb1
    · exact h0 k (hb1 ▸ hk)
    · have := hW.size
      rw [hb1] at hk
      injection hk with hk
      omega⟩
theorem bv_one (l : List Bool) : ∀ u ∈ bv l, u.oneCell' = true := by
  intro u hu
  simp only [bv, List.mem_map] at hu
  obtain ⟨x, _, rfl⟩ := hu
  rfl
set_option maxHeartbeats 400000 in
theorem CloneO_calls (w : World) {A : Option Addr} {n c : Nat} {l : List Bool} (h1 : Rd w 1 A n (bv l)) (hn : n ≤ 140737488355328) :
    Calls Try.prog 55 #[.slice A n c] w fun e w' => ∃ v, e = .returned v ∧ NewO w w' 4 v n (bv l) := by
  rcases A with _ | ad
  · have h0 := h1.nil_zero
    subst h0
    obtain rfl : l = [] := by
      have := h1.1
      exact List.eq_nil_of_length_eq_zero (by simpa [bv] using this)
    have hq := fun (w : World) (a : Option Addr) (n c : Nat) => Lib.run_eql_slice_nil (P := Try.prog) w 29 4 a n c 0 0 Try.underlying29
    go_enter Try.func55, Try.ntmps55
    go_wp2
    go_ret
    exact ⟨_, rfl, Own.nil _ _ _, Keep.refl _ _, freshV_none _ _ _⟩
  · have hq := fun (w : World) (a : Option Addr) (n c : Nat) => Lib.run_eql_slice_nil (P := Try.prog) w 29 4 a n c 0 0 Try.underlying29
    go_enter Try.func55, Try.ntmps55
    go_wp2_with (first | (at_builtin; refine wpList_app (xs := []) _ rfl _ _ 29 rfl 4 _ 1 1 Try.underlying29 info_bool rfl (by decide) (World.ownsRow_made w #[] 0 (Nat.zero_le _) (by simp [maxLen]) (by simp)) rfl (h1.alloc _) rfl (bv_one _) (by omega) (by omega) ?_; intro v1 w1 ho1 hg1 hb1))
    go_ret
    simp only [Nat.zero_add, List.nil_append] at ho1
    exact ⟨v1, rfl, newO_app ((Keep.refl _ w).alloc _) (freshV_new _ _ _ _ _) ho1 hg1 hb1⟩

theorem DiskIn.arm {F : Nat → Prop} {w w2 w3 : World} {g : Nat} {d : DiskS} {fv wv av rv v2 : Value} {fvs : List Value} {ws : List (Int × Value)} {n : Nat} {l : List Bool} (h : DiskIn F w g d fv wv av rv fvs ws) (x : Int) (hl : l.length = n)
    (hn : NewO w w2 4 v2 n (bv l)) (hw3 : w3 = (w2.alloc (.cells #[.int .i64 x, v2] 95)).setCell ⟨g, 3, none⟩ (ptr w2.heap.size)) :
    DiskIn (Grow F w w3) w3 g { d with armed := some (x, l) } fv wv (ptr w2.heap.size) rv fvs ws ∧ Keep F w w3 := by
  subst hl
  have h2 := h.keep hn.2.1 (fun _ _ f => f)
  have h2a := h2.keep ((Keep.refl (fun _ => False) w2).alloc (.cells #[.int .i64 x, v2] 95)) (fun _ _ f => f)
  have kG : Keep (OfType (w2.alloc (.cells #[.int .i64 x, v2] 95)) 83) (w2.alloc (.cells #[.int .i64 x, v2] 95)) w3 := by rw [hw3]; exact (Keep.refl _ _).setCell (p := ⟨g, 3, none⟩) (fun _ => h2a.blk.ofType) _
  have kAll : Keep F w w3 := by rw [hw3]; exact ((hn.2.1.any F).alloc _).setCell (p := ⟨g, 3, none⟩) (fun _ => h.fg) _
  have hsz : w3.heap.size = w2.heap.size + 1 := by rw [hw3]; simp [World.setCell]
  have hs2 := hn.2.1.size
  have hblk : Blk w3 g 83 #[fv, wv, .bool d.on, ptr w2.heap.size, rv, .int .i64 d.flushes] := by rw [hw3]; simpa using h2a.blk.set_ 3 (ptr w2.heap.size)
  refine ⟨?_, kAll⟩
  have up : ∀ b, F b → Grow F w w3 b := fun b hb => .inl hb
  exact { blk := hblk, fg := .inl h.fg, inf := h.inf.grow, inw := h.inw.grow, inr := h.inr.grow
          firm := own_ty h2a.firm kG (by decide), firms := h2a.firms.imp fun _ _ _ _ r => (r.ty kG (by decide)).mono up
          waits := own_ty h2a.waits kG (by decide), waitss := h2a.waitss.imp fun _ _ _ _ r => ⟨r.1, (r.2.ty kG (by decide)).mono up⟩
          armed := ⟨w2.heap.size, v2, rfl, .inr ⟨hs2, by omega⟩, (Blk.new w2 95 #[.int .i64 x, v2]).ty kG (by decide), own_ty (hn.1.alloc _) kG (by decide),
            fun k hk => .inr ⟨hn.2.2 k hk, by have := own_lt hn.1 hk; omega⟩⟩
          writes := own_ty h2a.writes kG (by decide)
          low := fun b hb => hb.elim (fun hb => Nat.lt_of_lt_of_le (h.low b hb) kAll.size) (fun hb => hb.2) }

def APost (F : Nat → Prop) (w : World) (g : Nat) (d : DiskS) (x : Int) (l : List Bool) (e : Ending) (w' : World) : Prop :=
  e = .returned (.int .i64 (d.arm x l).1) ∧ DiskAt (Grow F w w') w' g (d.arm x l).2 ∧ Keep F w w'

set_option maxHeartbeats 1000000 in
theorem Arm_calls {F : Nat → Prop} {w : World} {g : Nat} {d : DiskS} {A : Option Addr} {n c : Nat} {l : List Bool} (h : DiskAt F w g d) (x : Int) (hr : Rd w 1 A n (bv l)) (hn : n ≤ 140737488355328) :
    Calls Try.prog 24 #[ptr g, .int .i64 x, .slice A n c] w (APost F w g d x l) := by
  have hln : l.length = n := by have := hr.1; simpa [bv] using this
  by_cases hask : d.asked (decide (0 ≤ x)) = 0
  · have hval : Hid (d.arm x l = (0, { d with armed := some (x, l) })) := by unfold Hid DiskS.arm; rw [if_pos hask]
    have hx : 0 ≤ x := by
      by_cases hx : 0 ≤ x
      · exact hx
      · simp only [decide_eq_false hx] at hask; exact absurd hask (asked_ne d)
    have hasked : d.asked true = 0 := by rw [decide_eq_true hx] at hask; exact hask
    clear hask
    have H := h
    obtain ⟨fv, wv, av, rv, fvs, ws, h⟩ := h
    obtain ⟨-, -, -, c3, -, -⟩ := h.cells
    have f3 := h.blk.frozen 3
    have HLN := Lib.hid hln; clear hln
    go_enter Try.func24, Try.ntmps24
    go_wp2_with (first | (go_at_call 49; refine (asked_calls H _).mono ?_; rintro e w' ⟨rfl, rfl⟩) | (go_at_call 55; refine (CloneO_calls _ hr hn).mono ?_; rintro e w2 ⟨v2, rfl, hn2⟩; obtain ⟨B2, k2, rfl⟩ := Own.shape hn2.1; have d3 := alloc_cell ((h.blk.fresh hn2.2.1).at_ 3 rfl); have e3 := alloc_frozen (h.blk.fresh hn2.2.1).lt ((h.blk.fresh hn2.2.1).frozen 3)))
    go_ret
    unfold APost
    rw [hval.out]
    refine ⟨rfl, ?_⟩
    have hl2 : l.length = n := HLN.out
    obtain ⟨hx1, hx2⟩ := h.arm x hl2 hn2 rfl
    exact ⟨⟨_, _, _, _, _, _, hx1⟩, hx2⟩
  · have hval : Hid (d.arm x l = (d.asked (decide (0 ≤ x)), d)) := by unfold Hid DiskS.arm; rw [if_neg hask]
    have hne : (d.asked (decide (0 ≤ x)) != 0) = true := by rw [bne_iff_ne]; exact hask
    clear hask
    go_enter Try.func24, Try.ntmps24
    go_wp2_with (first | (go_at_call 49; refine (asked_calls h _).mono ?_; rintro e w' ⟨rfl, rfl⟩))
    go_ret
    unfold APost
    rw [hval.out]
    exact ⟨rfl, h.grow (Nat.le_refl _), Keep.refl _ _⟩

/-! ### flushed -/
theorem layAll_take (ws : List (Int × List Int)) (firm : List (List Int)) {k : Nat} {p : Int × List Int} (h : ws[k]? = some p) :
    DiskS.layAll (ws.take (k + 1)) firm = DiskS.layOne (DiskS.layAll (ws.take k) firm) p := by
  rw [← take_succ_get h]
  simp [DiskS.layAll]
theorem layAll_length (ws : List (Int × List Int)) : ∀ (firm : List (List Int)), (DiskS.layAll ws firm).length = firm.length := by
  induction ws with
  | nil => intro firm; rfl
  | cons p ws ih => intro firm; simp only [DiskS.layAll, List.foldl_cons] at *; rw [ih]; simp [DiskS.layOne]

def FPost (F : Nat → Prop) (w : World) (g : Nat) (d : DiskS) (e : Ending) (w' : World) : Prop :=
  e = .returned (.int .i64 d.flush.1) ∧ DiskAt F w' g d.flush.2 ∧ Keep F w w'

/-- All that waited is firm. -/
theorem DiskIn.dry {F : Nat → Prop} {w w' : World} {g : Nat} {d : DiskS} {fv wv av rv : Value} {fvs : List Value} {ws : List (Int × Value)} (h : DiskIn F w g d fv wv av rv fvs ws) {fl : Int}
    (hk : Keep (OfType w 83) w w') (hb : Blk w' g 83 #[fv, .slice none 0 0, .bool d.on, av, rv, .int .i64 fl]) :
    DiskIn F w' g { d with waits := [], flushes := fl } fv (.slice none 0 0) av rv fvs [] :=
  { blk := hb, fg := h.fg, inf := h.inf, inw := In.none, inr := h.inr
    firm := own_ty h.firm hk (by decide), firms := h.firms.imp fun _ _ _ _ r => r.ty hk (by decide)
    waits := Own.nil _ _ _, waitss := All2.nil
    armed := h.armed.ty hk (by decide) (by decide)
    writes := own_ty h.writes hk (by decide), low := fun b hb => Nat.lt_of_lt_of_le (h.low b hb) hk.size }

set_option maxRecDepth 100000 in
set_option maxHeartbeats 1600000 in
theorem Flush_calls {F : Nat → Prop} {w : World} {g : Nat} {d : DiskS} (h : DiskAt F w g d) (hok : d.Ok) (hf0 : 0 ≤ d.flushes) (hf1 : d.flushes ≤ 1000000) :
    Calls Try.prog 25 #[ptr g] w (FPost F w g d) := by
  by_cases hask : d.asked true = 0
  · have hval : Hid (d.flush = (if d.falls.1 then (4, d.falls.2) else (0, { d.falls.2 with firm := DiskS.layAll d.falls.2.waits d.falls.2.firm, waits := [], flushes := d.falls.2.flushes + 1 }))) := by unfold Hid DiskS.flush; rw [if_pos hask]
    rcases hfa : d.falls.1 with _ | _
    · have HS := Lib.hid (DiskS.falls_same d hfa)
      have HFA := Lib.hid hfa
      clear hfa
      have hok2 := DiskS.falls_ok d hok
      go_enter Try.func25, Try.ntmps25
      go_upto_region 6 with (first | (go_at_call 49; refine (asked_calls h _).mono ?_; rintro e w' ⟨rfl, rfl⟩) | (go_at_call 51; refine (falls_calls h hok).mono ?_; rintro e w1 ⟨rfl, hd1, hk1⟩; rw [HFA.out]))
      have hfl5 : 0 ≤ d.falls.2.flushes ∧ d.falls.2.flushes ≤ 1000000 := by rw [HS.out.2.2.2.2]; exact ⟨hf0, hf1⟩
      obtain ⟨D, HD⟩ : ∃ D, D = d.falls.2 := ⟨_, rfl⟩
      rw [← HD] at hd1 hok2 hfl5
      have HDD := Lib.hid HD
      clear HD hok
      obtain ⟨hfl5a, hfl5b⟩ := hfl5
      obtain ⟨fv, wv, av, rv, fvs, ws, h1⟩ := hd1
      obtain ⟨c0, c1, c2, c3, c4, c5⟩ := h1.cells
      obtain ⟨A, c, rfl, hc, hr⟩ := Own.rd h1.waits
      have hle := hr.le
      go_wp2
      go_loopw [18] (fun i wr => ∃ (k : Nat) (fvs' : List Value), k ≤ D.waits.length ∧ i = .int .i64 k ∧ DiskIn F wr g { D with firm := DiskS.layAll (D.waits.take k) D.firm } fv (.slice A D.waits.length c) av rv fvs' ws ∧
          Keep (fun b => F b ∧ OfType w1 28 b) w1 wr) (fun i _ => D.waits.length - (intOf i).toNat)
      case atStart => exact ⟨0, fvs, Nat.zero_le _, rfl, by simpa [DiskS.layAll] using h1, Keep.refl _ _⟩
      case round =>
        obtain ⟨k, fvs', hkm, rfl, hd, hkeep⟩ := hrel
        by_cases hlt : k < D.waits.length
        · obtain ⟨gw, q1, q2, pb, px, rfl, hq, hc0, hc1, hbq⟩ := hd.waitAt rfl hlt
          have hqr := hok2.fit _ (List.mem_of_getElem? hq)
          obtain ⟨qi, rfl⟩ : ∃ n : Nat, q1 = n := Int.eq_ofNat_of_zero_le hqr.1
          have hqn : qi < D.firm.length := by have := hqr.2; simp only at this; omega
          have hfl : Own wr 28 1 fv (DiskS.layAll (D.waits.take k) D.firm).length fvs' := hd.firm
          rw [layAll_length] at hfl
          rcases Own.slice hfl with ⟨_, h0, _⟩ | ⟨gf, cf, rfl, hcf, hgf⟩
          · exact absurd h0 (by omega)
          have hi0 : (0 : Int) ≤ (k : Int) := Int.natCast_nonneg _
          have hi1 : (k : Int) < (D.waits.length : Int) := by omega
          have HQ := Lib.hid hq; clear hq hqr
          obtain ⟨c0, -, -, -, -, -⟩ := hd.cells
          have hj0 : (0 : Int) ≤ (qi : Int) := Int.natCast_nonneg _
          have hj1 : (qi : Int) < (D.firm.length : Int) := by omega
          have hfz : wr.frozen? ⟨gf, qi, none⟩ = false := World.ownsRow.frozenAt hfl qi
          have hsome : ∃ x, fvs'[qi]? = some x := ⟨fvs'[qi]'(by have := hfl.1; omega), List.getElem?_eq_getElem _⟩
          obtain ⟨x0, hx0⟩ := hsome
          have hcf0 : wr.cell? ⟨gf, qi, none⟩ = some x0 := (World.ownsRow.cellAt hfl qi (by omega)).trans hx0
          clear hx0
          have cA0 := alloc_cell c0
          have cA1 := alloc_cell hcf0
          have fA := alloc_frozen hgf hfz
          go_wp2
          go_region
          all_goals go_wp2
          go_roundw
          case rel =>
            refine ⟨k + 1, fvs'.set qi (.slice pb q2.length px), by omega, by go_num, ?_, ?_⟩
            · rw [layAll_take _ _ HQ.out]
              exact (hd.firmSet (i := qi) (by rw [layAll_length]) hbq).keep (((Keep.refl (fun _ => False) _).alloc _).drew) (fun _ _ f => f)
            · exact (((hkeep.setCell (p := ⟨gf, qi, none⟩) (fun hl => ⟨hd.inf gf rfl, own_ofType h1.firm rfl⟩) _).alloc _).drew)
          case measure => simp [intOf]; omega
        · obtain ⟨c0, c1, c2, c3, c4, c5⟩ := hd.cells
          have f1 := hd.blk.frozen 1
          have f5 := hd.blk.frozen 5
          go_wp2
          go_ret
          have hkl : k = D.waits.length := by omega
          subst hkl
          rw [List.take_length] at hd
          unfold FPost
          rw [hval.out, if_neg (by rw [HFA.out]; simp), ← HDD.out]
          refine ⟨rfl, ⟨_, _, _, _, _, _, hd.dry (fl := D.flushes + 1) ?_ ?_⟩, ?_⟩
          · exact ((Keep.refl _ wr).setCell (p := ⟨g, 1, none⟩) (fun _ => hd.blk.ofType) _).setCell (p := ⟨g, 5, none⟩) (fun _ => hd.blk.ofType) _
          · simpa using (hd.blk.set_ 1 (.slice none 0 0)).set_ 5 (.int .i64 (D.flushes + 1))
          · exact ((hk1.trans (hkeep.mono (fun b _ hb => hb.1)) (fun b _ hb => hb)).setCell (p := ⟨g, 1, none⟩) (fun _ => hd.fg) _).setCell (p := ⟨g, 5, none⟩) (fun _ => hd.fg) _
    · have HFA := Lib.hid hfa
      clear hfa
      go_enter Try.func25, Try.ntmps25
      go_wp2_with (first | (go_at_call 49; refine (asked_calls h _).mono ?_; rintro e w' ⟨rfl, rfl⟩) | (go_at_call 51; refine (falls_calls h hok).mono ?_; rintro e w1 ⟨rfl, hd1, hk1⟩; rw [HFA.out]))
      go_ret
      unfold FPost
      rw [hval.out, if_pos HFA.out]
      exact ⟨rfl, hd1, hk1⟩
  · have hval : Hid (d.flush = (d.asked true, d)) := by unfold Hid DiskS.flush; rw [if_neg hask]
    have hne : (d.asked true != 0) = true := by rw [bne_iff_ne]; exact hask
    clear hask
    go_enter Try.func25, Try.ntmps25
    go_wp2_with (first | (go_at_call 49; refine (asked_calls h _).mono ?_; rintro e w' ⟨rfl, rfl⟩))
    go_ret
    unfold FPost
    rw [hval.out]
    exact ⟨rfl, h, Keep.refl _ _⟩
end Go.Proofs.Ytfmfedfalljokaa
