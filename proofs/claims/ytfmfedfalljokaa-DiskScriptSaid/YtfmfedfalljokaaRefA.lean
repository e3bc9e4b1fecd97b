/-
  The document's own disk in memory, as the same plain thing; its small methods, and a crash, walked.
-/
import Derived.BigRegion
import Derived.Test.YtfmfedfalljokaaDisk9
namespace Go.Proofs.Ytfmfedfalljokaa
open Go.RowKit

theorem info_wait : (Try.prog.info? 99).map (fun i => (i.zero, i.size, i.bytes)) = some (some (.agg #[.int .i64 0, .slice none 0 0]), 2, 32) := by kernel_rfl

def ArmR (w : World) (kv : Value) (left : Int) : Option (Int × List Bool) → Prop
  | none => left = -1 ∧ ∃ l : List Bool, Own w 4 1 kv l.length (bv l)
  | some (n, keep) => left = n ∧ 0 ≤ n ∧ Own w 4 1 kv keep.length (bv keep)
theorem ArmR.any {w : World} {kv : Value} {left : Int} {o : Option (Int × List Bool)} (h : ArmR w kv left o) : ∃ l : List Bool, Own w 4 1 kv l.length (bv l) := by
  rcases o with _ | ⟨n, keep⟩
  · exact h.2
  · exact ⟨keep, h.2.2⟩
theorem ArmR.keep {S : Nat → Prop} {w w' : World} {kv : Value} {left : Int} {o : Option (Int × List Bool)} (h : ArmR w kv left o) (hk : Keep S w w') (hS : ∀ k, kv.ownBlock = some k → ¬ S k) : ArmR w' kv left o := by
  rcases o with _ | ⟨n, keep⟩
  · obtain ⟨h1, l, h2⟩ := h
    exact ⟨h1, l, own_keep h2 hk hS⟩
  · exact ⟨h.1, h.2.1, own_keep h.2.2 hk hS⟩
theorem ArmR.ty {w w' : World} {t : TypeId} {kv : Value} {left : Int} {o : Option (Int × List Bool)} (h : ArmR w kv left o) (hk : Keep (OfType w t) w w') (h2 : 4 ≠ t) : ArmR w' kv left o := by
  obtain ⟨l, ho⟩ := h.any
  exact h.keep hk (fun k hb hs => h2 ((own_ofType ho hb).uniq hs))

structure RefIn (F : Nat → Prop) (w : World) (g : Nat) (d : DiskS) (fv wv kv rv : Value) (left : Int) (fvs : List Value) (ws : List (Int × Value)) : Prop where
  blk : Blk w g 56 #[fv, wv, .bool (!d.on), .int .i64 left, .int .i64 d.flushes, kv, rv]
  fg : F g
  inf : In F fv
  inw : In F wv
  inr : In F rv
  ink : In F kv
  firm : Own w 28 1 fv d.firm.length fvs
  firms : All2 (ByteIn F w) fvs d.firm
  waits : Own w 99 2 wv d.waits.length (wcells ws)
  waitss : All2 (fun (p : Int × Value) (q : Int × List Int) => p.1 = q.1 ∧ ByteIn F w p.2 q.2) ws d.waits
  armed : ArmR w kv left d.armed
  writes : Own w 3 1 rv d.writes.length (iv .i64 d.writes)
  low : ∀ b, F b → b < w.heap.size
def RefAt (F : Nat → Prop) (w : World) (g : Nat) (d : DiskS) : Prop := ∃ fv wv kv rv left fvs ws, RefIn F w g d fv wv kv rv left fvs ws

section
variable {F G S : Nat → Prop} {w w' : World} {g : Nat} {d : DiskS} {fv wv kv rv : Value} {left : Int} {fvs : List Value} {ws : List (Int × Value)}
theorem RefIn.keep (h : RefIn F w g d fv wv kv rv left fvs ws) (hk : Keep S w w') (hS : ∀ b, F b → ¬ S b) : RefIn F w' g d fv wv kv rv left fvs ws :=
  { blk := h.blk.keep hk (hS _ h.fg), fg := h.fg, inf := h.inf, inw := h.inw, inr := h.inr, ink := h.ink
    firm := own_keep h.firm hk (fun k e => hS k (h.inf k e)), firms := h.firms.imp fun _ _ _ _ r => r.keep hk hS
    waits := own_keep h.waits hk (fun k e => hS k (h.inw k e)), waitss := h.waitss.imp fun _ _ _ _ r => ⟨r.1, r.2.keep hk hS⟩
    armed := h.armed.keep hk (fun k e => hS k (h.ink k e)), writes := own_keep h.writes hk (fun k e => hS k (h.inr k e)), low := fun b hb => Nat.lt_of_lt_of_le (h.low b hb) hk.size }
theorem RefAt.keep (h : RefAt F w g d) (hk : Keep S w w') (hS : ∀ b, F b → ¬ S b) : RefAt F w' g d := by
  obtain ⟨fv, wv, kv, rv, left, fvs, ws, h⟩ := h
  exact ⟨fv, wv, kv, rv, left, fvs, ws, h.keep hk hS⟩
theorem RefAt.fresh (h : RefAt F w g d) (hk : Fresh w w') : RefAt F w' g d := h.keep hk (fun _ _ f => f)
theorem RefAt.low (h : RefAt F w g d) : ∀ b, F b → b < w.heap.size := by
  obtain ⟨fv, wv, kv, rv, left, fvs, ws, h⟩ := h
  exact h.low
theorem RefIn.mono (h : RefIn F w g d fv wv kv rv left fvs ws) (hk : ∀ b, F b → G b) (hl : ∀ b, G b → b < w.heap.size) : RefIn G w g d fv wv kv rv left fvs ws :=
  { blk := h.blk, fg := hk _ h.fg, inf := h.inf.mono hk, inw := h.inw.mono hk, inr := h.inr.mono hk, ink := h.ink.mono hk, firm := h.firm, firms := h.firms.imp fun _ _ _ _ r => r.mono hk
    waits := h.waits, waitss := h.waitss.imp fun _ _ _ _ r => ⟨r.1, r.2.mono hk⟩, armed := h.armed, writes := h.writes, low := hl }
theorem RefIn.cells (h : RefIn F w g d fv wv kv rv left fvs ws) :
    w.cell? ⟨g, 0, none⟩ = some fv ∧ w.cell? ⟨g, 1, none⟩ = some wv ∧ w.cell? ⟨g, 2, none⟩ = some (.bool (!d.on)) ∧ w.cell? ⟨g, 3, none⟩ = some (.int .i64 left) ∧ w.cell? ⟨g, 4, none⟩ = some (.int .i64 d.flushes) ∧ w.cell? ⟨g, 5, none⟩ = some kv ∧ w.cell? ⟨g, 6, none⟩ = some rv :=
  ⟨h.blk.cell 0, h.blk.cell 1, h.blk.cell 2, h.blk.cell 3, h.blk.cell 4, h.blk.cell 5, h.blk.cell 6⟩
/-- A block of the disk's own kind has been written. -/
theorem RefIn.self (h : RefIn F w g d fv wv kv rv left fvs ws) (hk : Keep (OfType w 56) w w') {on : Bool} {fl left' : Int} {a : Option (Int × List Bool)} (hb : Blk w' g 56 #[fv, wv, .bool (!on), .int .i64 left', .int .i64 fl, kv, rv]) (ha : ArmR w kv left' a) :
    RefIn F w' g { d with on := on, flushes := fl, armed := a } fv wv kv rv left' fvs ws :=
  { blk := hb, fg := h.fg, inf := h.inf, inw := h.inw, inr := h.inr, ink := h.ink
    firm := own_ty h.firm hk (by decide), firms := h.firms.imp fun _ _ _ _ r => r.ty hk (by decide)
    waits := own_ty h.waits hk (by decide), waitss := h.waitss.imp fun _ _ _ _ r => ⟨r.1, r.2.ty hk (by decide)⟩
    armed := ha.ty hk (by decide)
    writes := own_ty h.writes hk (by decide), low := fun b hb => Nat.lt_of_lt_of_le (h.low b hb) hk.size }
/-- Likewise; nothing waits. -/
theorem RefIn.dark (h : RefIn F w g d fv wv kv rv left fvs ws) (hk : Keep (OfType w 56) w w') {on : Bool} {fl left' : Int} {a : Option (Int × List Bool)} (hb : Blk w' g 56 #[fv, .slice none 0 0, .bool (!on), .int .i64 left', .int .i64 fl, kv, rv]) (ha : ArmR w kv left' a) :
    RefIn F w' g { d with waits := [], on := on, flushes := fl, armed := a } fv (.slice none 0 0) kv rv left' fvs [] :=
  { blk := hb, fg := h.fg, inf := h.inf, inw := In.none, inr := h.inr, ink := h.ink
    firm := own_ty h.firm hk (by decide), firms := h.firms.imp fun _ _ _ _ r => r.ty hk (by decide)
    waits := Own.nil _ _ _, waitss := All2.nil
    armed := ha.ty hk (by decide)
    writes := own_ty h.writes hk (by decide), low := fun b hb => Nat.lt_of_lt_of_le (h.low b hb) hk.size }
theorem RefIn.firmSet {gf cf i n : Nat} {x : Value} {l : List Int} (h : RefIn F w g d (.slice (some ⟨gf, 0, none⟩) n cf) wv kv rv left fvs ws) (hn : n = d.firm.length) (hx : ByteIn F w x l) :
    RefIn F (w.setCell ⟨gf, i, none⟩ x) g { d with firm := d.firm.set i l } (.slice (some ⟨gf, 0, none⟩) n cf) wv kv rv left (fvs.set i x) ws := by
  subst hn
  have hk : Keep (OfType w 28) w (w.setCell ⟨gf, i, none⟩ x) := (Keep.refl _ w).setCell (p := ⟨gf, i, none⟩) (fun _ => own_ofType h.firm rfl) x
  have hb : ∀ v l, ByteIn F w v l → ByteIn F (w.setCell ⟨gf, i, none⟩ x) v l := fun v l r => r.ty hk (by decide)
  exact { blk := h.blk.ty hk (by decide), fg := h.fg, inf := h.inf, inw := h.inw, inr := h.inr, ink := h.ink
          firm := by simpa using (h.firm.stored i x).1, firms := (h.firms.imp fun _ _ _ _ r => hb _ _ r).set i (hb _ _ hx)
          waits := own_ty h.waits hk (by decide), waitss := h.waitss.imp fun _ _ _ _ r => ⟨r.1, hb _ _ r.2⟩
          armed := h.armed.ty hk (by decide), writes := own_ty h.writes hk (by decide), low := fun b hb => Nat.lt_of_lt_of_le (h.low b hb) hk.size }
theorem RefIn.waitAt {A : Option Addr} {n c : Nat} (h : RefIn F w g d fv (.slice A n c) kv rv left fvs ws) (hn : n = d.waits.length) {k : Nat} (hk : k < n) :
    ∃ gw q x B cb, A = some ⟨gw, 0, none⟩ ∧ d.waits[k]? = some (q, x) ∧ w.cell? ⟨gw, k * 2, none⟩ = some (.int .i64 q) ∧ w.cell? ⟨gw, k * 2 + 1, none⟩ = some (.slice B x.length cb) ∧ ByteIn F w (.slice B x.length cb) x := by
  subst hn
  obtain ⟨p, ⟨q, x⟩, hp, hq, hpq, hbq⟩ := h.waitss.get hk
  simp only at hpq hbq
  have hwl := h.waits
  rcases Own.slice hwl with ⟨_, h0, _⟩ | ⟨gw, cw, e, hcw, hgw⟩
  · exact absurd h0 (by omega)
  obtain ⟨rfl, rfl⟩ : A = some ⟨gw, 0, none⟩ ∧ c = cw := by injection e with e1 e2 e3; exact ⟨e1, e3⟩
  obtain ⟨w0, w1⟩ := wcells_get ws k p hp
  obtain ⟨B, cb, e, _, _⟩ := Own.rd hbq.1
  refine ⟨gw, q, x, B, cb, rfl, hq, ?_, ?_, by rw [← e]; exact hbq⟩
  · rw [World.ownsRow.cellAt hwl (k * 2) (by omega), w0, hpq]
  · rw [World.ownsRow.cellAt hwl (k * 2 + 1) (by omega), w1, e]
end

/-! ### the small methods -/
theorem RBoot_calls {F : Nat → Prop} {w : World} {g : Nat} {d : DiskS} (h : RefAt F w g d) :
    Calls Try.prog 63 #[ptr g] w fun e w' => e = .returned (.int .i64 d.boot.1) ∧ RefAt F w' g d.boot.2 ∧ Keep F w w' := by
  have h' := h
  obtain ⟨fv, wv, kv, rv, left, fvs, ws, h⟩ := h
  obtain ⟨-, -, c2, -, -, -, -⟩ := h.cells
  have fz := h.blk.frozen 2
  cases hon : d.on with
  | false =>
    rw [hon] at c2
    have c2' : w.cell? ⟨g, 2, none⟩ = some (.bool true) := c2
    clear c2
    have HON := Lib.hid hon; clear hon
    go_enter Try.func63, Try.ntmps63
    go_wp2
    go_ret
    refine ⟨ret_int (by simp [DiskS.boot, HON.out]), ?_, (Keep.refl F w).setCell (p := ⟨g, 2, none⟩) (fun _ => h.fg) _⟩
    have hs := h.self (on := true) (fl := d.flushes) ((Keep.refl _ w).setCell (p := ⟨g, 2, none⟩) (fun _ => h.blk.ofType) (.bool false)) (by simpa using h.blk.set_ 2 (.bool false)) h.armed
    exact ⟨_, _, _, _, _, _, _, by simpa [DiskS.boot, HON.out] using hs⟩
  | true =>
    rw [hon] at c2
    have c2' : w.cell? ⟨g, 2, none⟩ = some (.bool false) := c2
    clear c2
    have HON := Lib.hid hon; clear hon
    go_enter Try.func63, Try.ntmps63
    go_wp2
    go_ret
    exact ⟨ret_int (by simp [DiskS.boot, HON.out]), by simpa [DiskS.boot, HON.out] using h', Keep.refl _ _⟩

set_option maxHeartbeats 1000000 in
theorem RWaiting_calls {F : Nat → Prop} {w : World} {g : Nat} {d : DiskS} (h : RefAt F w g d) (hn : d.waits.length ≤ 1000000) :
    Calls Try.prog 34 #[ptr g] w fun e w' => ∃ v, e = .returned v ∧ NewB w w' 3 .i64 v d.waits.length (d.waits.map (·.1)) := by
  obtain ⟨fv, wv, kv, rv, left, fvs, ws, h⟩ := h
  obtain ⟨A, c, rfl, hc, hr⟩ := Own.rd h.waits
  go_enter Try.func34, Try.ntmps34
  go_wp2
  go_loopw [3, 4] (fun v i wr => ∃ k : Nat, k ≤ d.waits.length ∧ i = .int .i64 k ∧ NewB w wr 3 .i64 v k ((d.waits.take k).map (·.1))) (fun _ i _ => d.waits.length - (intOf i).toNat)
  case atStart => exact ⟨0, Nat.zero_le _, rfl, Own.nil _ _ _, Keep.refl _ _, freshV_none _ _ _⟩
  case round =>
    obtain ⟨k, hk, rfl, hnew⟩ := hrel
    have hR := h.keep hnew.2.1 (fun _ _ f => f)
    have c1 := hR.cells.2.1
    by_cases hlt : k < d.waits.length
    · obtain ⟨gw, q, x, B, cb, rfl, hq, hc0, hc1, _⟩ := hR.waitAt rfl hlt
      have hi0 : (0 : Int) ≤ (k : Int) := Int.natCast_nonneg _
      have hi1 : (k : Int) < (d.waits.length : Int) := by omega
      have HQ := Lib.hid hq; clear hq
      go_wp2_with (first | (at_builtin; refine app_int (l := (d.waits.take k).map (·.1)) rfl _ _ rfl (hnew.1.alloc _) rfl (Rd.one' _ _ _ _ wr.heap.size rfl) rfl (by omega) ?_; intro v1 w1 ho1 hg1 hb1))
      rw [map_take_succ (f := (·.1)) HQ.out] at ho1
      go_roundw
      case rel => exact ⟨k + 1, by omega, by go_num, newB_app (hnew.2.1.alloc _) hnew.2.2 ho1 hg1 hb1⟩
      case measure => simp [intOf]; omega
    · go_wp2
      go_ret
      obtain rfl : k = d.waits.length := by omega
      rw [List.take_length] at hnew
      exact ⟨_, rfl, hnew⟩

set_option maxRecDepth 100000 in
set_option maxHeartbeats 2000000 in
theorem RCrash_calls0 {F : Nat → Prop} {w : World} {g : Nat} {d : DiskS} {kA : Option Addr} {kn kc : Nat} {keep : List Bool} (h : RefAt F w g d) (hfit : d.Fit) (hk : Rd w 1 kA kn (bv keep))
    (hkF : 0 < kn → ∀ ad, kA = some ad → ¬ (F ad.block ∧ OfType w 28 ad.block)) :
    Calls Try.prog 62 #[ptr g, .slice kA kn kc] w fun e w' => e = .returned (.tuple #[]) ∧ RefAt F w' g (d.crash keep) ∧ Keep F w w' := by
  obtain ⟨fv, wv, kv, rv, left, fvs, ws, h⟩ := h
  obtain ⟨A, c, rfl, hc, hr⟩ := Own.rd h.waits
  have hkl : keep.length = kn := by have := hk.1; simpa [bv] using this
  have hkle := hk.le
  have hle := hr.le
  have HKL := Lib.hid hkl; clear hkl
  go_enter Try.func62, Try.ntmps62
  go_wp2
  go_loopw [4] (fun i wr => ∃ (k : Nat) (fvs' : List Value), k ≤ d.waits.length ∧ i = .int .i64 k ∧ RefIn F wr g { d with firm := DiskS.layKept keep 0 (d.waits.take k) d.firm } fv (.slice A d.waits.length c) kv rv left fvs' ws ∧
      Keep (fun b => F b ∧ OfType w 28 b) w wr) (fun i _ => d.waits.length - (intOf i).toNat)
  case atStart => exact ⟨0, fvs, Nat.zero_le _, rfl, by simpa [DiskS.layKept] using h, Keep.refl _ _⟩
  case round =>
    obtain ⟨k, fvs', hkm, rfl, hd, hkeep⟩ := hrel
    obtain ⟨c0, c1, -, -, -, -, -⟩ := hd.cells
    by_cases hlt : k < d.waits.length
    · obtain ⟨gw, q1, q2, pb, px, rfl, hq, hc0, hc1, hbq⟩ := hd.waitAt rfl hlt
      have hq : d.waits[k]? = some (q1, q2) := hq
      have hqr := hfit _ (List.mem_of_getElem? hq)
      obtain ⟨qi, rfl⟩ : ∃ n : Nat, q1 = n := Int.eq_ofNat_of_zero_le hqr.1
      have hqn : qi < d.firm.length := by have := hqr.2; simp only at this; omega
      have hqget : d.waits[k] = ((qi : Int), q2) := by have := List.getElem?_eq_getElem hlt; rw [hq] at this; injection this with this; exact this.symm
      have HQG := Lib.hid hqget
      clear hq hqr hqget
      have hi0 : (0 : Int) ≤ (k : Int) := Int.natCast_nonneg _
      have hi1 : (k : Int) < (d.waits.length : Int) := by omega
      by_cases hz : kn = 0
      · subst hz
        go_wp2
        go_roundw
        case rel =>
          refine ⟨k + 1, fvs', by omega, by go_num, ?_, hkeep⟩
          rw [DiskS.layKept_take keep d.waits d.firm k hlt, if_neg (by simp [DiskS.lasts, HKL.out])]
          exact hd
        case measure => simp [intOf]; omega
      · have hkr := hk.keep hkeep (hkF (by omega))
        obtain ⟨ka, rfl, hkc⟩ := hkr.boolAt (k := k % kn) (Nat.mod_lt _ (by omega))
        have hz1 : (1 : Int) ≤ (kn : Int) := by omega
        have hz0 : (0 : Int) < (kn : Int) := by omega
        have hm0 : (0 : Int) ≤ (k : Int) % (kn : Int) := Int.emod_nonneg _ (by omega)
        have hm1 : (k : Int) % (kn : Int) < (kn : Int) := Int.emod_lt_of_pos _ (by omega)
        have hlast : DiskS.lasts keep k = keep.getD (k % kn) false := by have := HKL.out; simp [DiskS.lasts, this]; omega
        obtain ⟨bb, hbb⟩ : ∃ b, b = keep.getD (k % kn) false := ⟨_, rfl⟩
        rw [← hbb] at hkc hlast
        clear hbb
        cases bb with
        | false =>
          have HL := Lib.hid hlast; clear hlast
          go_wp2
          go_roundw
          case rel =>
            refine ⟨k + 1, fvs', by omega, by go_num, ?_, hkeep⟩
            rw [DiskS.layKept_take keep d.waits d.firm k hlt, if_neg (by rw [HL.out]; simp)]
            exact hd
          case measure => simp [intOf]; omega
        | true =>
          have HL := Lib.hid hlast; clear hlast
          have hfl : Own wr 28 1 fv (DiskS.layKept keep 0 (d.waits.take k) d.firm).length fvs' := hd.firm
          rw [DiskS.layKept_length] at hfl
          rcases Own.slice hfl with ⟨_, h0, _⟩ | ⟨gf, cf, rfl, hcf, hgf⟩
          · exact absurd h0 (by omega)
          have hj0 : (0 : Int) ≤ (qi : Int) := Int.natCast_nonneg _
          have hj1 : (qi : Int) < (d.firm.length : Int) := by omega
          have hfz : wr.frozen? ⟨gf, qi, none⟩ = false := World.ownsRow.frozenAt hfl qi
          have hsome : ∃ x, fvs'[qi]? = some x := ⟨fvs'[qi]'(by have := hfl.1; omega), List.getElem?_eq_getElem _⟩
          obtain ⟨x0, hx0⟩ := hsome
          have hcf0 : wr.cell? ⟨gf, qi, none⟩ = some x0 := (World.ownsRow.cellAt hfl qi (by omega)).trans hx0
          clear hx0
          go_wp2
          go_region
          all_goals go_wp2
          go_roundw
          case rel =>
            refine ⟨k + 1, fvs'.set qi (.slice pb q2.length px), by omega, by go_num, ?_, ?_⟩
            · rw [DiskS.layKept_take keep d.waits d.firm k hlt, if_pos HL.out, HQG.out]
              exact (hd.firmSet (i := qi) (by rw [DiskS.layKept_length]) hbq).keep ((Keep.refl (fun _ => False) _).drew) (fun _ _ f => f)
            · exact (hkeep.setCell (p := ⟨gf, qi, none⟩) (fun hl => ⟨hd.inf gf rfl, own_ofType h.firm rfl⟩) _).drew
          case measure => simp [intOf]; omega
    · obtain ⟨-, -, c2, c3, -, -, -⟩ := hd.cells
      have f1 := hd.blk.frozen 1
      have f2 := hd.blk.frozen 2
      have f3 := hd.blk.frozen 3
      go_wp2
      go_end0
      have hkl : k = d.waits.length := by omega
      subst hkl
      rw [List.take_length] at hd
      obtain ⟨l, hl⟩ := hd.armed.any
      refine ⟨rfl, ⟨fv, _, kv, rv, _, fvs', [], hd.dark (on := false) (fl := d.flushes) (left' := -1) (a := none) ?_ ?_ ⟨rfl, l, hl⟩⟩, ?_⟩
      · exact (((Keep.refl _ wr).setCell (p := ⟨g, 1, none⟩) (fun _ => hd.blk.ofType) _).setCell (p := ⟨g, 2, none⟩) (fun _ => hd.blk.ofType) _).setCell (p := ⟨g, 3, none⟩) (fun _ => hd.blk.ofType) _
      · simpa using ((hd.blk.set_ 1 (.slice none 0 0)).set_ 2 (.bool true)).set_ 3 (.int .i64 (-1))
      · exact (((hkeep.mono (fun b _ hb => hb.1)).setCell (p := ⟨g, 1, none⟩) (fun _ => hd.fg) _).setCell (p := ⟨g, 2, none⟩) (fun _ => hd.fg) _).setCell (p := ⟨g, 3, none⟩) (fun _ => hd.fg) _
theorem RCrash_calls {F : Nat → Prop} {w : World} {g : Nat} {d : DiskS} {kA : Option Addr} {kn kc : Nat} {keep : List Bool} (h : RefAt F w g d) (hfit : d.Fit) (hk : Rd w 1 kA kn (bv keep))
    (hkF : ∀ ad, kA = some ad → ¬ (F ad.block ∧ OfType w 28 ad.block)) :
    Calls Try.prog 62 #[ptr g, .slice kA kn kc] w fun e w' => e = .returned (.tuple #[]) ∧ RefAt F w' g (d.crash keep) ∧ Keep F w w' :=
  RCrash_calls0 h hfit hk (fun _ => hkF)
end Go.Proofs.Ytfmfedfalljokaa
