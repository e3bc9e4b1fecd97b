/-
  The disk's greater methods walked: a crash.
-/
import Derived.Test.YtfmfedfalljokaaDisk
namespace Go.Proofs.Ytfmfedfalljokaa
open Go.RowKit

theorem wcells_get (ws : List (Int × Value)) : ∀ (k : Nat) (p : Int × Value), ws[k]? = some p → (wcells ws)[k * 2]? = some (.int .i64 p.1) ∧ (wcells ws)[k * 2 + 1]? = some p.2 := by
  induction ws with
  | nil => intro k p h; simp at h
  | cons q ws ih =>
    intro k p h
    rcases k with _ | k
    · simp at h; subst h; simp [wcells]
    · have := ih k p (by simpa using h)
      rw [show (k + 1) * 2 = k * 2 + 1 + 1 from by omega]
      simpa [wcells] using this
theorem wcells_len (ws : List (Int × Value)) : (wcells ws).length = ws.length * 2 := by
  induction ws with
  | nil => rfl
  | cons q ws ih => simp only [wcells, List.flatMap_cons, List.length_append, List.length_cons, List.length_nil] at *; omega

theorem OfType.keep {w w' : World} {S : Nat → Prop} {t : TypeId} {b : Nat} (h : OfType w t b) (hk : Keep S w w') (hS : ¬ S b) : OfType w' t b := by
  obtain ⟨cs, fr, h⟩ := h
  refine ⟨cs, fr, (hk.block b ?_ hS).trans h⟩
  rcases Nat.lt_or_ge b w.heap.size with hlt | hge
  · exact hlt
  · rw [Array.getElem?_eq_none hge] at h; cases h
theorem Rd.boolAt {w : World} {A : Option Addr} {n : Nat} {l : List Bool} (h : Rd w 1 A n (bv l)) {k : Nat} (hk : k < n) : ∃ ad, A = some ad ∧ w.cell? (ad.add k) = some (.bool (l.getD k false)) := by
  obtain ⟨ad, e, u, hu, hc⟩ := h.at_ hk
  refine ⟨ad, e, ?_⟩
  simp only [bv, List.getElem?_map, Option.map_eq_some_iff] at hu
  obtain ⟨x, hx, rfl⟩ := hu
  rw [hc, List.getD_eq_getElem?_getD, hx]; rfl
theorem DiskIn.firmSet {F : Nat → Prop} {w : World} {g : Nat} {d : DiskS} {wv av rv : Value} {gf cf i n : Nat} {fvs : List Value} {ws : List (Int × Value)} {x : Value} {l : List Int}
    (h : DiskIn F w g d (.slice (some ⟨gf, 0, none⟩) n cf) wv av rv fvs ws) (hn : n = d.firm.length) (hx : ByteIn F w x l) :
    DiskIn F (w.setCell ⟨gf, i, none⟩ x) g { d with firm := d.firm.set i l } (.slice (some ⟨gf, 0, none⟩) n cf) wv av rv (fvs.set i x) ws := by
  subst hn
  have hk : Keep (OfType w 28) w (w.setCell ⟨gf, i, none⟩ x) := (Keep.refl _ w).setCell (p := ⟨gf, i, none⟩) (fun _ => own_ofType h.firm rfl) x
  have hb : ∀ v l, ByteIn F w v l → ByteIn F (w.setCell ⟨gf, i, none⟩ x) v l := fun v l r => r.ty hk (by decide)
  exact { blk := h.blk.ty hk (by decide), fg := h.fg, inf := h.inf, inw := h.inw, inr := h.inr
          firm := by simpa using (h.firm.stored i x).1, firms := (h.firms.imp fun _ _ _ _ r => hb _ _ r).set i (hb _ _ hx)
          waits := own_ty h.waits hk (by decide), waitss := h.waitss.imp fun _ _ _ _ r => ⟨r.1, hb _ _ r.2⟩
          armed := h.armed.ty hk (by decide) (by decide), writes := own_ty h.writes hk (by decide), low := fun b hb => Nat.lt_of_lt_of_le (h.low b hb) hk.size }

/-- The power is off: nothing waits, nothing is armed. -/
theorem DiskIn.dark {F : Nat → Prop} {w w' : World} {g : Nat} {d : DiskS} {fv wv av rv : Value} {fvs : List Value} {ws : List (Int × Value)} (h : DiskIn F w g d fv wv av rv fvs ws)
    (hk : Keep (OfType w 83) w w') (hb : Blk w' g 83 #[fv, .slice none 0 0, .bool false, .pointer none, rv, .int .i64 d.flushes]) :
    DiskIn F w' g { d with waits := [], armed := none, on := false } fv (.slice none 0 0) (.pointer none) rv fvs [] :=
  { blk := hb, fg := h.fg, inf := h.inf, inw := In.none, inr := h.inr
    firm := own_ty h.firm hk (by decide), firms := h.firms.imp fun _ _ _ _ r => r.ty hk (by decide)
    waits := Own.nil _ _ _, waitss := All2.nil
    armed := rfl
    writes := own_ty h.writes hk (by decide), low := fun b hb => Nat.lt_of_lt_of_le (h.low b hb) hk.size }

set_option maxHeartbeats 1000000 in
theorem Crash_calls0 {F : Nat → Prop} {w : World} {g : Nat} {d : DiskS} {kA : Option Addr} {kn kc : Nat} {keep : List Bool} (h : DiskAt F w g d) (hfit : d.Fit) (hk : Rd w 1 kA kn (bv keep))
    (hkF : 0 < kn → ∀ ad, kA = some ad → ¬ (F ad.block ∧ OfType w 28 ad.block)) :
    Calls Try.prog 17 #[ptr g, .slice kA kn kc] w fun e w' => e = .returned (.tuple #[]) ∧ DiskAt F w' g (d.crash keep) ∧ Keep F w w' := by
  obtain ⟨fv, wv, av, rv, fvs, ws, h⟩ := h
  obtain ⟨c0, c1, c2, c3, c4, c5⟩ := h.cells
  obtain ⟨A, c, rfl, hc, hr⟩ := Own.rd h.waits
  have hkl : keep.length = kn := by have := hk.1; simpa [bv] using this
  have hkle := hk.le
  have hle := hr.le
  go_enter Try.func17, Try.ntmps17
  go_wp2
  go_loopw [13] (fun i wr => ∃ (k : Nat) (fvs' : List Value), k ≤ d.waits.length ∧ i = .int .i64 k ∧ DiskIn F wr g { d with firm := DiskS.layKept keep 0 (d.waits.take k) d.firm } fv (.slice A d.waits.length c) av rv fvs' ws ∧
      Keep (fun b => F b ∧ OfType w 28 b) w wr) (fun i _ => d.waits.length - (intOf i).toNat)
  case atStart => exact ⟨0, fvs, Nat.zero_le _, rfl, by simpa [DiskS.layKept] using h, Keep.refl _ _⟩
  case round =>
    obtain ⟨k, fvs', hkm, rfl, hd, hkeep⟩ := hrel
    by_cases hlt : k < d.waits.length
    · obtain ⟨p, ⟨q1, q2⟩, hp, hq0, hpq, hbq⟩ := hd.waitss.get hlt
      have hq : d.waits[k]? = some (q1, q2) := hq0
      have hqr := hfit _ (List.mem_of_getElem? hq)
      obtain ⟨qi, rfl⟩ : ∃ n : Nat, q1 = n := Int.eq_ofNat_of_zero_le hqr.1
      have hqn : qi < d.firm.length := by have := hqr.2; simp only at this; omega
      have hqget : d.waits[k] = ((qi : Int), q2) := by have := List.getElem?_eq_getElem hlt; rw [hq] at this; injection this with this; exact this.symm
      simp only at hpq hbq
      have hwl : Own wr 88 2 (.slice A d.waits.length c) d.waits.length (wcells ws) := hd.waits
      have hfl : Own wr 28 1 fv (DiskS.layKept keep 0 (d.waits.take k) d.firm).length fvs' := hd.firm
      rw [DiskS.layKept_length] at hfl
      rcases Own.slice hfl with ⟨_, h0, _⟩ | ⟨gf, cf, rfl, hcf, hgf⟩
      · exact absurd h0 (by omega)
      rcases Own.slice hwl with ⟨_, h0, _⟩ | ⟨gw, cw, e, hcw, hgw⟩
      · exact absurd h0 (by omega)
      obtain ⟨rfl, rfl⟩ : A = some ⟨gw, 0, none⟩ ∧ c = cw := by injection e with e1 e2 e3; exact ⟨e1, e3⟩
      obtain ⟨w0, w1⟩ := wcells_get ws k p hp
      have hc0 : wr.cell? ⟨gw, k * 2, none⟩ = some (.int .i64 (qi : Int)) := by rw [World.ownsRow.cellAt hwl (k * 2) (by omega), w0, hpq]
      have hc1 : wr.cell? ⟨gw, k * 2 + 1, none⟩ = some p.2 := (World.ownsRow.cellAt hwl (k * 2 + 1) (by omega)).trans w1
      obtain ⟨pb, px, hpx⟩ : ∃ b c, p.2 = .slice b q2.length c := by obtain ⟨B, c, e, _, _⟩ := Own.rd hbq.1; exact ⟨B, c, e⟩
      rw [hpx] at hc1
      have hi0 : (0 : Int) ≤ (k : Int) := Int.natCast_nonneg _
      have hi1 : (k : Int) < (d.waits.length : Int) := by omega
      by_cases hz : kn = 0
      · subst hz
        go_wp2
        go_roundw
        case rel =>
          refine ⟨k + 1, fvs', by omega, by go_num, ?_, hkeep.alloc _⟩
          rw [DiskS.layKept_take keep d.waits d.firm k hlt, if_neg (by simp [DiskS.lasts, hkl])]
          exact hd.keep ((Keep.refl _ wr).alloc _) (fun _ _ f => f)
        case measure => simp [intOf]; omega
      · have hkr := hk.keep hkeep (hkF (by omega))
        obtain ⟨ka, rfl, hkc⟩ := hkr.boolAt (k := k % kn) (Nat.mod_lt _ (by omega))
        have hz1 : (1 : Int) ≤ (kn : Int) := by omega
        have hz0 : (0 : Int) < (kn : Int) := by omega
        have hm0 : (0 : Int) ≤ (k : Int) % (kn : Int) := Int.emod_nonneg _ (by omega)
        have hm1 : (k : Int) % (kn : Int) < (kn : Int) := Int.emod_lt_of_pos _ (by omega)
        have hkc2 : ∀ o, (wr.alloc o).cell? (ka.add (k % kn)) = some (.bool (keep.getD (k % kn) false)) := fun o => ((Keep.refl (fun _ => False) wr).alloc o).cell_some hkc (fun f => f)
        have hlast : DiskS.lasts keep k = keep.getD (k % kn) false := by simp [DiskS.lasts, hkl]; omega
        obtain ⟨bb, hbb⟩ : ∃ b, b = keep.getD (k % kn) false := ⟨_, rfl⟩
        rw [← hbb] at hkc2 hlast
        clear hkc hbb
        cases bb with
        | false =>
          have HL := Lib.hid hlast; clear hlast
          go_wp2
          go_roundw
          case rel =>
            refine ⟨k + 1, fvs', by omega, by go_num, ?_, hkeep.alloc _⟩
            rw [DiskS.layKept_take keep d.waits d.firm k hlt, if_neg (by rw [HL.out]; simp)]
            exact hd.keep ((Keep.refl _ wr).alloc _) (fun _ _ f => f)
          case measure => simp [intOf]; omega
        | true =>
          have HL := Lib.hid hlast; clear hlast
          obtain ⟨c0, -, -, -, -, -⟩ := hd.cells
          have hj0 : (0 : Int) ≤ (qi : Int) := Int.natCast_nonneg _
          have hj1 : (qi : Int) < (d.firm.length : Int) := by omega
          have hfz : wr.frozen? ⟨gf, qi, none⟩ = false := World.ownsRow.frozenAt hfl qi
          have hsome : ∃ x, fvs'[qi]? = some x := ⟨fvs'[qi]'(by have := hfl.1; omega), List.getElem?_eq_getElem _⟩
          obtain ⟨x0, hx0⟩ := hsome
          have hcf0 : wr.cell? ⟨gf, qi, none⟩ = some x0 := (World.ownsRow.cellAt hfl qi (by omega)).trans hx0
          have cA0 := alloc_cell c0
          have cA1 := alloc_cell hcf0
          have fA := alloc_frozen hgf hfz
          go_wp2
          go_region
          all_goals go_wp2
          go_roundw
          case rel =>
            refine ⟨k + 1, fvs'.set qi p.2, by omega, by go_num, ?_, ?_⟩
            · rw [DiskS.layKept_take keep d.waits d.firm k hlt, if_pos HL.out, hqget]
              rw [hpx] at hbq ⊢
              exact (hd.firmSet (i := qi) (by rw [DiskS.layKept_length]) hbq).keep (((Keep.refl (fun _ => False) _).alloc _).drew) (fun _ _ f => f)
            · exact (((hkeep.setCell (p := ⟨gf, qi, none⟩) (fun hl => ⟨hd.inf gf rfl, own_ofType h.firm rfl⟩) _).alloc _).drew)
          case measure => simp [intOf]; omega
    · obtain ⟨c0, c1, c2, c3, c4, c5⟩ := hd.cells
      have f1 := hd.blk.frozen 1
      have f2 := hd.blk.frozen 2
      have f3 := hd.blk.frozen 3
      go_wp2
      go_end0
      have hkl : k = d.waits.length := by omega
      subst hkl
      rw [List.take_length] at hd
      refine ⟨rfl, ⟨fv, _, _, rv, fvs', [], hd.dark ?_ ?_⟩, ?_⟩
      · exact (((Keep.refl _ wr).setCell (p := ⟨g, 1, none⟩) (fun _ => hd.blk.ofType) _).setCell (p := ⟨g, 3, none⟩) (fun _ => hd.blk.ofType) _).setCell (p := ⟨g, 2, none⟩) (fun _ => hd.blk.ofType) _
      · simpa using ((hd.blk.set_ 1 (.slice none 0 0)).set_ 3 (.pointer none)).set_ 2 (.bool false)
      · exact (((hkeep.mono (fun b _ hb => hb.1)).setCell (p := ⟨g, 1, none⟩) (fun _ => hd.fg) _).setCell (p := ⟨g, 3, none⟩) (fun _ => hd.fg) _).setCell (p := ⟨g, 2, none⟩) (fun _ => hd.fg) _
theorem Crash_calls {F : Nat → Prop} {w : World} {g : Nat} {d : DiskS} {kA : Option Addr} {kn kc : Nat} {keep : List Bool} (h : DiskAt F w g d) (hfit : d.Fit) (hk : Rd w 1 kA kn (bv keep))
    (hkF : ∀ ad, kA = some ad → ¬ (F ad.block ∧ OfType w 28 ad.block)) :
    Calls Try.prog 17 #[ptr g, .slice kA kn kc] w fun e w' => e = .returned (.tuple #[]) ∧ DiskAt F w' g (d.crash keep) ∧ Keep F w w' :=
  Crash_calls0 h hfit hk (fun _ => hkF)
end Go.Proofs.Ytfmfedfalljokaa
