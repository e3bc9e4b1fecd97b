/-
  DiskScript: one act, walked.
-/
import Derived.Deep.RegionWith
import Derived.Deep.CutBlock
import Derived.Deep.DeepCutAuto
import Derived.Test.YtfmfedfalljokaaScript1
namespace Go.Proofs.Ytfmfedfalljokaa
open Go.RowKit

theorem Rd.old {w : World} {A : Option Addr} {n : Nat} {xs : List Value} (h : Rd w 1 A n xs) (hn : 0 < n) : ∀ ad, A = some ad → ad.block < w.heap.size := fun ad e => by
  obtain ⟨ad', e', u, hu, hc⟩ := h.at_ hn
  rw [e] at e'
  cases e'
  have := World.block_lt_of_cell? w _ hc
  rwa [block_of_add] at this
def DonePost (w0 : World) (g g' : Nat) (d' : DiskS) (e : Ending) (w' : World) : Prop := e = .returned (.bool true) ∧ ∃ F G, Twin w0 w' F G g d' g'
theorem SameBytes_same (w : World) {A1 A2 : Option Addr} {n1 n2 c1 c2 : Nat} {l : List Int} (h1 : Rd w 1 A1 n1 (iv .u8 l)) (h2 : Rd w 1 A2 n2 (iv .u8 l)) :
    Calls Try.prog 23 #[.slice A1 n1 c1, .slice A2 n2 c2] w fun e w' => e = .returned (.bool true) ∧ Drawn w w' := SameBytes_yes w h1 h2 rfl

section
variable {w0 w : World} {F G : Nat → Prop} {g g' n k : Nat} {d : DiskS}
set_option maxRecDepth 100000 in
set_option maxHeartbeats 1000000 in
theorem done_read (h : Twin w0 w F G g d g') (hi : d.Inv n k) (hk : k ≤ 1000) (a m : Int) (s : Bool) (kv : Value) :
    Calls Try.prog 32 #[ptr g, ptr g', .agg #[.int .i64 0, .int .i64 a, .int .i64 m, .bool s, kv]] w (DonePost w0 g g' d) := by
  have hwl : d.waits.length ≤ 1000000 := by have := hi.waits; omega
  have hrl : (d.read a).2.length ≤ 1000000 := by
    unfold DiskS.read
    split
    · show (DiskS.last d.waits a (d.firm.getD a.toNat [])).length ≤ 1000000
      have hl : ∀ (ws : List (Int × List Int)) (o : List Int), o.length ≤ 128 → (∀ p ∈ ws, p.2.length = 128) → (DiskS.last ws a o).length ≤ 128 := by
        intro ws
        induction ws with
        | nil => intro o ho _; exact ho
        | cons p ws ih =>
          intro o ho hp
          simp only [DiskS.last, List.foldl_cons]
          refine ih _ ?_ (fun q hq => hp q (by simp [hq]))
          split
          · exact Nat.le_of_eq (hp p (by simp))
          · exact ho
      refine Nat.le_trans (hl d.waits _ ?_ hi.sec.2) (by omega)
      rw [List.getD_eq_getElem?_getD]
      rcases hq : d.firm[a.toNat]? with _ | y
      · simp
      · simpa using Nat.le_of_eq (hi.sec.1 y (List.mem_of_getElem? hq))
    · simp
  have h1 := h.fresh ((Keep.refl _ w).alloc (.cells #[.int .i64 0, .int .i64 a, .int .i64 m, .bool s, kv] 52))
  obtain ⟨code, hcode⟩ : ∃ c, c = (d.read a).1 := ⟨_, rfl⟩
  have HC := Lib.hid hcode; clear hcode
  go_enter Try.func32, Try.ntmps32
  go_wp2_with (first | (go_at_call 22; refine (Read_calls h1.disk hi.sec a hwl).mono ?_; rintro e w2 ⟨v2, rfl, hn2⟩; rw [← HC.out]; have h2 := h1.fresh hn2.2.1; obtain ⟨A2, c2, rfl, hr2⟩ := newB_rd hn2; have B2 := (Blk.new w 52 #[.int .i64 0, .int .i64 a, .int .i64 m, .bool s, kv]).fresh hn2.2.1; have q1 := B2.at_ 1 rfl) | (go_at_call 56; refine (RRead_calls h2.ref hi.sec a hwl).mono ?_; rintro e w3 ⟨v3, rfl, hn3⟩; rw [← HC.out]; have h3 := h2.fresh hn3.2.1; obtain ⟨A3, c3, rfl, hr3⟩ := newB_rd hn3) | (go_at_call 23; refine (SameBytes_same _ (hr2.fresh hn3.2.1) hr3).mono ?_; rintro e w4 ⟨rfl, D4⟩; have h4 := h3.fresh D4.fresh) | (go_at_call 35; refine (OverBytes_calls _ (own_keep hn2.1 (hn3.2.1.trans D4.fresh (fun _ _ f => f)) (fun _ _ f => f)) hrl).mono ?_; rintro e w5 ⟨rfl, k5⟩; have h5 := h4.other k5 (fun b hb => h1.far (hn2.2.2 b hb))))
  go_ret
  exact ⟨rfl, _, _, h5⟩

set_option maxRecDepth 100000 in
set_option maxHeartbeats 1000000 in
theorem done_flush (h : Twin w0 w F G g d g') (hi : d.Inv n k) (hk : k ≤ 1000) (a m : Int) (s : Bool) (kv : Value) :
    Calls Try.prog 32 #[ptr g, ptr g', .agg #[.int .i64 2, .int .i64 a, .int .i64 m, .bool s, kv]] w (DonePost w0 g g' d.flush.2) := by
  have f0 := hi.fl0
  have f1 : d.flushes ≤ 1000000 := by have := hi.fl1; omega
  have h1 := (h.fresh ((Keep.refl _ w).alloc (.cells #[.int .i64 2, .int .i64 a, .int .i64 m, .bool s, kv] 52))).half
  obtain ⟨code, hcode⟩ : ∃ c, c = d.flush.1 := ⟨_, rfl⟩
  have HC := Lib.hid hcode; clear hcode
  go_enter Try.func32, Try.ntmps32
  go_wp2_with (first | (go_at_call 25; refine (Flush_calls h1.disk hi.ok f0 f1).mono ?_; rintro e w2 ⟨rfl, hA2, k2⟩; rw [← HC.out]; have h2 := h1.sameF hA2 k2) | (go_at_call 60; refine (RFlush_calls h2.ref hi.ok f0 f1).mono ?_; rintro e w3 ⟨rfl, hA3, k3⟩; rw [← HC.out]; have h3 := h2.sameG hA3 k3))
  go_ret
  exact ⟨rfl, _, _, h3.same⟩

set_option maxRecDepth 100000 in
set_option maxHeartbeats 1000000 in
theorem done_boot (h : Twin w0 w F G g d g') (a m : Int) (s : Bool) (kv : Value) :
    Calls Try.prog 32 #[ptr g, ptr g', .agg #[.int .i64 5, .int .i64 a, .int .i64 m, .bool s, kv]] w (DonePost w0 g g' d.boot.2) := by
  have h1 := (h.fresh ((Keep.refl _ w).alloc (.cells #[.int .i64 5, .int .i64 a, .int .i64 m, .bool s, kv] 52))).half
  obtain ⟨code, hcode⟩ : ∃ c, c = d.boot.1 := ⟨_, rfl⟩
  have HC := Lib.hid hcode; clear hcode
  go_enter Try.func32, Try.ntmps32
  go_wp2_with (first | (go_at_call 21; refine (Boot_calls h1.disk).mono ?_; rintro e w2 ⟨rfl, hA2, k2⟩; rw [← HC.out]; have h2 := h1.sameF hA2 k2) | (go_at_call 63; refine (RBoot_calls h2.ref).mono ?_; rintro e w3 ⟨rfl, hA3, k3⟩; rw [← HC.out]; have h3 := h2.sameG hA3 k3))
  go_ret
  exact ⟨rfl, _, _, h3.same⟩

set_option maxRecDepth 100000 in
set_option maxHeartbeats 1000000 in
theorem done_crash (h : Twin w0 w F G g d g') (hi : d.Inv n k) (a m : Int) (s : Bool) {kA : Option Addr} {kn kc : Nat} {keep : List Bool} (hkp : Rd w0 1 kA kn (bv keep)) :
    Calls Try.prog 32 #[ptr g, ptr g', .agg #[.int .i64 4, .int .i64 a, .int .i64 m, .bool s, .slice kA kn kc]] w (DonePost w0 g g' (d.crash keep)) := by
  have h1 := (h.fresh ((Keep.refl _ w).alloc (.cells #[.int .i64 4, .int .i64 a, .int .i64 m, .bool s, .slice kA kn kc] 52))).half
  have hf1 : 0 < kn → ∀ ad, kA = some ad → ¬ F ad.block := fun hn ad e hf => by have := h.newF _ hf; have := hkp.old hn ad e; omega
  have hf2 : 0 < kn → ∀ ad, kA = some ad → ¬ G ad.block := fun hn ad e hf => by have := h.newG _ hf; have := hkp.old hn ad e; omega
  have HF1 := Lib.hid hf1; clear hf1
  have HF2 := Lib.hid hf2; clear hf2
  have B1 := Blk.new w 52 #[.int .i64 4, .int .i64 a, .int .i64 m, .bool s, .slice kA kn kc]
  have hB1 : ¬ F w.heap.size := fun hf => by have := h.disk.low _ hf; omega
  go_enter Try.func32, Try.ntmps32
  go_wp2_with (first | (go_at_call 17; refine (Crash_calls0 h1.disk hi.ok.fit (hkp.fresh h1.kept) (fun hn ad e hh => HF1.out hn ad e hh.1)).mono ?_; rintro e w2 ⟨rfl, hA2, k2⟩; have h2 := h1.sameF hA2 k2; have q4 := (B1.keep k2 hB1).at_ 4 rfl) | (go_at_call 62; refine (RCrash_calls0 h2.ref hi.ok.fit (hkp.fresh h2.kept) (fun hn ad e hh => HF2.out hn ad e hh.1)).mono ?_; rintro e w3 ⟨rfl, hA3, k3⟩; have h3 := h2.sameG hA3 k3))
  go_ret
  exact ⟨rfl, _, _, h3.same⟩

set_option maxRecDepth 100000 in
set_option maxHeartbeats 1000000 in
theorem done_arm (h : Twin w0 w F G g d g') (a m : Int) (s : Bool) {kA : Option Addr} {kn kc : Nat} {keep : List Bool} (hkp : Rd w0 1 kA kn (bv keep)) (hkn : kn ≤ 20) :
    Calls Try.prog 32 #[ptr g, ptr g', .agg #[.int .i64 3, .int .i64 a, .int .i64 m, .bool s, .slice kA kn kc]] w (DonePost w0 g g' (d.arm m keep).2) := by
  have h1 := (h.fresh (((Keep.refl _ w).alloc (.cells #[.int .i64 3, .int .i64 a, .int .i64 m, .bool s, .slice kA kn kc] 52)).drew)).half
  obtain ⟨code, hcode⟩ : ∃ c, c = (d.arm m keep).1 := ⟨_, rfl⟩
  have HC := Lib.hid hcode; clear hcode
  have B1 := Blk.new w 52 #[.int .i64 3, .int .i64 a, .int .i64 m, .bool s, .slice kA kn kc]
  have hB1 : ¬ F w.heap.size := fun hf => by have := h.disk.low _ hf; omega
  have hB2 : ¬ G w.heap.size := fun hf => by have := h.ref.low _ hf; omega
  have q0 := B1.drew.at_ 2 rfl
  have q1 := B1.drew.at_ 4 rfl
  go_enter Try.func32, Try.ntmps32
  go_wp2_with fail
  go_region_held3 (fun w' => w'.cell? ⟨w.heap.size, 2, none⟩ = some (.int .i64 m) ∧ w'.cell? ⟨w.heap.size, 4, none⟩ = some (.slice kA kn kc)) (first | (exact ⟨by assumption, by assumption⟩) | go_keep) (first | (go_at_call 24; refine (Arm_calls h1.disk m (hkp.fresh h1.kept) (by omega)).mono ?_; rintro e w2 ⟨rfl, hA2, k2⟩; rw [← HC.out]; have h2 := h1.opF hA2 k2; have q2 := (B1.drew.keep k2 hB1).at_ 2 rfl; have q4 := (B1.drew.keep k2 hB1).at_ 4 rfl) | (go_at_call 61; refine (RArm_calls h2.ref m (hkp.fresh h2.kept) (by omega)).mono ?_; rintro e w3 ⟨rfl, hA3, k3⟩; rw [← HC.out]; have h3 := h2.opG hA3 k3; have q5 := ((B1.drew.keep k2 hB1).keep k3 hB2).at_ 2 rfl; have q6 := ((B1.drew.keep k2 hB1).keep k3 hB2).at_ 4 rfl))
  all_goals
    go_wp2_with fail
    go_ret
    exact ⟨rfl, _, _, h3.same⟩

set_option maxRecDepth 100000 in
set_option maxHeartbeats 1000000 in
theorem done_write (h : Twin w0 w F G g d g') (hi : d.Inv n k) (hk : k ≤ 1000) (a m : Int) (s : Bool) (kv : Value) :
    Calls Try.prog 32 #[ptr g, ptr g', .agg #[.int .i64 1, .int .i64 a, .int .i64 m, .bool s, kv]] w (DonePost w0 g g' (d.write a (fillL m (if s then 127 else 128))).2) := by
  have hwl : d.waits.length ≤ 1000000 := by have := hi.waits; omega
  have hwl2 : d.writes.length ≤ 1000000 := by have := hi.writes; omega
  have h1 := (h.fresh ((Keep.refl _ w).alloc (.cells #[.int .i64 1, .int .i64 a, .int .i64 m, .bool s, kv] 52))).half
  have B1 := Blk.new w 52 #[.int .i64 1, .int .i64 a, .int .i64 m, .bool s, kv]
  have hB1 : ¬ F w.heap.size := fun hf => by have := h.disk.low _ hf; omega
  have hB2 : ¬ G w.heap.size := fun hf => by have := h.ref.low _ hf; omega
  obtain ⟨z, hz⟩ : ∃ z : Nat, z = (if s then 127 else 128) := ⟨_, rfl⟩
  have hz1 : z ≤ 128 := by rw [hz]; split <;> omega
  rw [← hz]
  obtain ⟨y, hy⟩ : ∃ y, y = fillL m z := ⟨_, rfl⟩
  have hFi : ∀ w, Calls Try.prog 16 #[.int .i64 m, .int .i64 z] w fun e w' => ∃ v, e = .returned v ∧ NewB w w' 5 .u8 v z y := fun w => by
    have := Fill_calls m z w (by omega) (by omega)
    rw [Int.toNat_natCast] at this
    rw [hy]
    exact this
  rw [← hy]
  clear hy
  obtain ⟨code, hcode⟩ : ∃ c, c = (d.write a y).1 := ⟨_, rfl⟩
  have HC := Lib.hid hcode; clear hcode
  cases s with
  | true =>
    obtain rfl : z = 127 := hz
    have hFi' : ∀ w, Calls Try.prog 16 #[.int .i64 m, .int .i64 127] w fun e w' => ∃ v, e = .returned v ∧ NewB w w' 5 .u8 v 127 y := hFi
    clear hFi
    go_enter Try.func32, Try.ntmps32
    go_upto_region 16 with (first | (go_at_call 16; have := h4; refine (hFi' _).mono ?_; rintro e w5 ⟨v5, rfl, hn5⟩; obtain ⟨A5, c5, rfl, r5⟩ := newB_rd hn5; have h5 := h4.fresh hn5.2.1; have L5 := L4.fresh hn5.2.1; have B5 := B4.fresh hn5.2.1; have q51 := B5.at_ 1 rfl; have q52 := B5.at_ 2 rfl) | (go_at_call 16; refine (hFi' _).mono ?_; rintro e w2 ⟨v2, rfl, hn2⟩; obtain ⟨A2, c2, rfl, r2⟩ := newB_rd hn2; have h2 := h1.fresh hn2.2.1; have B2 := B1.fresh hn2.2.1) | (go_at_call 57; refine (LendBytes_calls _ r2 (by omega)).mono ?_; rintro e w3 ⟨gl, rfl, hgl, L3, k3⟩; have h3 := h2.fresh k3; have B3 := B2.fresh k3; have q31 := B3.at_ 1 rfl; have q32 := B3.at_ 2 rfl; have hgF : ¬ F gl := (h2.far hgl).1) | (go_at_call 15; refine (Write_calls h3.disk hi.ok a L3.rd (fun ad e => by cases e; exact hgF) hwl hwl2).mono ?_; rintro e w4 ⟨rfl, hA4, k4⟩; rw [← HC.out]; have h4 := h3.opF hA4 k4; have L4 := L3.keep k4 hgF; have B4 := B3.keep k4 hB1; have q41 := B4.at_ 1 rfl; have q42 := B4.at_ 2 rfl) | (go_at_call 58; refine (KeptBytes_calls _ L5 r5 (by omega)).mono ?_; rintro e w6 ⟨rfl, D6⟩; rw [decide_eq_true rfl]; have h6 := h5.fresh D6.fresh; have L6 := L5.fresh D6.fresh; have B6 := B5.fresh D6.fresh) | (go_at_call 35; refine (OverBytes_calls _ L6.own (by omega)).mono ?_; rintro e w7 ⟨rfl, k7⟩; have hne : w.heap.size ≠ gl := (by have := hn2.2.1.size; simp at this; omega); have h7 := (h6.other k7 (fun b hb => by simp [Value.ownBlock] at hb; subst hb; exact ⟨fun hf => hf.elim hgF (fun hf => by have := own_lt L3.own (k := gl) rfl; omega), (h2.far hgl).2⟩)).fresh ((Keep.refl _ _).drew); have B7 := B6.keep k7 (fun e => by simp [Value.ownBlock] at e; exact hne e.symm); have q71 := B7.drew.at_ 1 rfl; have q72 := B7.drew.at_ 2 rfl; have q73 := B7.at_ 1 rfl; have q74 := B7.at_ 2 rfl))
    go_region_held3 (fun w' => w'.cell? ⟨w.heap.size, 1, none⟩ = some (.int .i64 a) ∧ w'.cell? ⟨w.heap.size, 2, none⟩ = some (.int .i64 m)) (first | (exact ⟨by assumption, by assumption⟩) | go_keep) (first | (go_at_call 16; refine (hFi' _).mono ?_; rintro e w8 ⟨v8, rfl, hn8⟩; obtain ⟨A8, c8, rfl, r8, far8, -⟩ := newB_rd_far hn8 h7.ref.low; have h8 := h7.fresh hn8.2.1; have B8 := B7.drew.fresh hn8.2.1; have q81 := B8.at_ 1 rfl; have q82 := B8.at_ 2 rfl) | (go_at_call 59; refine (RWrite_calls h8.ref hi.ok a r8 far8 hwl hwl2).mono ?_; rintro e w9 ⟨rfl, hA9, k9⟩; rw [← HC.out]; have h9 := h8.opG hA9 k9; have q91 := (B8.keep k9 hB2).at_ 1 rfl; have q92 := (B8.keep k9 hB2).at_ 2 rfl))
    all_goals
      go_wp2_with fail
      go_ret
      exact ⟨rfl, _, _, h9.same⟩
  | false =>
    obtain rfl : z = 128 := hz
    have hFi' : ∀ w, Calls Try.prog 16 #[.int .i64 m, .int .i64 128] w fun e w' => ∃ v, e = .returned v ∧ NewB w w' 5 .u8 v 128 y := hFi
    clear hFi
    go_enter Try.func32, Try.ntmps32
    go_upto_region 16 with (first | (go_at_call 16; have := h4; refine (hFi' _).mono ?_; rintro e w5 ⟨v5, rfl, hn5⟩; obtain ⟨A5, c5, rfl, r5⟩ := newB_rd hn5; have h5 := h4.fresh hn5.2.1; have L5 := L4.fresh hn5.2.1; have B5 := B4.fresh hn5.2.1; have q51 := B5.at_ 1 rfl; have q52 := B5.at_ 2 rfl) | (go_at_call 16; refine (hFi' _).mono ?_; rintro e w2 ⟨v2, rfl, hn2⟩; obtain ⟨A2, c2, rfl, r2⟩ := newB_rd hn2; have h2 := h1.fresh hn2.2.1; have B2 := B1.fresh hn2.2.1) | (go_at_call 57; refine (LendBytes_calls _ r2 (by omega)).mono ?_; rintro e w3 ⟨gl, rfl, hgl, L3, k3⟩; have h3 := h2.fresh k3; have B3 := B2.fresh k3; have q31 := B3.at_ 1 rfl; have q32 := B3.at_ 2 rfl; have hgF : ¬ F gl := (h2.far hgl).1) | (go_at_call 15; refine (Write_calls h3.disk hi.ok a L3.rd (fun ad e => by cases e; exact hgF) hwl hwl2).mono ?_; rintro e w4 ⟨rfl, hA4, k4⟩; rw [← HC.out]; have h4 := h3.opF hA4 k4; have L4 := L3.keep k4 hgF; have B4 := B3.keep k4 hB1; have q41 := B4.at_ 1 rfl; have q42 := B4.at_ 2 rfl) | (go_at_call 58; refine (KeptBytes_calls _ L5 r5 (by omega)).mono ?_; rintro e w6 ⟨rfl, D6⟩; rw [decide_eq_true rfl]; have h6 := h5.fresh D6.fresh; have L6 := L5.fresh D6.fresh; have B6 := B5.fresh D6.fresh) | (go_at_call 35; refine (OverBytes_calls _ L6.own (by omega)).mono ?_; rintro e w7 ⟨rfl, k7⟩; have hne : w.heap.size ≠ gl := (by have := hn2.2.1.size; simp at this; omega); have h7 := (h6.other k7 (fun b hb => by simp [Value.ownBlock] at hb; subst hb; exact ⟨fun hf => hf.elim hgF (fun hf => by have := own_lt L3.own (k := gl) rfl; omega), (h2.far hgl).2⟩)).fresh ((Keep.refl _ _).drew); have B7 := B6.keep k7 (fun e => by simp [Value.ownBlock] at e; exact hne e.symm); have q71 := B7.drew.at_ 1 rfl; have q72 := B7.drew.at_ 2 rfl; have q73 := B7.at_ 1 rfl; have q74 := B7.at_ 2 rfl))
    go_region_held3 (fun w' => w'.cell? ⟨w.heap.size, 1, none⟩ = some (.int .i64 a) ∧ w'.cell? ⟨w.heap.size, 2, none⟩ = some (.int .i64 m)) (first | (exact ⟨by assumption, by assumption⟩) | go_keep) (first | (go_at_call 16; refine (hFi' _).mono ?_; rintro e w8 ⟨v8, rfl, hn8⟩; obtain ⟨A8, c8, rfl, r8, far8, -⟩ := newB_rd_far hn8 h7.ref.low; have h8 := h7.fresh hn8.2.1; have B8 := B7.drew.fresh hn8.2.1; have q81 := B8.at_ 1 rfl; have q82 := B8.at_ 2 rfl) | (go_at_call 59; refine (RWrite_calls h8.ref hi.ok a r8 far8 hwl hwl2).mono ?_; rintro e w9 ⟨rfl, hA9, k9⟩; rw [← HC.out]; have h9 := h8.opG hA9 k9; have q91 := (B8.keep k9 hB2).at_ 1 rfl; have q92 := (B8.keep k9 hB2).at_ 2 rfl))
    all_goals
      go_wp2_with fail
      go_ret
      exact ⟨rfl, _, _, h9.same⟩

theorem done_none (h : Twin w0 w F G g d g') (o a m : Int) (s : Bool) (kv : Value) (b0 : (o == 0) = false) (b1 : (o == 1) = false) (b2 : (o == 2) = false) (b3 : (o == 3) = false) (b4 : (o == 4) = false) (b5 : (o == 5) = false) :
    Calls Try.prog 32 #[ptr g, ptr g', .agg #[.int .i64 o, .int .i64 a, .int .i64 m, .bool s, kv]] w (DonePost w0 g g' d) := by
  have h1 := h.fresh ((Keep.refl _ w).alloc (.cells #[.int .i64 o, .int .i64 a, .int .i64 m, .bool s, kv] 52))
  go_enter Try.func32, Try.ntmps32
  go_wp2
  go_ret
  exact ⟨rfl, _, _, h1⟩
end
end Go.Proofs.Ytfmfedfalljokaa
