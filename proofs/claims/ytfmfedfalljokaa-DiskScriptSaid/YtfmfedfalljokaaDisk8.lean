/-
  The disk read, in one; a disk beside other things; what every program answers that is one (awake).
-/
import Derived.Test.YtfmfedfalljokaaDisk7
namespace Go.Proofs.Ytfmfedfalljokaa
open Go.RowKit

/-- Each sector's bytes are 128. -/
def Sec (d : DiskS) : Prop := (∀ p ∈ d.firm, p.length = 128) ∧ ∀ p ∈ d.waits, p.2.length = 128

theorem Read_calls {F : Nat → Prop} {w : World} {g : Nat} {d : DiskS} (h : DiskAt F w g d) (hs : Sec d) (x : Int) (hn : d.waits.length ≤ 1000000) :
    Calls Try.prog 22 #[ptr g, .int .i64 x] w fun e w' => ∃ v, e = .returned (.tuple #[v, .int .i64 (d.read x).1]) ∧ NewB w w' 5 .u8 v (d.read x).2.length (d.read x).2 := by
  by_cases hask : d.asked (d.there x) = 0
  · refine (Read_yes h x hask hn (fun p hp => by rw [hs.2 p hp]; omega) (fun p hp => by rw [hs.1 p hp]; omega)).mono ?_
    rintro e w' ⟨v, rfl, hv⟩
    have : (d.read x).1 = 0 := by unfold DiskS.read; rw [if_pos hask]
    rw [this]
    exact ⟨v, rfl, hv⟩
  · refine (Read_no h x hask).mono ?_
    rintro e w' ⟨rfl, hv⟩
    have h1 : (d.read x).1 = d.asked (d.there x) := by unfold DiskS.read; rw [if_neg hask]
    have h2 : (d.read x).2 = [] := by unfold DiskS.read; rw [if_neg hask]
    rw [h1, h2]
    exact ⟨_, rfl, Own.nil _ _ _, hv, freshV_none _ _ _⟩

/-! ### a disk that has been made since w0 -/
structure Ses (w0 w : World) (F : Nat → Prop) (g : Nat) (d : DiskS) : Prop where
  at_ : DiskAt F w g d
  new : ∀ b, F b → w0.heap.size ≤ b
  kept : Fresh w0 w
theorem DiskAt.low {F : Nat → Prop} {w : World} {g : Nat} {d : DiskS} (h : DiskAt F w g d) : ∀ b, F b → b < w.heap.size := by
  obtain ⟨fv, wv, av, rv, fvs, ws, h⟩ := h
  exact h.low
theorem Ses.op {w0 w w' : World} {F : Nat → Prop} {g : Nat} {d d' : DiskS} (h : Ses w0 w F g d) (ha : DiskAt (Grow F w w') w' g d') (hk : Keep F w w') : Ses w0 w' (Grow F w w') g d' :=
  ⟨ha, fun b hb => hb.elim (h.new b) (fun hb => Nat.le_trans h.kept.size hb.1), h.kept.trans hk (fun b hb hf => by have := h.new b hf; omega)⟩
theorem Ses.same {w0 w w' : World} {F : Nat → Prop} {g : Nat} {d d' : DiskS} (h : Ses w0 w F g d) (ha : DiskAt F w' g d') (hk : Keep F w w') : Ses w0 w' F g d' :=
  ⟨ha, h.new, h.kept.trans hk (fun b hb hf => by have := h.new b hf; omega)⟩
theorem Ses.fresh {w0 w w' : World} {F : Nat → Prop} {g : Nat} {d : DiskS} (h : Ses w0 w F g d) (hk : Fresh w w') : Ses w0 w' F g d :=
  ⟨h.at_.fresh hk, h.new, h.kept.trans hk (fun _ _ f => f)⟩
theorem Ses.start {w0 w : World} {g : Nat} {d : DiskS} (ha : DiskAt (fun b => w0.heap.size ≤ b ∧ b < w.heap.size) w g d) (hk : Fresh w0 w) : Ses w0 w (fun b => w0.heap.size ≤ b ∧ b < w.heap.size) g d :=
  ⟨ha, fun _ hb => hb.1, hk⟩
/-- Another row, which the disk has nothing of. -/
theorem newB_far {F : Nat → Prop} {w w' : World} {e : TypeId} {ki : IntKind} {v : Value} {n : Nat} {l : List Int} (h : NewB w w' e ki v n l) (hF : ∀ b, F b → b < w.heap.size) : ∀ k, v.ownBlock = some k → ¬ F k :=
  fun k hk hf => by have := h.2.2 k hk; have := hF k hf; omega
theorem newB_rd {w w' : World} {e : TypeId} {ki : IntKind} {v : Value} {n : Nat} {l : List Int} (h : NewB w w' e ki v n l) : ∃ A c, v = .slice A n c ∧ Rd w' 1 A n (iv ki l) := by
  obtain ⟨A, c, rfl, -, hr⟩ := Own.rd h.1
  exact ⟨A, c, rfl, hr⟩
theorem newB_rd_far {F : Nat → Prop} {w w' : World} {e : TypeId} {ki : IntKind} {v : Value} {n : Nat} {l : List Int} (h : NewB w w' e ki v n l) (hF : ∀ b, F b → b < w.heap.size) :
    ∃ A c, v = .slice A n c ∧ Rd w' 1 A n (iv ki l) ∧ (∀ ad, A = some ad → ¬ F ad.block) ∧ ∀ ad, A = some ad → w.heap.size ≤ ad.block := by
  rcases h.1.slice with ⟨rfl, rfl, he⟩ | ⟨b, c, rfl, hc, hb⟩
  · rw [he]
    exact ⟨none, 0, rfl, Rd.none_, (fun _ e => by cases e), (fun _ e => by cases e)⟩
  · exact ⟨_, c, rfl, Rd.of_own h.1, fun ad e => by cases e; exact newB_far h hF b rfl, fun ad e => by cases e; exact h.2.2 b rfl⟩

theorem zeros_rd (w : World) : Rd (w.alloc (.cells (madeCells #[.int .u8 0] 128) 5)) 1 (some ⟨w.heap.size, 0, none⟩) 128 (iv .u8 (zeros 128)) := Rd.of_own (made_u8 w 128 (by simp [maxLen]))
theorem SameInts_yes (w : World) {A1 A2 : Option Addr} {n1 n2 c1 c2 : Nat} {l1 l2 : List Int} (h1 : Rd w 1 A1 n1 (iv .i64 l1)) (h2 : Rd w 1 A2 n2 (iv .i64 l2)) (he : l1 = l2) :
    Calls Try.prog 33 #[.slice A1 n1 c1, .slice A2 n2 c2] w fun e w' => e = .returned (.bool true) ∧ Drawn w w' :=
  (SameInts_calls w h1 h2).mono fun e w' h => by rw [decide_eq_true he] at h; exact h
theorem SameBytes_yes (w : World) {A1 A2 : Option Addr} {n1 n2 c1 c2 : Nat} {l1 l2 : List Int} (h1 : Rd w 1 A1 n1 (iv .u8 l1)) (h2 : Rd w 1 A2 n2 (iv .u8 l2)) (he : l1 = l2) :
    Calls Try.prog 23 #[.slice A1 n1 c1, .slice A2 n2 c2] w fun e w' => e = .returned (.bool true) ∧ Drawn w w' :=
  (SameBytes_calls w h1 h2).mono fun e w' h => by rw [decide_eq_true he] at h; exact h
theorem SameParts_yes (w : World) {A1 A2 : Option Addr} {n1 n2 c1 c2 : Nat} {vs1 vs2 : List Value} {l1 l2 : List (List Int)} (h1 : Rd w 1 A1 n1 vs1) (h2 : Rd w 1 A2 n2 vs2) (g1 : RdL w n1 vs1 l1) (g2 : RdL w n2 vs2 l2) (he : l1 = l2) :
    Calls Try.prog 18 #[.slice A1 n1 c1, .slice A2 n2 c2] w fun e w' => e = .returned (.bool true) ∧ Drawn w w' :=
  (SameParts_calls w h1 h2 g1 g2).mono fun e w' h => by rw [decide_eq_true he] at h; exact h

set_option maxHeartbeats 400000 in
set_option maxRecDepth 100000 in
theorem awake_calls (w : World) : Calls Try.prog 12 #[] w fun e w' => e = .returned (.bool true) ∧ Fresh w w' := by
  obtain ⟨d0, hd0⟩ : ∃ d0, d0 = DiskS.new 3 := ⟨_, rfl⟩
  obtain ⟨d1, hd1⟩ : ∃ d1, d1 = (d0.write 1 (fillL 5 128)).2 := ⟨_, rfl⟩
  obtain ⟨d2, hd2⟩ : ∃ d2, d2 = d1.crash [] := ⟨_, rfl⟩
  obtain ⟨d3, hd3⟩ : ∃ d3, d3 = d2.boot.2 := ⟨_, rfl⟩
  have e1 : (d0.write 1 (fillL 5 128)).1 = 0 := by rw [hd0]; decide +kernel
  have e2 : d1.waits.map (·.1) = [1] := by rw [hd1, hd0]; decide +kernel
  have e3 : d2.asked (d2.there 1) = 4 := by rw [hd2, hd1, hd0]; decide +kernel
  have e4 : d2.boot.1 = 0 := by rw [hd2, hd1, hd0]; decide +kernel
  have e5 : d3.read 1 = (0, List.replicate 128 0) := by rw [hd3, hd2, hd1, hd0]; decide +kernel
  have e6 : d3.firm.length = 3 := by rw [hd3, hd2, hd1, hd0]; decide +kernel
  have s0 : d0.waits.length ≤ 1000000 ∧ d0.writes.length ≤ 1000000 := by rw [hd0]; decide +kernel
  have s1 : d1.waits.length = 1 := by rw [hd1, hd0]; decide +kernel
  have s3 : d3.waits.length ≤ 1000000 := by rw [hd3, hd2, hd1, hd0]; decide +kernel
  have ok0 : d0.Ok := by rw [hd0]; exact ⟨by intro p hp; simp [DiskS.new] at hp, by intro l k h; simp [DiskS.new] at h, by intro h; simp [DiskS.new] at h⟩
  have fit1 : d1.Fit := by rw [hd1, hd0]; intro p hp; revert p; decide +kernel
  have sec3 : Sec d3 := by rw [hd3, hd2, hd1, hd0]; exact ⟨by decide +kernel, by decide +kernel⟩
  have e5a : (d3.read 1).1 = 0 := by rw [e5]
  have e5b : (d3.read 1).2 = List.replicate 128 0 := by rw [e5]
  have e5c : (d3.read 1).2.length = 128 := by rw [e5]; rfl
  clear e5
  have hN3 : ∀ w, Calls Try.prog 14 #[.int .i64 3] w fun e w' => ∃ g, e = .returned (ptr g) ∧ w.heap.size ≤ g ∧ DiskAt (fun b => w.heap.size ≤ b ∧ b < w'.heap.size) w' g d0 ∧ Fresh w w' := fun w => by rw [hd0]; exact New_calls 3 w (by omega) (by omega)
  have hN0 : ∀ w, Calls Try.prog 14 #[.int .i64 0] w fun e w' => e = .returned (.pointer none) ∧ w = w' := fun w => New_nil 0 w (.inl (by omega))
  have hFi : ∀ w, Calls Try.prog 16 #[.int .i64 5, .int .i64 128] w fun e w' => ∃ v, e = .returned v ∧ NewB w w' 5 .u8 v 128 (fillL 5 128) := fun w => Fill_calls 5 128 w (by omega) (by omega)
  have hmk := make_u8
  have HZ := Lib.hid (show (List.replicate 128 0 : List Int) = zeros 128 from rfl)
  clear hd0
  go_enter Try.func12, Try.ntmps12
  go_wp2_with (first | (go_at_call 14; have := hS10; refine (hN0 _).mono ?_; rintro e w' ⟨rfl, rfl⟩) | (go_at_call 14; refine (hN3 w).mono ?_; rintro e w1 ⟨g, rfl, -, hA1, k1⟩; have hS1 := Ses.start hA1 k1; clear hA1 k1) | (go_at_call 16; refine (hFi _).mono ?_; rintro e w2 ⟨v2, rfl, hn2⟩; obtain ⟨A2, c2, rfl, r2, far2, -⟩ := newB_rd_far hn2 hS1.at_.low; have hS2 := hS1.fresh hn2.2.1) | (go_at_call 15; refine (Write_calls hS2.at_ ok0 1 r2 far2 s0.1 s0.2).mono ?_; rintro e w3 ⟨rfl, hA3, k3⟩; rw [← hd1] at hA3; rw [e1]; have hS3 := hS2.op hA3 k3; clear hA3 k3 r2 far2) | (go_at_call 27; refine (Waiting_calls hS3.at_ (by rw [s1]; omega)).mono ?_; rintro e w4 ⟨v4, rfl, hn4⟩; rw [e2, s1] at hn4; obtain ⟨A4, c4, rfl, r4, far4, -⟩ := newB_rd_far hn4 hS3.at_.low; have hS4 := hS3.fresh hn4.2.1; clear hn4) | (go_at_call 17; refine (Crash_calls (keep := []) hS4.at_ fit1 Rd.none_ (fun _ e => by cases e)).mono ?_; rintro e w5 ⟨rfl, hA5, k5⟩; rw [← hd2] at hA5; have hS5 := hS4.same hA5 k5; have r5 := r4.keep k5 far4; clear hA5 k5) | (go_at_call 22; refine (Read_no hS5.at_ 1 (by rw [e3]; omega)).mono ?_; rintro e w6 ⟨rfl, k6⟩; rw [e3]; have hS6 := hS5.fresh k6; have r6 := r5.fresh k6; clear k6) | (go_at_call 21; refine (Boot_calls hS6.at_).mono ?_; rintro e w7 ⟨rfl, hA7, k7⟩; rw [← hd3] at hA7; rw [e4]; have hS7 := hS6.same hA7 k7; have r7 := r6.keep k7 far4; clear hA7 k7) | (go_at_call 22; refine (Read_calls hS7.at_ sec3 1 s3).mono ?_; rintro e w8 ⟨v8, rfl, hn8⟩; rw [e5c, e5b] at hn8; rw [e5a]; obtain ⟨A8, c8, rfl, r8, -, -⟩ := newB_rd_far hn8 hS7.at_.low; have hS8 := hS7.fresh hn8.2.1; have r8' := r7.fresh hn8.2.1; clear hn8) | (go_at_call 33; refine (SameInts_yes _ (r8'.alloc _) (Rd.one _ _ _ _) rfl).mono ?_; rintro e w9 ⟨rfl, D9⟩; have k9 : Fresh w8 w9 := ((Keep.refl _ _).alloc _).trans D9.fresh (fun _ _ f => f); have hS9 := hS8.fresh k9; have r9 := r8.fresh k9; clear k9 D9) | (go_at_call 23; refine (SameBytes_yes _ (r9.alloc _) (zeros_rd _) HZ.out).mono ?_; rintro e w10 ⟨rfl, D10⟩; have k10 : Fresh w9 w10 := ((Keep.refl _ _).alloc _).trans D10.fresh (fun _ _ f => f); have hS10 := hS9.fresh k10; clear k10 D10) | (go_at_call 30; refine (Sectors_calls hS10.at_).mono ?_; rintro e w' ⟨rfl, rfl⟩; rw [e6]))
  go_ret
  exact ⟨rfl, hS10.kept⟩
end Go.Proofs.Ytfmfedfalljokaa
