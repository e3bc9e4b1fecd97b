/-
  RecordApart, walked.
-/
import Derived.Test.YtcjackjoonijnaaApart1
import Derived.Test.YtcjackjoonijnaaTake
namespace Go.Proofs.Ytcjackjoonijnaa
open Go.RowKit

theorem Blk.new1 (w : World) (o : Obj) (t : TypeId) (cs : Array Value) : Blk ((w.alloc o).alloc (.cells cs t)) (w.heap.size + 1) t cs := by
  have e : (w.alloc o).heap.size = w.heap.size + 1 := by simp
  rw [← e]
  exact Blk.new _ _ _
theorem Blk.newS (w : World) (p : Addr) (u : Value) (t : TypeId) (cs : Array Value) : Blk ((w.setCell p u).alloc (.cells cs t)) w.heap.size t cs := by
  have e : (w.setCell p u).heap.size = w.heap.size := by simp [World.setCell]
  have h := Blk.new (w.setCell p u) t cs
  rwa [e] at h
theorem rdR_bad {l : List Int} (h : ¬ goodR l) : rdR l = Rcd.zero ∧ rdRE l = 3 := by
  unfold rdR rdRE
  rw [if_neg h, if_neg h]
  exact ⟨rfl, rfl⟩
theorem rdR_good {r : Rcd} (h : mayR r = true) : rdR (sealL 82 (bodyRL r)) = r ∧ rdRE (sealL 82 (bodyRL r)) = 0 := by
  unfold rdR rdRE
  rw [if_pos (rback h).1, if_pos (rback h).1]
  exact ⟨(rback h).2, rfl⟩
theorem xor8 (a b : Nat) (ha : a < 256) (hb : b < 256) : bits BinOp.xor IntKind.u8 (a : Int) (b : Int) = ((a ^^^ b : Nat) : Int) := by
  have hx : a ^^^ b < 2 ^ 8 := Nat.xor_lt_two_pow (by omega) (by omega)
  have h1 : (BitVec.ofInt 8 (a : Int)).toNat = a := by
    rw [BitVec.ofInt_natCast, BitVec.toNat_ofNat]; exact Nat.mod_eq_of_lt (by omega)
  have h2 : (BitVec.ofInt 8 (b : Int)).toNat = b := by
    rw [BitVec.ofInt_natCast, BitVec.toNat_ofNat]; exact Nat.mod_eq_of_lt (by omega)
  have hw : ∀ n : Int, IntKind.u8.wrap n = n % 256 := fun n => by simp [IntKind.wrap, IntKind.bits, IntKind.signed]
  show IntKind.u8.wrap ((BitVec.ofInt 8 (a : Int) ^^^ BitVec.ofInt 8 (b : Int)).toNat : Int) = _
  rw [BitVec.toNat_xor, h1, h2, hw]
  omega
theorem xor8_facts {a b : Int} (ha : 0 ≤ a ∧ a < 256) (hb : 0 ≤ b ∧ b < 256) : (0 ≤ bits BinOp.xor IntKind.u8 a b ∧ bits BinOp.xor IntKind.u8 a b < 256) ∧ (b = 0 → bits BinOp.xor IntKind.u8 a b = a) ∧ (b ≠ 0 → bits BinOp.xor IntKind.u8 a b ≠ a) := by
  obtain ⟨a, rfl⟩ := Int.eq_ofNat_of_zero_le ha.1
  obtain ⟨b, rfl⟩ := Int.eq_ofNat_of_zero_le hb.1
  rw [xor8 a b (by omega) (by omega)]
  have hx : a ^^^ b < 2 ^ 8 := Nat.xor_lt_two_pow (by omega) (by omega)
  refine ⟨by omega, fun h => ?_, fun h e => ?_⟩
  · obtain rfl : b = 0 := by omega
    rw [Nat.xor_zero]
  · have e' : a ^^^ b = a ^^^ 0 := by rw [Nat.xor_zero]; exact Int.ofNat_inj.1 e
    have := xor_cancel' e'
    omega

set_option maxRecDepth 100000 in
set_option maxHeartbeats 8000000 in
theorem apart_early0 (w : World) (r s : Rcd) (x y : Int)  (h0 : 100 < r.fn.size) :
    Calls Try.prog 4 #[r.val, s.val, .int .i64 x, .int .u8 y] w fun e w' => e = .returned (.bool true) ∧ Fresh w w' := by
  have hi0 : (100 : Int) < r.fn.size := by omega
  obtain ⟨ron, rfr, rtd, rino, rold, rfn, rtn⟩ := r
  obtain ⟨son, sfr, std, sino, sold, sfn, stn⟩ := s
  unfold Rcd.val Rcd.cells
  dsimp only at *
  go_enter Try.func4, Try.ntmps4
  go_wp2_with (first | (go_at_call 9; refine (awake10_calls _).mono ?_; rintro e wz ⟨rfl, kz⟩))
  go_ret
  exact ⟨rfl, (((Keep.refl (fun _ => False) w).alloc _).alloc _).trans kz (fun _ _ f => f)⟩
set_option maxRecDepth 100000 in
set_option maxHeartbeats 8000000 in
theorem apart_early1 (w : World) (r s : Rcd) (x y : Int) (h0 : r.fn.size ≤ 100) (h1 : 100 < r.tn.size) :
    Calls Try.prog 4 #[r.val, s.val, .int .i64 x, .int .u8 y] w fun e w' => e = .returned (.bool true) ∧ Fresh w w' := by
  have hi0 : (r.fn.size : Int) ≤ 100 := by omega
  have hi1 : (100 : Int) < r.tn.size := by omega
  obtain ⟨ron, rfr, rtd, rino, rold, rfn, rtn⟩ := r
  obtain ⟨son, sfr, std, sino, sold, sfn, stn⟩ := s
  unfold Rcd.val Rcd.cells
  dsimp only at *
  go_enter Try.func4, Try.ntmps4
  go_wp2_with (first | (go_at_call 9; refine (awake10_calls _).mono ?_; rintro e wz ⟨rfl, kz⟩))
  go_ret
  exact ⟨rfl, (((Keep.refl (fun _ => False) w).alloc _).alloc _).trans kz (fun _ _ f => f)⟩
set_option maxRecDepth 100000 in
set_option maxHeartbeats 8000000 in
theorem apart_early2 (w : World) (r s : Rcd) (x y : Int) (h0 : r.fn.size ≤ 100) (h1 : r.tn.size ≤ 100) (h2 : 100 < s.fn.size) :
    Calls Try.prog 4 #[r.val, s.val, .int .i64 x, .int .u8 y] w fun e w' => e = .returned (.bool true) ∧ Fresh w w' := by
  have hi0 : (r.fn.size : Int) ≤ 100 := by omega
  have hi1 : (r.tn.size : Int) ≤ 100 := by omega
  have hi2 : (100 : Int) < s.fn.size := by omega
  obtain ⟨ron, rfr, rtd, rino, rold, rfn, rtn⟩ := r
  obtain ⟨son, sfr, std, sino, sold, sfn, stn⟩ := s
  unfold Rcd.val Rcd.cells
  dsimp only at *
  go_enter Try.func4, Try.ntmps4
  go_wp2_with (first | (go_at_call 9; refine (awake10_calls _).mono ?_; rintro e wz ⟨rfl, kz⟩))
  go_ret
  exact ⟨rfl, (((Keep.refl (fun _ => False) w).alloc _).alloc _).trans kz (fun _ _ f => f)⟩
set_option maxRecDepth 100000 in
set_option maxHeartbeats 8000000 in
theorem apart_early3 (w : World) (r s : Rcd) (x y : Int) (h0 : r.fn.size ≤ 100) (h1 : r.tn.size ≤ 100) (h2 : s.fn.size ≤ 100) (h3 : 100 < s.tn.size) :
    Calls Try.prog 4 #[r.val, s.val, .int .i64 x, .int .u8 y] w fun e w' => e = .returned (.bool true) ∧ Fresh w w' := by
  have hi0 : (r.fn.size : Int) ≤ 100 := by omega
  have hi1 : (r.tn.size : Int) ≤ 100 := by omega
  have hi2 : (s.fn.size : Int) ≤ 100 := by omega
  have hi3 : (100 : Int) < s.tn.size := by omega
  obtain ⟨ron, rfr, rtd, rino, rold, rfn, rtn⟩ := r
  obtain ⟨son, sfr, std, sino, sold, sfn, stn⟩ := s
  unfold Rcd.val Rcd.cells
  dsimp only at *
  go_enter Try.func4, Try.ntmps4
  go_wp2_with (first | (go_at_call 9; refine (awake10_calls _).mono ?_; rintro e wz ⟨rfl, kz⟩))
  go_ret
  exact ⟨rfl, (((Keep.refl (fun _ => False) w).alloc _).alloc _).trans kz (fun _ _ f => f)⟩
set_option maxRecDepth 100000 in
set_option maxHeartbeats 8000000 in
theorem apart_no_false_false (w : World) (r s : Rcd) (x y : Int) (h0 : r.fn.size ≤ 100) (h1 : r.tn.size ≤ 100) (h2 : s.fn.size ≤ 100) (h3 : s.tn.size ≤ 100) (hm1 : mayR r = false) (hm2 : mayR s = false) :
    Calls Try.prog 4 #[r.val, s.val, .int .i64 x, .int .u8 y] w fun e w' => e = .returned (.bool true) ∧ Fresh w w' := by
  have hi0 : (r.fn.size : Int) ≤ 100 := by omega
  have hi1 : (r.tn.size : Int) ≤ 100 := by omega
  have hi2 : (s.fn.size : Int) ≤ 100 := by omega
  have hi3 : (s.tn.size : Int) ≤ 100 := by omega
  have lay1 : ∀ w, Calls Try.prog 11 #[r.val] w fun e w' => ∃ v N X, e = .returned (.tuple #[v, .int .i64 2]) ∧ NewB w w' 5 .u8 v N X := fun w => (RcLay_calls r w (by omega) (by omega)).mono fun e w' h => by
    obtain ⟨v, h1, h2⟩ := layR_of h
    unfold layRE at h1
    rw [hm1] at h1
    exact ⟨v, _, _, h1, h2⟩
  have lay2 : ∀ w, Calls Try.prog 11 #[s.val] w fun e w' => ∃ v N X, e = .returned (.tuple #[v, .int .i64 2]) ∧ NewB w w' 5 .u8 v N X := fun w => (RcLay_calls s w (by omega) (by omega)).mono fun e w' h => by
    obtain ⟨v, h1, h2⟩ := layR_of h
    unfold layRE at h1
    rw [hm2] at h1
    exact ⟨v, _, _, h1, h2⟩
  have may1 : ∀ w, Calls Try.prog 16 #[r.val] w fun e w' => e = .returned (.bool false) ∧ Fresh w w' := fun w => by have := RcMay_calls r w (by omega) (by omega); rwa [hm1] at this
  have may2 : ∀ w, Calls Try.prog 16 #[s.val] w fun e w' => e = .returned (.bool false) ∧ Fresh w w' := fun w => by have := RcMay_calls s w (by omega) (by omega); rwa [hm2] at this
  have L1 := Lib.hid lay1
  have L2 := Lib.hid lay2
  have M1 := Lib.hid may1
  have M2 := Lib.hid may2
  clear lay1 lay2 may1 may2 hm1 hm2
  obtain ⟨ron, rfr, rtd, rino, rold, rfn, rtn⟩ := r
  obtain ⟨son, sfr, std, sino, sold, sfn, stn⟩ := s
  unfold Rcd.val Rcd.cells at L1 L2 M1 M2 ⊢
  dsimp only at *
  have HA := Lib.hid ((Blk.new w 23 #[.bool ron, .int .i64 rfr, .int .i64 rtd, .int .i64 rino, .int .i64 rold, .string rfn, .string rtn]).alloc (.cells #[.bool son, .int .i64 sfr, .int .i64 std, .int .i64 sino, .int .i64 sold, .string sfn, .string stn] 23))
  have HS := Lib.hid (Blk.new1 w (.cells #[.bool ron, .int .i64 rfr, .int .i64 rtd, .int .i64 rino, .int .i64 rold, .string rfn, .string rtn] 23) 23 #[.bool son, .int .i64 sfr, .int .i64 std, .int .i64 sino, .int .i64 sold, .string sfn, .string stn])
  have HF := Lib.hid (((Keep.refl (fun _ => False) w).alloc (.cells #[.bool ron, .int .i64 rfr, .int .i64 rtd, .int .i64 rino, .int .i64 rold, .string rfn, .string rtn] 23)).alloc (.cells #[.bool son, .int .i64 sfr, .int .i64 std, .int .i64 sino, .int .i64 sold, .string sfn, .string stn] 23))
  go_enter Try.func4, Try.ntmps4
  go_wp2_with (first
    | (refine wpList_load_blk HA.out rfl 23 (.tmp 4) rfl rfl rec_und rfl rec_size ?_)
    | (refine wpList_load_blk HS.out rfl 23 (.tmp 5) rfl rfl rec_und rfl rec_size ?_)
    | (go_at_call 11; have _t := HT1; refine (L2.out _).mono ?_; rintro e w3 ⟨v3, N3, X3, rfl, h3⟩; obtain ⟨A3, c3, rfl⟩ := h3.1.shape; have k3 := h3.2.1; clear h3; have HA := Lib.hid (HA.out.fresh k3); have HS := Lib.hid (HS.out.fresh k3); have HF := Lib.hid (HF.out.trans k3 (fun _ _ f => f)))
    | (go_at_call 11; refine (L1.out _).mono ?_; rintro e w2 ⟨v2, N2, X2, rfl, h2⟩; obtain ⟨A2, c2, rfl⟩ := h2.1.shape; have k2 := h2.2.1; clear h2; have HT1 : Hid True := trivial; have HA := Lib.hid (HA.out.fresh k2); have HS := Lib.hid (HS.out.fresh k2); have HF := Lib.hid (HF.out.trans k2 (fun _ _ f => f)))
    | (go_at_call 16; have _t := HT2; refine (M2.out _).mono ?_; rintro e w5 ⟨rfl, k5⟩; have HA := Lib.hid (HA.out.fresh k5); have HS := Lib.hid (HS.out.fresh k5); have HF := Lib.hid (HF.out.trans k5 (fun _ _ f => f)))
    | (go_at_call 16; refine (M1.out _).mono ?_; rintro e w4 ⟨rfl, k4⟩; have HT2 : Hid True := trivial; have HA := Lib.hid (HA.out.fresh k4); have HS := Lib.hid (HS.out.fresh k4); have HF := Lib.hid (HF.out.trans k4 (fun _ _ f => f)); obtain ⟨b0, b1, b2, b3, b4, b5, b6⟩ := Blk.c7 HS.out)
    | (go_at_call 9; refine (awake10_calls _).mono ?_; rintro e wz ⟨rfl, kz⟩))
  go_ret
  exact ⟨rfl, HF.out.trans kz (fun _ _ f => f)⟩
set_option maxRecDepth 100000 in
set_option maxHeartbeats 8000000 in
theorem apart_no_false_true (w : World) (r s : Rcd) (x y : Int) (h0 : r.fn.size ≤ 100) (h1 : r.tn.size ≤ 100) (h2 : s.fn.size ≤ 100) (h3 : s.tn.size ≤ 100) (hm1 : mayR r = false) (hm2 : mayR s = true) :
    Calls Try.prog 4 #[r.val, s.val, .int .i64 x, .int .u8 y] w fun e w' => e = .returned (.bool true) ∧ Fresh w w' := by
  have hi0 : (r.fn.size : Int) ≤ 100 := by omega
  have hi1 : (r.tn.size : Int) ≤ 100 := by omega
  have hi2 : (s.fn.size : Int) ≤ 100 := by omega
  have hi3 : (s.tn.size : Int) ≤ 100 := by omega
  have lay1 : ∀ w, Calls Try.prog 11 #[r.val] w fun e w' => ∃ v N X, e = .returned (.tuple #[v, .int .i64 2]) ∧ NewB w w' 5 .u8 v N X := fun w => (RcLay_calls r w (by omega) (by omega)).mono fun e w' h => by
    obtain ⟨v, h1, h2⟩ := layR_of h
    unfold layRE at h1
    rw [hm1] at h1
    exact ⟨v, _, _, h1, h2⟩
  have lay2 : ∀ w, Calls Try.prog 11 #[s.val] w fun e w' => ∃ v N X, e = .returned (.tuple #[v, .int .i64 0]) ∧ NewB w w' 5 .u8 v N X := fun w => (RcLay_calls s w (by omega) (by omega)).mono fun e w' h => by
    obtain ⟨v, h1, h2⟩ := layR_of h
    unfold layRE at h1
    rw [hm2] at h1
    exact ⟨v, _, _, h1, h2⟩
  have may1 : ∀ w, Calls Try.prog 16 #[r.val] w fun e w' => e = .returned (.bool false) ∧ Fresh w w' := fun w => by have := RcMay_calls r w (by omega) (by omega); rwa [hm1] at this
  have may2 : ∀ w, Calls Try.prog 16 #[s.val] w fun e w' => e = .returned (.bool true) ∧ Fresh w w' := fun w => by have := RcMay_calls s w (by omega) (by omega); rwa [hm2] at this
  have L1 := Lib.hid lay1
  have L2 := Lib.hid lay2
  have M1 := Lib.hid may1
  have M2 := Lib.hid may2
  clear lay1 lay2 may1 may2 hm1 hm2
  obtain ⟨ron, rfr, rtd, rino, rold, rfn, rtn⟩ := r
  obtain ⟨son, sfr, std, sino, sold, sfn, stn⟩ := s
  unfold Rcd.val Rcd.cells at L1 L2 M1 M2 ⊢
  dsimp only at *
  have HA := Lib.hid ((Blk.new w 23 #[.bool ron, .int .i64 rfr, .int .i64 rtd, .int .i64 rino, .int .i64 rold, .string rfn, .string rtn]).alloc (.cells #[.bool son, .int .i64 sfr, .int .i64 std, .int .i64 sino, .int .i64 sold, .string sfn, .string stn] 23))
  have HS := Lib.hid (Blk.new1 w (.cells #[.bool ron, .int .i64 rfr, .int .i64 rtd, .int .i64 rino, .int .i64 rold, .string rfn, .string rtn] 23) 23 #[.bool son, .int .i64 sfr, .int .i64 std, .int .i64 sino, .int .i64 sold, .string sfn, .string stn])
  have HF := Lib.hid (((Keep.refl (fun _ => False) w).alloc (.cells #[.bool ron, .int .i64 rfr, .int .i64 rtd, .int .i64 rino, .int .i64 rold, .string rfn, .string rtn] 23)).alloc (.cells #[.bool son, .int .i64 sfr, .int .i64 std, .int .i64 sino, .int .i64 sold, .string sfn, .string stn] 23))
  go_enter Try.func4, Try.ntmps4
  go_wp2_with (first
    | (refine wpList_load_blk HA.out rfl 23 (.tmp 4) rfl rfl rec_und rfl rec_size ?_)
    | (refine wpList_load_blk HS.out rfl 23 (.tmp 5) rfl rfl rec_und rfl rec_size ?_)
    | (go_at_call 11; have _t := HT1; refine (L2.out _).mono ?_; rintro e w3 ⟨v3, N3, X3, rfl, h3⟩; obtain ⟨A3, c3, rfl⟩ := h3.1.shape; have k3 := h3.2.1; clear h3; have HA := Lib.hid (HA.out.fresh k3); have HS := Lib.hid (HS.out.fresh k3); have HF := Lib.hid (HF.out.trans k3 (fun _ _ f => f)))
    | (go_at_call 11; refine (L1.out _).mono ?_; rintro e w2 ⟨v2, N2, X2, rfl, h2⟩; obtain ⟨A2, c2, rfl⟩ := h2.1.shape; have k2 := h2.2.1; clear h2; have HT1 : Hid True := trivial; have HA := Lib.hid (HA.out.fresh k2); have HS := Lib.hid (HS.out.fresh k2); have HF := Lib.hid (HF.out.trans k2 (fun _ _ f => f)))
    | (go_at_call 16; have _t := HT2; refine (M2.out _).mono ?_; rintro e w5 ⟨rfl, k5⟩; have HA := Lib.hid (HA.out.fresh k5); have HS := Lib.hid (HS.out.fresh k5); have HF := Lib.hid (HF.out.trans k5 (fun _ _ f => f)))
    | (go_at_call 16; refine (M1.out _).mono ?_; rintro e w4 ⟨rfl, k4⟩; have HT2 : Hid True := trivial; have HA := Lib.hid (HA.out.fresh k4); have HS := Lib.hid (HS.out.fresh k4); have HF := Lib.hid (HF.out.trans k4 (fun _ _ f => f)); obtain ⟨b0, b1, b2, b3, b4, b5, b6⟩ := Blk.c7 HS.out)
    | (go_at_call 9; refine (awake10_calls _).mono ?_; rintro e wz ⟨rfl, kz⟩))
  go_ret
  exact ⟨rfl, HF.out.trans kz (fun _ _ f => f)⟩
set_option maxRecDepth 100000 in
set_option maxHeartbeats 8000000 in
theorem apart_no_true_false (w : World) (r s : Rcd) (x y : Int) (h0 : r.fn.size ≤ 100) (h1 : r.tn.size ≤ 100) (h2 : s.fn.size ≤ 100) (h3 : s.tn.size ≤ 100) (hm1 : mayR r = true) (hm2 : mayR s = false) :
    Calls Try.prog 4 #[r.val, s.val, .int .i64 x, .int .u8 y] w fun e w' => e = .returned (.bool true) ∧ Fresh w w' := by
  have hi0 : (r.fn.size : Int) ≤ 100 := by omega
  have hi1 : (r.tn.size : Int) ≤ 100 := by omega
  have hi2 : (s.fn.size : Int) ≤ 100 := by omega
  have hi3 : (s.tn.size : Int) ≤ 100 := by omega
  have lay1 : ∀ w, Calls Try.prog 11 #[r.val] w fun e w' => ∃ v N X, e = .returned (.tuple #[v, .int .i64 0]) ∧ NewB w w' 5 .u8 v N X := fun w => (RcLay_calls r w (by omega) (by omega)).mono fun e w' h => by
    obtain ⟨v, h1, h2⟩ := layR_of h
    unfold layRE at h1
    rw [hm1] at h1
    exact ⟨v, _, _, h1, h2⟩
  have lay2 : ∀ w, Calls Try.prog 11 #[s.val] w fun e w' => ∃ v N X, e = .returned (.tuple #[v, .int .i64 2]) ∧ NewB w w' 5 .u8 v N X := fun w => (RcLay_calls s w (by omega) (by omega)).mono fun e w' h => by
    obtain ⟨v, h1, h2⟩ := layR_of h
    unfold layRE at h1
    rw [hm2] at h1
    exact ⟨v, _, _, h1, h2⟩
  have may1 : ∀ w, Calls Try.prog 16 #[r.val] w fun e w' => e = .returned (.bool true) ∧ Fresh w w' := fun w => by have := RcMay_calls r w (by omega) (by omega); rwa [hm1] at this
  have may2 : ∀ w, Calls Try.prog 16 #[s.val] w fun e w' => e = .returned (.bool false) ∧ Fresh w w' := fun w => by have := RcMay_calls s w (by omega) (by omega); rwa [hm2] at this
  have L1 := Lib.hid lay1
  have L2 := Lib.hid lay2
  have M1 := Lib.hid may1
  have M2 := Lib.hid may2
  clear lay1 lay2 may1 may2 hm1 hm2
  obtain ⟨ron, rfr, rtd, rino, rold, rfn, rtn⟩ := r
  obtain ⟨son, sfr, std, sino, sold, sfn, stn⟩ := s
  unfold Rcd.val Rcd.cells at L1 L2 M1 M2 ⊢
  dsimp only at *
  have HA := Lib.hid ((Blk.new w 23 #[.bool ron, .int .i64 rfr, .int .i64 rtd, .int .i64 rino, .int .i64 rold, .string rfn, .string rtn]).alloc (.cells #[.bool son, .int .i64 sfr, .int .i64 std, .int .i64 sino, .int .i64 sold, .string sfn, .string stn] 23))
  have HS := Lib.hid (Blk.new1 w (.cells #[.bool ron, .int .i64 rfr, .int .i64 rtd, .int .i64 rino, .int .i64 rold, .string rfn, .string rtn] 23) 23 #[.bool son, .int .i64 sfr, .int .i64 std, .int .i64 sino, .int .i64 sold, .string sfn, .string stn])
  have HF := Lib.hid (((Keep.refl (fun _ => False) w).alloc (.cells #[.bool ron, .int .i64 rfr, .int .i64 rtd, .int .i64 rino, .int .i64 rold, .string rfn, .string rtn] 23)).alloc (.cells #[.bool son, .int .i64 sfr, .int .i64 std, .int .i64 sino, .int .i64 sold, .string sfn, .string stn] 23))
  go_enter Try.func4, Try.ntmps4
  go_wp2_with (first
    | (refine wpList_load_blk HA.out rfl 23 (.tmp 4) rfl rfl rec_und rfl rec_size ?_)
    | (refine wpList_load_blk HS.out rfl 23 (.tmp 5) rfl rfl rec_und rfl rec_size ?_)
    | (go_at_call 11; have _t := HT1; refine (L2.out _).mono ?_; rintro e w3 ⟨v3, N3, X3, rfl, h3⟩; obtain ⟨A3, c3, rfl⟩ := h3.1.shape; have k3 := h3.2.1; clear h3; have HA := Lib.hid (HA.out.fresh k3); have HS := Lib.hid (HS.out.fresh k3); have HF := Lib.hid (HF.out.trans k3 (fun _ _ f => f)))
    | (go_at_call 11; refine (L1.out _).mono ?_; rintro e w2 ⟨v2, N2, X2, rfl, h2⟩; obtain ⟨A2, c2, rfl⟩ := h2.1.shape; have k2 := h2.2.1; clear h2; have HT1 : Hid True := trivial; have HA := Lib.hid (HA.out.fresh k2); have HS := Lib.hid (HS.out.fresh k2); have HF := Lib.hid (HF.out.trans k2 (fun _ _ f => f)))
    | (go_at_call 16; have _t := HT2; refine (M2.out _).mono ?_; rintro e w5 ⟨rfl, k5⟩; have HA := Lib.hid (HA.out.fresh k5); have HS := Lib.hid (HS.out.fresh k5); have HF := Lib.hid (HF.out.trans k5 (fun _ _ f => f)))
    | (go_at_call 16; refine (M1.out _).mono ?_; rintro e w4 ⟨rfl, k4⟩; have HT2 : Hid True := trivial; have HA := Lib.hid (HA.out.fresh k4); have HS := Lib.hid (HS.out.fresh k4); have HF := Lib.hid (HF.out.trans k4 (fun _ _ f => f)); obtain ⟨b0, b1, b2, b3, b4, b5, b6⟩ := Blk.c7 HS.out)
    | (go_at_call 9; refine (awake10_calls _).mono ?_; rintro e wz ⟨rfl, kz⟩))
  go_ret
  exact ⟨rfl, HF.out.trans kz (fun _ _ f => f)⟩
set_option maxRecDepth 100000 in
set_option maxHeartbeats 8000000 in
theorem apart_yes_z (w : World) (r s : Rcd) (x y : Int) (h0 : r.fn.size ≤ 100) (h1 : r.tn.size ≤ 100) (h2 : s.fn.size ≤ 100) (h3 : s.tn.size ≤ 100) (hy : y = 0) (hm1 : mayR r = true) (hm2 : mayR s = true) :
    Calls Try.prog 4 #[r.val, s.val, .int .i64 x, .int .u8 y] w fun e w' => e = .returned (.bool true) ∧ Fresh w w' := by
  have hi0 : (r.fn.size : Int) ≤ 100 := by omega
  have hi1 : (r.tn.size : Int) ≤ 100 := by omega
  have hi2 : (s.fn.size : Int) ≤ 100 := by omega
  have hi3 : (s.tn.size : Int) ≤ 100 := by omega
  obtain ⟨k, hk0, hk⟩ : ∃ k : Nat, lowI x 128 = (k : Int) ∧ k < 128 := by
    have q1 := lowI_nn x 128 (by omega)
    have q2 := lowI_lt x 128 (by omega)
    exact ⟨(lowI x 128).toNat, by omega, by omega⟩
  have low1 : ∀ w, Calls Try.prog 20 #[.int .i64 x, .int .i64 128] w fun e w' => e = .returned (.int .i64 (k : Int)) ∧ w = w' := fun w => by
    have := Low_calls x 128 w (by omega) (by omega)
    rwa [hk0] at this
  obtain ⟨X, hX⟩ : ∃ X, sealL 82 (bodyRL r) = X := ⟨_, rfl⟩
  obtain ⟨Y, hY⟩ : ∃ Y, sealL 82 (bodyRL s) = Y := ⟨_, rfl⟩
  have hXl : X.length = 128 := by rw [← hX]; exact sealL_len 82 _ (by have := bodyRL_len hm1; omega)
  obtain ⟨v, hv⟩ : ∃ v, X.getD k 0 = v := ⟨_, rfl⟩
  have hv0 : 0 ≤ v ∧ v < 256 := by
    have h8 := rlay_bytes hm1
    rw [hX] at h8
    have hlt : k < X.length := by rw [hXl]; exact hk
    have := h8 (X.getD k 0) (by rw [List.getD_eq_getElem?_getD, List.getElem?_eq_getElem hlt]; exact List.getElem_mem hlt)
    rw [hv] at this
    omega
  have hxf := xor8_facts hv0 (b := y) (by omega)
  have rd1 : rdR (X.set k (bits BinOp.xor IntKind.u8 v y)) = r ∧ rdRE (X.set k (bits BinOp.xor IntKind.u8 v y)) = 0 := by
    have : X.set k v = X := by
      obtain ⟨p1, p2⟩ := set_parts (l := X) (i := k) (by rw [hXl]; exact hk) v
      rw [p2, ← hv]
      exact p1.symm
    rw [hxf.2.1 hy, this, ← hX]
    exact rdR_good hm1
  have hst : (iv .u8 X).set k (.int .u8 (bits BinOp.xor IntKind.u8 v y)) = iv .u8 (X.set k (bits BinOp.xor IntKind.u8 v y)) := by simp [iv, List.map_set]
  have hB8 : Bytes8 (X.set k (bits BinOp.xor IntKind.u8 v y)) := by
    intro a ha
    have h8 := rlay_bytes hm1
    rw [hX] at h8
    rcases List.mem_or_eq_of_mem_set ha with h | h
    · exact h8 a h
    · rw [h]; exact hxf.1
  have read1 : ∀ (w : World) (A' : Option Addr) (c' : Nat), Rd w 1 A' 128 (iv .u8 (X.set k (bits BinOp.xor IntKind.u8 v y))) → 128 ≤ c' → Calls Try.prog 13 #[.slice A' 128 c'] w fun e w' => e = .returned (.tuple #[r.val, .int .i64 0]) ∧ Fresh w w' := fun w A' c' h h' => (RcRead_calls w h hB8 h').mono fun e w' h => by
    have := readR_of h
    rwa [rd1.1, rd1.2] at this
  have lay1 : ∀ w, Calls Try.prog 11 #[r.val] w (SealPost w X) := fun w => by have := RcLay_yes r w hm1; rwa [hX] at this
  have lay2 : ∀ w, Calls Try.prog 11 #[s.val] w (SealPost w Y) := fun w => by have := RcLay_yes s w hm2; rwa [hY] at this
  obtain ⟨z, hz⟩ : ∃ z, eqRB r s = z := ⟨_, rfl⟩
  have hzz : decide (X = Y) = z := by rw [← hX, ← hY, lay_alike hm1 hm2, hz]
  have HZ := Lib.hid hzz
  obtain ⟨o, ho⟩ : ∃ o, eqRB ⟨false, r.fr, r.td, r.ino, r.old, r.fn, r.tn⟩ Rcd.zero = o := ⟨_, rfl⟩
  have may1 : ∀ w, Calls Try.prog 16 #[(⟨false, r.fr, r.td, r.ino, r.old, r.fn, r.tn⟩ : Rcd).val] w fun e w' => e = .returned (.bool o) ∧ Fresh w w' := fun w => by have := RcMay_calls ⟨false, r.fr, r.td, r.ino, r.old, r.fn, r.tn⟩ w (by dsimp only; omega) (by dsimp only; omega); rwa [may_off, ho] at this
  have L1 := Lib.hid lay1
  have L2 := Lib.hid lay2
  have M1 := Lib.hid may1
  have LO := Lib.hid low1
  have RD := Lib.hid read1
  have HST := Lib.hid hst
  have HV := Lib.hid hv
  have HXL := Lib.hid hXl
  clear lay1 lay2 may1 low1 read1 hst hv hXl hX hY hzz hk0 hB8 rd1 hxf
  have hk1 : (k : Int) < 128 := by omega
  have hk2 : (0 : Int) ≤ (k : Int) := Int.natCast_nonneg _
  clear hm1 hm2
  subst hy
  obtain ⟨ron, rfr, rtd, rino, rold, rfn, rtn⟩ := r
  obtain ⟨son, sfr, std, sino, sold, sfn, stn⟩ := s
  unfold Rcd.val Rcd.cells at L1 L2 M1 RD ⊢
  dsimp only [Rcd.zero] at *
  have hEQ : ∀ w : World, (Op.equalIn 10000 23 (.agg #[.bool ron, .int .i64 rfr, .int .i64 rtd, .int .i64 rino, .int .i64 rold, .string rfn, .string rtn]) (.agg #[.bool son, .int .i64 sfr, .int .i64 std, .int .i64 sino, .int .i64 sold, .string sfn, .string stn])).run Try.prog w = .ok z w := fun w => by rw [eq_rcd, hz]
  have hEO : ∀ w : World, (Op.equalIn 10000 23 (.agg #[.bool false, .int .i64 rfr, .int .i64 rtd, .int .i64 rino, .int .i64 rold, .string rfn, .string rtn]) (.agg #[.bool false, .int .i64 0, .int .i64 0, .int .i64 0, .int .i64 0, .string ⟨#[]⟩, .string ⟨#[]⟩])).run Try.prog w = .ok o w := fun w => by rw [eq_rcd, ho]
  clear hz ho
  have HA := Lib.hid ((Blk.new w 23 #[.bool ron, .int .i64 rfr, .int .i64 rtd, .int .i64 rino, .int .i64 rold, .string rfn, .string rtn]).alloc (.cells #[.bool son, .int .i64 sfr, .int .i64 std, .int .i64 sino, .int .i64 sold, .string sfn, .string stn] 23))
  have HS := Lib.hid (Blk.new1 w (.cells #[.bool ron, .int .i64 rfr, .int .i64 rtd, .int .i64 rino, .int .i64 rold, .string rfn, .string rtn] 23) 23 #[.bool son, .int .i64 sfr, .int .i64 std, .int .i64 sino, .int .i64 sold, .string sfn, .string stn])
  have HF := Lib.hid (((Keep.refl (fun _ => False) w).alloc (.cells #[.bool ron, .int .i64 rfr, .int .i64 rtd, .int .i64 rino, .int .i64 rold, .string rfn, .string rtn] 23)).alloc (.cells #[.bool son, .int .i64 sfr, .int .i64 std, .int .i64 sino, .int .i64 sold, .string sfn, .string stn] 23))
  go_enter Try.func4, Try.ntmps4
  go_wp2_with (first
    | (refine wpList_load_blk HA.out rfl 23 (.tmp 4) rfl rfl rec_und rfl rec_size ?_)
    | (refine wpList_load_blk HS.out rfl 23 (.tmp 5) rfl rfl rec_und rfl rec_size ?_)
    | (go_at_call 11; have _t := HX; refine (L2.out _).mono ?_; rintro e w3 ⟨v3, rfl, h3⟩; obtain ⟨A3, c3, rfl⟩ := h3.1.shape; have k3 := h3.2.1; have HY := Lib.hid h3.1; clear h3; have HA := Lib.hid (HA.out.fresh k3); have HS := Lib.hid (HS.out.fresh k3); have HX := Lib.hid (own_keep HX.out k3 (fun _ _ f => f)); have HF := Lib.hid (HF.out.trans k3 (fun _ _ f => f)))
    | (go_at_call 11; refine (L1.out _).mono ?_; rintro e w2 ⟨v2, rfl, h2⟩; rcases h2.1.slice with ⟨-, hn, -⟩ | ⟨g, c2, rfl, hc2, hg⟩; (exact absurd hn (by decide)); have hgw := h2.2.2 g rfl; have hgw1 : w.heap.size + 2 ≤ g := (by have hsz := hgw; simp at hsz; omega); have k2 := h2.2.1; have HX := Lib.hid h2.1; clear h2 hgw hg; have HA := Lib.hid (HA.out.fresh k2); have HS := Lib.hid (HS.out.fresh k2); have HF := Lib.hid (HF.out.trans k2 (fun _ _ f => f))))
  have kd := (Keep.refl (fun _ => False) w3).drew
  have HA := Lib.hid (HA.out.fresh kd)
  have HS := Lib.hid (HS.out.fresh kd)
  have HX := Lib.hid (own_keep HX.out kd (fun _ _ f => f))
  have HY := Lib.hid (own_keep HY.out kd (fun _ _ f => f))
  have HF := Lib.hid (HF.out.trans kd (fun _ _ f => f))
  clear kd
  have hS : (fun w' : World => (w'.cell? ⟨w.heap.size, 0, none⟩ = some (.bool ron) ∧ w'.cell? ⟨w.heap.size, 1, none⟩ = some (.int .i64 rfr) ∧ w'.cell? ⟨w.heap.size, 2, none⟩ = some (.int .i64 rtd) ∧ w'.cell? ⟨w.heap.size, 3, none⟩ = some (.int .i64 rino) ∧ w'.cell? ⟨w.heap.size, 4, none⟩ = some (.int .i64 rold) ∧ w'.cell? ⟨w.heap.size, 5, none⟩ = some (.string rfn) ∧ w'.cell? ⟨w.heap.size, 6, none⟩ = some (.string rtn)) ∧ (w'.cell? ⟨(w.heap.size + 1), 0, none⟩ = some (.bool son) ∧ w'.cell? ⟨(w.heap.size + 1), 1, none⟩ = some (.int .i64 sfr) ∧ w'.cell? ⟨(w.heap.size + 1), 2, none⟩ = some (.int .i64 std) ∧ w'.cell? ⟨(w.heap.size + 1), 3, none⟩ = some (.int .i64 sino) ∧ w'.cell? ⟨(w.heap.size + 1), 4, none⟩ = some (.int .i64 sold) ∧ w'.cell? ⟨(w.heap.size + 1), 5, none⟩ = some (.string sfn) ∧ w'.cell? ⟨(w.heap.size + 1), 6, none⟩ = some (.string stn))) _ := ⟨Blk.c7 HA.out, Blk.c7 HS.out⟩
  refine wp_region_held_drew (S := fun w' => (w'.cell? ⟨w.heap.size, 0, none⟩ = some (.bool ron) ∧ w'.cell? ⟨w.heap.size, 1, none⟩ = some (.int .i64 rfr) ∧ w'.cell? ⟨w.heap.size, 2, none⟩ = some (.int .i64 rtd) ∧ w'.cell? ⟨w.heap.size, 3, none⟩ = some (.int .i64 rino) ∧ w'.cell? ⟨w.heap.size, 4, none⟩ = some (.int .i64 rold) ∧ w'.cell? ⟨w.heap.size, 5, none⟩ = some (.string rfn) ∧ w'.cell? ⟨w.heap.size, 6, none⟩ = some (.string rtn)) ∧ (w'.cell? ⟨(w.heap.size + 1), 0, none⟩ = some (.bool son) ∧ w'.cell? ⟨(w.heap.size + 1), 1, none⟩ = some (.int .i64 sfr) ∧ w'.cell? ⟨(w.heap.size + 1), 2, none⟩ = some (.int .i64 std) ∧ w'.cell? ⟨(w.heap.size + 1), 3, none⟩ = some (.int .i64 sino) ∧ w'.cell? ⟨(w.heap.size + 1), 4, none⟩ = some (.int .i64 sold) ∧ w'.cell? ⟨(w.heap.size + 1), 5, none⟩ = some (.string sfn) ∧ w'.cell? ⟨(w.heap.size + 1), 6, none⟩ = some (.string stn))) (by kernel_rfl) hS (fun _ => ?_)
  clear hS
  (refine wpAnyC_do 0 (some 80) ?_ rfl rfl (by kernel_rfl) (by kernel_rfl) (by kernel_rfl) (fun _ _ _ h => h) (by rfl) ?_ (by assumption) ?_; rotate_left; (intro w' hS'; (try dsimp only at hS'); go_simp; try with_reducible rfl); try simp only [Act.put, List.setIfInBounds_toArray, List.set_cons_zero, List.set_cons_succ])
  (refine wpAnyC_do 1 (some 81) ?_ rfl rfl (by kernel_rfl) (by kernel_rfl) (by kernel_rfl) (fun _ _ _ h => h) (by rfl) ?_ (by assumption) ?_; rotate_left; (intro w' hS'; (try dsimp only at hS'); go_simp; try with_reducible rfl); try simp only [Act.put, List.setIfInBounds_toArray, List.set_cons_zero, List.set_cons_succ])
  (refine wpAnyC_do 3 (some 83) (.agg #[.bool ron, .int .i64 rfr, .int .i64 rtd, .int .i64 rino, .int .i64 rold, .string rfn, .string rtn]) rfl rfl (by kernel_rfl) (by kernel_rfl) (by kernel_rfl) (fun _ _ _ h => h) (by rfl) ?_ (by assumption) ?_; (intro w' hS'; (try dsimp only at hS'); go_simp; try with_reducible rfl); try simp only [Act.put, List.setIfInBounds_toArray, List.set_cons_zero, List.set_cons_succ])
  (refine wpAnyC_do 4 (some 84) (.agg #[.bool son, .int .i64 sfr, .int .i64 std, .int .i64 sino, .int .i64 sold, .string sfn, .string stn]) rfl rfl (by kernel_rfl) (by kernel_rfl) (by kernel_rfl) (fun _ _ _ h => h) (by rfl) ?_ (by assumption) ?_; (intro w' hS'; (try dsimp only at hS'); go_simp; try with_reducible rfl); try simp only [Act.put, List.setIfInBounds_toArray, List.set_cons_zero, List.set_cons_succ])
  (refine wpAnyC_do 5 (some 85) (.bool z) rfl rfl (by kernel_rfl) (by kernel_rfl) (by kernel_rfl) (fun _ _ _ h => h) (by rfl) ?_ (by assumption) ?_; (intro w' hS'; (try dsimp only at hS'); go_simp; try with_reducible rfl); try simp only [Act.put, List.setIfInBounds_toArray, List.set_cons_zero, List.set_cons_succ])
  (refine wpAnyC_one 2 rfl (by kernel_rfl) (fun K' hK' => ?_); go_simp; refine (SameBytes_calls _ (Rd.of_own HX.out) (Rd.of_own HY.out)).mono ?_; rintro e w9 ⟨rfl, D9⟩; rw [HZ.out]; have HA := Lib.hid (HA.out.fresh D9.fresh); have HS := Lib.hid (HS.out.fresh D9.fresh); have HX := Lib.hid (own_keep HX.out D9.fresh (fun _ _ f => f)); have HY := Lib.hid (own_keep HY.out D9.fresh (fun _ _ f => f)); have HF := Lib.hid (HF.out.trans D9.fresh (fun _ _ f => f)); refine hK' _ _ ⟨Blk.c7 HA.out, Blk.c7 HS.out⟩ (fun _ => ?_); clear hK' K'; try simp only [Act.put, List.setIfInBounds_toArray, List.set_cons_zero, List.set_cons_succ])
  (refine wpAnyC_do 6 (some 86) (.bool true) rfl rfl (by kernel_rfl) (by kernel_rfl) (by kernel_rfl) (fun _ _ _ h => h) (by rfl) ?_ (by assumption) ?_; (intro w' hS'; (try dsimp only at hS'); go_simp; try with_reducible rfl); try simp only [Act.put, List.setIfInBounds_toArray, List.set_cons_zero, List.set_cons_succ])
  (refine wpAnyC_do 7 (some 13) (.bool true) rfl rfl (by kernel_rfl) (by kernel_rfl) (by kernel_rfl) (fun _ _ _ h => h) (by rfl) ?_ (by assumption) ?_; (intro w' hS'; (try dsimp only at hS'); go_simp; try with_reducible rfl); try simp only [Act.put, List.setIfInBounds_toArray, List.set_cons_zero, List.set_cons_succ])
  refine wpAnyH_done (by kernel_rfl) ?_ _
  have hcell : w9.cell? ⟨g, k, none⟩ = some (.int .u8 v) := by
    rw [HX.out.cellAt k hk]
    have hl := HXL.out
    have hv := HV.out
    rw [List.getD_eq_getElem?_getD, List.getElem?_eq_getElem (show k < X.length by omega)] at hv
    simp [List.getElem?_eq_getElem (show k < X.length by omega)]
    exact hv
  have hfro := HX.out.frozenAt k
  go_wp2_with (first
    | (go_at_call 20; refine (LO.out _).mono ?_; rintro e w91 ⟨rfl, rfl⟩)
    | (go_at_call 13; have hXs := (HX.out.stored k (.int .u8 (bits BinOp.xor IntKind.u8 v 0))).1; rw [HST.out] at hXs; refine (RD.out _ _ _ (Rd.of_own hXs) (by omega)).mono ?_; rintro e w10 ⟨rfl, k10⟩; have hne : w.heap.size ≠ g := (by omega); have HA10 := Lib.hid ((HA.out.far (p := ⟨g, k, none⟩) hne (.int .u8 (bits BinOp.xor IntKind.u8 v 0))).fresh k10); have HA := Lib.hid (HA10.out.alloc (.cells #[.bool ron, .int .i64 rfr, .int .i64 rtd, .int .i64 rino, .int .i64 rold, .string rfn, .string rtn] 23)); have HF10 := Lib.hid ((HF.out.setCell (p := ⟨g, k, none⟩) (fun h => by exfalso; dsimp only at h; omega) (.int .u8 (bits BinOp.xor IntKind.u8 v 0))).trans k10 (fun _ _ f => f)); obtain ⟨a0, a1, a2, a3, a4, a5, a6⟩ := Blk.c7 HA.out; have f0 := HA.out.frozen 0; have hlt10 : w.heap.size < w10.heap.size := (by have h1 := HA.out.lt; have h2 := k10.size; have h3 := HS.out.lt; simp at h1 h2 h3; omega)))
  have HA2 := Lib.hid (show Blk _ _ 23 #[.bool false, .int .i64 rfr, .int .i64 rtd, .int .i64 rino, .int .i64 rold, .string rfn, .string rtn] from (HA10.out.set_ 0 (.bool false)).alloc (.cells #[.bool ron, .int .i64 rfr, .int .i64 rtd, .int .i64 rino, .int .i64 rold, .string rfn, .string rtn] 23))
  have HG := Lib.hid (Blk.newS w10 ⟨w.heap.size, 0, none⟩ (.bool false) 23 #[.bool ron, .int .i64 rfr, .int .i64 rtd, .int .i64 rino, .int .i64 rold, .string rfn, .string rtn])
  have HF := Lib.hid ((HF10.out.setCell (p := ⟨w.heap.size, 0, none⟩) (fun h => by exfalso; dsimp only at h; omega) (.bool false)).alloc (.cells #[.bool ron, .int .i64 rfr, .int .i64 rtd, .int .i64 rino, .int .i64 rold, .string rfn, .string rtn] 23))
  have kd := Keep.drew (Keep.refl (fun _ => False) ((w10.setCell ⟨w.heap.size, 0, none⟩ (.bool false)).alloc (.cells #[.bool ron, .int .i64 rfr, .int .i64 rtd, .int .i64 rino, .int .i64 rold, .string rfn, .string rtn] 23)))
  have HA2 := Lib.hid (HA2.out.fresh kd)
  have HG := Lib.hid (HG.out.fresh kd)
  have HF := Lib.hid (HF.out.trans kd (fun _ _ f => f))
  clear kd
  have hS : (fun w' : World => (w'.cell? ⟨w.heap.size, 0, none⟩ = some (.bool false) ∧ w'.cell? ⟨w.heap.size, 1, none⟩ = some (.int .i64 rfr) ∧ w'.cell? ⟨w.heap.size, 2, none⟩ = some (.int .i64 rtd) ∧ w'.cell? ⟨w.heap.size, 3, none⟩ = some (.int .i64 rino) ∧ w'.cell? ⟨w.heap.size, 4, none⟩ = some (.int .i64 rold) ∧ w'.cell? ⟨w.heap.size, 5, none⟩ = some (.string rfn) ∧ w'.cell? ⟨w.heap.size, 6, none⟩ = some (.string rtn)) ∧ (w'.cell? ⟨w10.heap.size, 0, none⟩ = some (.bool ron) ∧ w'.cell? ⟨w10.heap.size, 1, none⟩ = some (.int .i64 rfr) ∧ w'.cell? ⟨w10.heap.size, 2, none⟩ = some (.int .i64 rtd) ∧ w'.cell? ⟨w10.heap.size, 3, none⟩ = some (.int .i64 rino) ∧ w'.cell? ⟨w10.heap.size, 4, none⟩ = some (.int .i64 rold) ∧ w'.cell? ⟨w10.heap.size, 5, none⟩ = some (.string rfn) ∧ w'.cell? ⟨w10.heap.size, 6, none⟩ = some (.string rtn))) _ := ⟨Blk.c7 HA2.out, Blk.c7 HG.out⟩
  refine wp_region_held_drew (S := fun w' => (w'.cell? ⟨w.heap.size, 0, none⟩ = some (.bool false) ∧ w'.cell? ⟨w.heap.size, 1, none⟩ = some (.int .i64 rfr) ∧ w'.cell? ⟨w.heap.size, 2, none⟩ = some (.int .i64 rtd) ∧ w'.cell? ⟨w.heap.size, 3, none⟩ = some (.int .i64 rino) ∧ w'.cell? ⟨w.heap.size, 4, none⟩ = some (.int .i64 rold) ∧ w'.cell? ⟨w.heap.size, 5, none⟩ = some (.string rfn) ∧ w'.cell? ⟨w.heap.size, 6, none⟩ = some (.string rtn)) ∧ (w'.cell? ⟨w10.heap.size, 0, none⟩ = some (.bool ron) ∧ w'.cell? ⟨w10.heap.size, 1, none⟩ = some (.int .i64 rfr) ∧ w'.cell? ⟨w10.heap.size, 2, none⟩ = some (.int .i64 rtd) ∧ w'.cell? ⟨w10.heap.size, 3, none⟩ = some (.int .i64 rino) ∧ w'.cell? ⟨w10.heap.size, 4, none⟩ = some (.int .i64 rold) ∧ w'.cell? ⟨w10.heap.size, 5, none⟩ = some (.string rfn) ∧ w'.cell? ⟨w10.heap.size, 6, none⟩ = some (.string rtn))) (by kernel_rfl) hS (fun _ => ?_)
  clear hS
  (refine wpAnyC_do 0 (some 101) (.bool true) rfl rfl (by kernel_rfl) (by kernel_rfl) (by kernel_rfl) (fun _ _ _ h => h) (by rfl) ?_ (by assumption) ?_; (intro w' hS'; (try dsimp only at hS'); go_simp; try with_reducible rfl); try simp only [Act.put, List.setIfInBounds_toArray, List.set_cons_zero, List.set_cons_succ])
  (refine wpAnyC_do 1 (some 102) (.bool true) rfl rfl (by kernel_rfl) (by kernel_rfl) (by kernel_rfl) (fun _ _ _ h => h) (by rfl) ?_ (by assumption) ?_; (intro w' hS'; (try dsimp only at hS'); go_simp; try with_reducible rfl); try simp only [Act.put, List.setIfInBounds_toArray, List.set_cons_zero, List.set_cons_succ])
  (refine wpAnyC_do 2 (some 103) ?_ rfl rfl (by kernel_rfl) (by kernel_rfl) (by kernel_rfl) (fun _ _ _ h => h) (by rfl) ?_ (by assumption) ?_; rotate_left; (intro w' hS'; (try dsimp only at hS'); go_simp; try with_reducible rfl); try simp only [Act.put, List.setIfInBounds_toArray, List.set_cons_zero, List.set_cons_succ])
  (refine wpAnyC_do 3 (some 104) (.bool true) rfl rfl (by kernel_rfl) (by kernel_rfl) (by kernel_rfl) (fun _ _ _ h => h) (by rfl) ?_ (by assumption) ?_; (intro w' hS'; (try dsimp only at hS'); go_simp; try with_reducible rfl); try simp only [Act.put, List.setIfInBounds_toArray, List.set_cons_zero, List.set_cons_succ])
  (refine wpAnyC_do 4 (some 105) ?_ rfl rfl (by kernel_rfl) (by kernel_rfl) (by kernel_rfl) (fun _ _ _ h => h) (by rfl) ?_ (by assumption) ?_; rotate_left; (intro w' hS'; (try dsimp only at hS'); go_simp; try with_reducible rfl); try simp only [Act.put, List.setIfInBounds_toArray, List.set_cons_zero, List.set_cons_succ])
  (refine wpAnyC_do 5 (some 106) (.bool true) rfl rfl (by kernel_rfl) (by kernel_rfl) (by kernel_rfl) (fun _ _ _ h => h) (by rfl) ?_ (by assumption) ?_; (intro w' hS'; (try dsimp only at hS'); go_simp; try with_reducible rfl); try simp only [Act.put, List.setIfInBounds_toArray, List.set_cons_zero, List.set_cons_succ])
  (refine wpAnyC_do 6 (some 107) (.bool true) rfl rfl (by kernel_rfl) (by kernel_rfl) (by kernel_rfl) (fun _ _ _ h => h) (by rfl) ?_ (by assumption) ?_; (intro w' hS'; (try dsimp only at hS'); go_simp; try with_reducible rfl); try simp only [Act.put, List.setIfInBounds_toArray, List.set_cons_zero, List.set_cons_succ])
  (refine wpAnyC_do 7 (some 108) (.bool true) rfl rfl (by kernel_rfl) (by kernel_rfl) (by kernel_rfl) (fun _ _ _ h => h) (by rfl) ?_ (by assumption) ?_; (intro w' hS'; (try dsimp only at hS'); go_simp; try with_reducible rfl); try simp only [Act.put, List.setIfInBounds_toArray, List.set_cons_zero, List.set_cons_succ])
  (refine wpAnyC_do 8 (some 109) (.bool true) rfl rfl (by kernel_rfl) (by kernel_rfl) (by kernel_rfl) (fun _ _ _ h => h) (by rfl) ?_ (by assumption) ?_; (intro w' hS'; (try dsimp only at hS'); go_simp; try with_reducible rfl); try simp only [Act.put, List.setIfInBounds_toArray, List.set_cons_zero, List.set_cons_succ])
  (refine wpAnyC_do 9 (some 110) ?_ rfl rfl (by kernel_rfl) (by kernel_rfl) (by kernel_rfl) (fun _ _ _ h => h) (by rfl) ?_ (by assumption) ?_; rotate_left; (intro w' hS'; (try dsimp only at hS'); go_simp; try with_reducible rfl); try simp only [Act.put, List.setIfInBounds_toArray, List.set_cons_zero, List.set_cons_succ])
  (refine wpAnyC_do 10 (some 111) (.bool false) rfl rfl (by kernel_rfl) (by kernel_rfl) (by kernel_rfl) (fun _ _ _ h => h) (by rfl) ?_ (by assumption) ?_; (intro w' hS'; (try dsimp only at hS'); go_simp; try with_reducible rfl); try simp only [Act.put, List.setIfInBounds_toArray, List.set_cons_zero, List.set_cons_succ])
  (refine wpAnyC_do 11 (some 112) ?_ rfl rfl (by kernel_rfl) (by kernel_rfl) (by kernel_rfl) (fun _ _ _ h => h) (by rfl) ?_ (by assumption) ?_; rotate_left; (intro w' hS'; (try dsimp only at hS'); go_simp; try with_reducible rfl); try simp only [Act.put, List.setIfInBounds_toArray, List.set_cons_zero, List.set_cons_succ])
  (refine wpAnyC_do 12 (some 113) ?_ rfl rfl (by kernel_rfl) (by kernel_rfl) (by kernel_rfl) (fun _ _ _ h => h) (by rfl) ?_ (by assumption) ?_; rotate_left; (intro w' hS'; (try dsimp only at hS'); go_simp; try with_reducible rfl); try simp only [Act.put, List.setIfInBounds_toArray, List.set_cons_zero, List.set_cons_succ])
  (refine wpAnyC_do 13 (some 114) (.string rfn) rfl rfl (by kernel_rfl) (by kernel_rfl) (by kernel_rfl) (fun _ _ _ h => h) (by rfl) ?_ (by assumption) ?_; (intro w' hS'; (try dsimp only at hS'); go_simp; try with_reducible rfl); try simp only [Act.put, List.setIfInBounds_toArray, List.set_cons_zero, List.set_cons_succ])
  (refine wpAnyC_do 14 (some 115) ?_ rfl rfl (by kernel_rfl) (by kernel_rfl) (by kernel_rfl) (fun _ _ _ h => h) (by rfl) ?_ (by assumption) ?_; rotate_left; (intro w' hS'; (try dsimp only at hS'); go_simp; try with_reducible rfl); try simp only [Act.put, List.setIfInBounds_toArray, List.set_cons_zero, List.set_cons_succ])
  (refine wpAnyC_do 15 (some 116) (.string rfn) rfl rfl (by kernel_rfl) (by kernel_rfl) (by kernel_rfl) (fun _ _ _ h => h) (by rfl) ?_ (by assumption) ?_; (intro w' hS'; (try dsimp only at hS'); go_simp; try with_reducible rfl); try simp only [Act.put, List.setIfInBounds_toArray, List.set_cons_zero, List.set_cons_succ])
  (refine wpAnyC_do 16 (some 117) (.bool true) rfl rfl (by kernel_rfl) (by kernel_rfl) (by kernel_rfl) (fun _ _ _ h => h) (by rfl) ?_ (by assumption) ?_; (intro w' hS'; (try dsimp only at hS'); go_simp; try with_reducible rfl); try simp only [Act.put, List.setIfInBounds_toArray, List.set_cons_zero, List.set_cons_succ])
  (refine wpAnyC_do 17 (some 118) (.bool true) rfl rfl (by kernel_rfl) (by kernel_rfl) (by kernel_rfl) (fun _ _ _ h => h) (by rfl) ?_ (by assumption) ?_; (intro w' hS'; (try dsimp only at hS'); go_simp; try with_reducible rfl); try simp only [Act.put, List.setIfInBounds_toArray, List.set_cons_zero, List.set_cons_succ])
  (refine wpAnyC_do 18 (some 119) ?_ rfl rfl (by kernel_rfl) (by kernel_rfl) (by kernel_rfl) (fun _ _ _ h => h) (by rfl) ?_ (by assumption) ?_; rotate_left; (intro w' hS'; (try dsimp only at hS'); go_simp; try with_reducible rfl); try simp only [Act.put, List.setIfInBounds_toArray, List.set_cons_zero, List.set_cons_succ])
  (refine wpAnyC_do 19 (some 120) (.int .i64 rino) rfl rfl (by kernel_rfl) (by kernel_rfl) (by kernel_rfl) (fun _ _ _ h => h) (by rfl) ?_ (by assumption) ?_; (intro w' hS'; (try dsimp only at hS'); go_simp; try with_reducible rfl); try simp only [Act.put, List.setIfInBounds_toArray, List.set_cons_zero, List.set_cons_succ])
  (refine wpAnyC_do 20 (some 121) ?_ rfl rfl (by kernel_rfl) (by kernel_rfl) (by kernel_rfl) (fun _ _ _ h => h) (by rfl) ?_ (by assumption) ?_; rotate_left; (intro w' hS'; (try dsimp only at hS'); go_simp; try with_reducible rfl); try simp only [Act.put, List.setIfInBounds_toArray, List.set_cons_zero, List.set_cons_succ])
  (refine wpAnyC_do 21 (some 122) (.int .i64 rino) rfl rfl (by kernel_rfl) (by kernel_rfl) (by kernel_rfl) (fun _ _ _ h => h) (by rfl) ?_ (by assumption) ?_; (intro w' hS'; (try dsimp only at hS'); go_simp; try with_reducible rfl); try simp only [Act.put, List.setIfInBounds_toArray, List.set_cons_zero, List.set_cons_succ])
  (refine wpAnyC_do 22 (some 123) (.bool true) rfl rfl (by kernel_rfl) (by kernel_rfl) (by kernel_rfl) (fun _ _ _ h => h) (by rfl) ?_ (by assumption) ?_; (intro w' hS'; (try dsimp only at hS'); go_simp; try with_reducible rfl); try simp only [Act.put, List.setIfInBounds_toArray, List.set_cons_zero, List.set_cons_succ])
  (refine wpAnyC_do 23 (some 124) ?_ rfl rfl (by kernel_rfl) (by kernel_rfl) (by kernel_rfl) (fun _ _ _ h => h) (by rfl) ?_ (by assumption) ?_; rotate_left; (intro w' hS'; (try dsimp only at hS'); go_simp; try with_reducible rfl); try simp only [Act.put, List.setIfInBounds_toArray, List.set_cons_zero, List.set_cons_succ])
  (refine wpAnyC_do 24 (some 125) (.bool true) rfl rfl (by kernel_rfl) (by kernel_rfl) (by kernel_rfl) (fun _ _ _ h => h) (by rfl) ?_ (by assumption) ?_; (intro w' hS'; (try dsimp only at hS'); go_simp; try with_reducible rfl); try simp only [Act.put, List.setIfInBounds_toArray, List.set_cons_zero, List.set_cons_succ])
  (refine wpAnyC_do 25 (some 126) (.bool true) rfl rfl (by kernel_rfl) (by kernel_rfl) (by kernel_rfl) (fun _ _ _ h => h) (by rfl) ?_ (by assumption) ?_; (intro w' hS'; (try dsimp only at hS'); go_simp; try with_reducible rfl); try simp only [Act.put, List.setIfInBounds_toArray, List.set_cons_zero, List.set_cons_succ])
  (refine wpAnyC_do 26 (some 127) (.bool true) rfl rfl (by kernel_rfl) (by kernel_rfl) (by kernel_rfl) (fun _ _ _ h => h) (by rfl) ?_ (by assumption) ?_; (intro w' hS'; (try dsimp only at hS'); go_simp; try with_reducible rfl); try simp only [Act.put, List.setIfInBounds_toArray, List.set_cons_zero, List.set_cons_succ])
  (refine wpAnyC_do 27 (some 128) (.agg #[.bool false, .int .i64 rfr, .int .i64 rtd, .int .i64 rino, .int .i64 rold, .string rfn, .string rtn]) rfl rfl (by kernel_rfl) (by kernel_rfl) (by kernel_rfl) (fun _ _ _ h => h) (by rfl) ?_ (by assumption) ?_; (intro w' hS'; (try dsimp only at hS'); go_simp; try with_reducible rfl); try simp only [Act.put, List.setIfInBounds_toArray, List.set_cons_zero, List.set_cons_succ])
  (refine wpAnyC_do 29 (some 130) (.agg #[.bool false, .int .i64 rfr, .int .i64 rtd, .int .i64 rino, .int .i64 rold, .string rfn, .string rtn]) rfl rfl (by kernel_rfl) (by kernel_rfl) (by kernel_rfl) (fun _ _ _ h => h) (by rfl) ?_ (by assumption) ?_; (intro w' hS'; (try dsimp only at hS'); go_simp; try with_reducible rfl); try simp only [Act.put, List.setIfInBounds_toArray, List.set_cons_zero, List.set_cons_succ])
  (refine wpAnyC_do 30 (some 131) (.agg #[.bool false, .int .i64 0, .int .i64 0, .int .i64 0, .int .i64 0, .string ⟨#[]⟩, .string ⟨#[]⟩]) rfl rfl (by kernel_rfl) (by kernel_rfl) (by kernel_rfl) (fun _ _ _ h => h) (by rfl) ?_ (by assumption) ?_; (intro w' hS'; (try dsimp only at hS'); go_simp; try with_reducible rfl); try simp only [Act.put, List.setIfInBounds_toArray, List.set_cons_zero, List.set_cons_succ])
  (refine wpAnyC_do 31 (some 132) (.bool o) rfl rfl (by kernel_rfl) (by kernel_rfl) (by kernel_rfl) (fun _ _ _ h => h) (by rfl) ?_ (by assumption) ?_; (intro w' hS'; (try dsimp only at hS'); go_simp; try with_reducible rfl); try simp only [Act.put, List.setIfInBounds_toArray, List.set_cons_zero, List.set_cons_succ])
  (refine wpAnyC_one 28 rfl (by kernel_rfl) (fun K' hK' => ?_); go_simp; refine (M1.out _).mono ?_; rintro e w11 ⟨rfl, k11⟩; have HA2 := Lib.hid (HA2.out.fresh k11); have HG := Lib.hid (HG.out.fresh k11); have HF := Lib.hid (HF.out.trans k11 (fun _ _ f => f)); refine hK' _ _ ⟨Blk.c7 HA2.out, Blk.c7 HG.out⟩ (fun _ => ?_); clear hK' K'; try simp only [Act.put, List.setIfInBounds_toArray, List.set_cons_zero, List.set_cons_succ])
  (refine wpAnyC_do 32 (some 133) (.bool true) rfl rfl (by kernel_rfl) (by kernel_rfl) (by kernel_rfl) (fun _ _ _ h => h) (by rfl) ?_ (by assumption) ?_; (intro w' hS'; (try dsimp only at hS'); go_simp; try with_reducible rfl); try simp only [Act.put, List.setIfInBounds_toArray, List.set_cons_zero, List.set_cons_succ])
  (refine wpAnyC_do 33 (some 134) (.bool true) rfl rfl (by kernel_rfl) (by kernel_rfl) (by kernel_rfl) (fun _ _ _ h => h) (by rfl) ?_ (by assumption) ?_; (intro w' hS'; (try dsimp only at hS'); go_simp; try with_reducible rfl); try simp only [Act.put, List.setIfInBounds_toArray, List.set_cons_zero, List.set_cons_succ])
  (refine wpAnyC_do 34 (some 135) (.bool true) rfl rfl (by kernel_rfl) (by kernel_rfl) (by kernel_rfl) (fun _ _ _ h => h) (by rfl) ?_ (by assumption) ?_; (intro w' hS'; (try dsimp only at hS'); go_simp; try with_reducible rfl); try simp only [Act.put, List.setIfInBounds_toArray, List.set_cons_zero, List.set_cons_succ])
  (refine wpAnyC_one 35 rfl (by kernel_rfl) (fun K' hK' => ?_); go_simp; refine (awake10_calls _).mono ?_; rintro e w12 ⟨rfl, k12⟩; have HA2 := Lib.hid (HA2.out.fresh k12); have HG := Lib.hid (HG.out.fresh k12); have HF := Lib.hid (HF.out.trans k12 (fun _ _ f => f)); refine hK' _ _ ⟨Blk.c7 HA2.out, Blk.c7 HG.out⟩ (fun _ => ?_); clear hK' K'; try simp only [Act.put, List.setIfInBounds_toArray, List.set_cons_zero, List.set_cons_succ])
  (refine wpAnyC_do 36 (some 137) (.bool true) rfl rfl (by kernel_rfl) (by kernel_rfl) (by kernel_rfl) (fun _ _ _ h => h) (by rfl) ?_ (by assumption) ?_; (intro w' hS'; (try dsimp only at hS'); go_simp; try with_reducible rfl); try simp only [Act.put, List.setIfInBounds_toArray, List.set_cons_zero, List.set_cons_succ])
  (refine wpAnyC_do 37 (some 8) (.bool true) rfl rfl (by kernel_rfl) (by kernel_rfl) (by kernel_rfl) (fun _ _ _ h => h) (by rfl) ?_ (by assumption) ?_; (intro w' hS'; (try dsimp only at hS'); go_simp; try with_reducible rfl); try simp only [Act.put, List.setIfInBounds_toArray, List.set_cons_zero, List.set_cons_succ])
  refine wpAnyH_done (by kernel_rfl) ?_ _
  go_wp2
  go_ret
  exact ⟨rfl, HF.out⟩
set_option maxRecDepth 100000 in
set_option maxHeartbeats 8000000 in
theorem apart_yes_n (w : World) (r s : Rcd) (x y : Int) (h0 : r.fn.size ≤ 100) (h1 : r.tn.size ≤ 100) (h2 : s.fn.size ≤ 100) (h3 : s.tn.size ≤ 100) (hy0 : 0 ≤ y ∧ y < 256) (hy : y ≠ 0) (hm1 : mayR r = true) (hm2 : mayR s = true) :
    Calls Try.prog 4 #[r.val, s.val, .int .i64 x, .int .u8 y] w fun e w' => e = .returned (.bool true) ∧ Fresh w w' := by
  have hi0 : (r.fn.size : Int) ≤ 100 := by omega
  have hi1 : (r.tn.size : Int) ≤ 100 := by omega
  have hi2 : (s.fn.size : Int) ≤ 100 := by omega
  have hi3 : (s.tn.size : Int) ≤ 100 := by omega
  obtain ⟨k, hk0, hk⟩ : ∃ k : Nat, lowI x 128 = (k : Int) ∧ k < 128 := by
    have q1 := lowI_nn x 128 (by omega)
    have q2 := lowI_lt x 128 (by omega)
    exact ⟨(lowI x 128).toNat, by omega, by omega⟩
  have low1 : ∀ w, Calls Try.prog 20 #[.int .i64 x, .int .i64 128] w fun e w' => e = .returned (.int .i64 (k : Int)) ∧ w = w' := fun w => by
    have := Low_calls x 128 w (by omega) (by omega)
    rwa [hk0] at this
  obtain ⟨X, hX⟩ : ∃ X, sealL 82 (bodyRL r) = X := ⟨_, rfl⟩
  obtain ⟨Y, hY⟩ : ∃ Y, sealL 82 (bodyRL s) = Y := ⟨_, rfl⟩
  have hXl : X.length = 128 := by rw [← hX]; exact sealL_len 82 _ (by have := bodyRL_len hm1; omega)
  obtain ⟨v, hv⟩ : ∃ v, X.getD k 0 = v := ⟨_, rfl⟩
  have hv0 : 0 ≤ v ∧ v < 256 := by
    have h8 := rlay_bytes hm1
    rw [hX] at h8
    have hlt : k < X.length := by rw [hXl]; exact hk
    have := h8 (X.getD k 0) (by rw [List.getD_eq_getElem?_getD, List.getElem?_eq_getElem hlt]; exact List.getElem_mem hlt)
    rw [hv] at this
    omega
  have hxf := xor8_facts hv0 (b := y) (by omega)
  have rd1 : rdR (X.set k (bits BinOp.xor IntKind.u8 v y)) = Rcd.zero ∧ rdRE (X.set k (bits BinOp.xor IntKind.u8 v y)) = 3 := by
    refine rdR_bad ?_
    rw [← hX]
    exact flip_bad (by have := bodyRL_len hm1; omega) (rlay_bytes hm1) hk hxf.1 (by rw [hX, hv]; exact hxf.2.2 hy)
  have hst : (iv .u8 X).set k (.int .u8 (bits BinOp.xor IntKind.u8 v y)) = iv .u8 (X.set k (bits BinOp.xor IntKind.u8 v y)) := by simp [iv, List.map_set]
  have hB8 : Bytes8 (X.set k (bits BinOp.xor IntKind.u8 v y)) := by
    intro a ha
    have h8 := rlay_bytes hm1
    rw [hX] at h8
    rcases List.mem_or_eq_of_mem_set ha with h | h
    · exact h8 a h
    · rw [h]; exact hxf.1
  have read1 : ∀ (w : World) (A' : Option Addr) (c' : Nat), Rd w 1 A' 128 (iv .u8 (X.set k (bits BinOp.xor IntKind.u8 v y))) → 128 ≤ c' → Calls Try.prog 13 #[.slice A' 128 c'] w fun e w' => e = .returned (.tuple #[Rcd.zero.val, .int .i64 3]) ∧ Fresh w w' := fun w A' c' h h' => (RcRead_calls w h hB8 h').mono fun e w' h => by
    have := readR_of h
    rwa [rd1.1, rd1.2] at this
  have lay1 : ∀ w, Calls Try.prog 11 #[r.val] w (SealPost w X) := fun w => by have := RcLay_yes r w hm1; rwa [hX] at this
  have lay2 : ∀ w, Calls Try.prog 11 #[s.val] w (SealPost w Y) := fun w => by have := RcLay_yes s w hm2; rwa [hY] at this
  obtain ⟨z, hz⟩ : ∃ z, eqRB r s = z := ⟨_, rfl⟩
  have hzz : decide (X = Y) = z := by rw [← hX, ← hY, lay_alike hm1 hm2, hz]
  have HZ := Lib.hid hzz
  obtain ⟨o, ho⟩ : ∃ o, eqRB ⟨false, r.fr, r.td, r.ino, r.old, r.fn, r.tn⟩ Rcd.zero = o := ⟨_, rfl⟩
  have may1 : ∀ w, Calls Try.prog 16 #[(⟨false, r.fr, r.td, r.ino, r.old, r.fn, r.tn⟩ : Rcd).val] w fun e w' => e = .returned (.bool o) ∧ Fresh w w' := fun w => by have := RcMay_calls ⟨false, r.fr, r.td, r.ino, r.old, r.fn, r.tn⟩ w (by dsimp only; omega) (by dsimp only; omega); rwa [may_off, ho] at this
  have L1 := Lib.hid lay1
  have L2 := Lib.hid lay2
  have M1 := Lib.hid may1
  have LO := Lib.hid low1
  have RD := Lib.hid read1
  have HST := Lib.hid hst
  have HV := Lib.hid hv
  have HXL := Lib.hid hXl
  clear lay1 lay2 may1 low1 read1 hst hv hXl hX hY hzz hk0 hB8 rd1 hxf
  have hk1 : (k : Int) < 128 := by omega
  have hk2 : (0 : Int) ≤ (k : Int) := Int.natCast_nonneg _
  clear hm1 hm2
  obtain ⟨ron, rfr, rtd, rino, rold, rfn, rtn⟩ := r
  obtain ⟨son, sfr, std, sino, sold, sfn, stn⟩ := s
  unfold Rcd.val Rcd.cells at L1 L2 M1 RD ⊢
  dsimp only [Rcd.zero] at *
  have hEQ : ∀ w : World, (Op.equalIn 10000 23 (.agg #[.bool ron, .int .i64 rfr, .int .i64 rtd, .int .i64 rino, .int .i64 rold, .string rfn, .string rtn]) (.agg #[.bool son, .int .i64 sfr, .int .i64 std, .int .i64 sino, .int .i64 sold, .string sfn, .string stn])).run Try.prog w = .ok z w := fun w => by rw [eq_rcd, hz]
  have hEO : ∀ w : World, (Op.equalIn 10000 23 (.agg #[.bool false, .int .i64 rfr, .int .i64 rtd, .int .i64 rino, .int .i64 rold, .string rfn, .string rtn]) (.agg #[.bool false, .int .i64 0, .int .i64 0, .int .i64 0, .int .i64 0, .string ⟨#[]⟩, .string ⟨#[]⟩])).run Try.prog w = .ok o w := fun w => by rw [eq_rcd, ho]
  clear hz ho
  have HA := Lib.hid ((Blk.new w 23 #[.bool ron, .int .i64 rfr, .int .i64 rtd, .int .i64 rino, .int .i64 rold, .string rfn, .string rtn]).alloc (.cells #[.bool son, .int .i64 sfr, .int .i64 std, .int .i64 sino, .int .i64 sold, .string sfn, .string stn] 23))
  have HS := Lib.hid (Blk.new1 w (.cells #[.bool ron, .int .i64 rfr, .int .i64 rtd, .int .i64 rino, .int .i64 rold, .string rfn, .string rtn] 23) 23 #[.bool son, .int .i64 sfr, .int .i64 std, .int .i64 sino, .int .i64 sold, .string sfn, .string stn])
  have HF := Lib.hid (((Keep.refl (fun _ => False) w).alloc (.cells #[.bool ron, .int .i64 rfr, .int .i64 rtd, .int .i64 rino, .int .i64 rold, .string rfn, .string rtn] 23)).alloc (.cells #[.bool son, .int .i64 sfr, .int .i64 std, .int .i64 sino, .int .i64 sold, .string sfn, .string stn] 23))
  go_enter Try.func4, Try.ntmps4
  go_wp2_with (first
    | (refine wpList_load_blk HA.out rfl 23 (.tmp 4) rfl rfl rec_und rfl rec_size ?_)
    | (refine wpList_load_blk HS.out rfl 23 (.tmp 5) rfl rfl rec_und rfl rec_size ?_)
    | (go_at_call 11; have _t := HX; refine (L2.out _).mono ?_; rintro e w3 ⟨v3, rfl, h3⟩; obtain ⟨A3, c3, rfl⟩ := h3.1.shape; have k3 := h3.2.1; have HY := Lib.hid h3.1; clear h3; have HA := Lib.hid (HA.out.fresh k3); have HS := Lib.hid (HS.out.fresh k3); have HX := Lib.hid (own_keep HX.out k3 (fun _ _ f => f)); have HF := Lib.hid (HF.out.trans k3 (fun _ _ f => f)))
    | (go_at_call 11; refine (L1.out _).mono ?_; rintro e w2 ⟨v2, rfl, h2⟩; rcases h2.1.slice with ⟨-, hn, -⟩ | ⟨g, c2, rfl, hc2, hg⟩; (exact absurd hn (by decide)); have hgw := h2.2.2 g rfl; have hgw1 : w.heap.size + 2 ≤ g := (by have hsz := hgw; simp at hsz; omega); have k2 := h2.2.1; have HX := Lib.hid h2.1; clear h2 hgw hg; have HA := Lib.hid (HA.out.fresh k2); have HS := Lib.hid (HS.out.fresh k2); have HF := Lib.hid (HF.out.trans k2 (fun _ _ f => f))))
  have kd := (Keep.refl (fun _ => False) w3).drew
  have HA := Lib.hid (HA.out.fresh kd)
  have HS := Lib.hid (HS.out.fresh kd)
  have HX := Lib.hid (own_keep HX.out kd (fun _ _ f => f))
  have HY := Lib.hid (own_keep HY.out kd (fun _ _ f => f))
  have HF := Lib.hid (HF.out.trans kd (fun _ _ f => f))
  clear kd
  have hS : (fun w' : World => (w'.cell? ⟨w.heap.size, 0, none⟩ = some (.bool ron) ∧ w'.cell? ⟨w.heap.size, 1, none⟩ = some (.int .i64 rfr) ∧ w'.cell? ⟨w.heap.size, 2, none⟩ = some (.int .i64 rtd) ∧ w'.cell? ⟨w.heap.size, 3, none⟩ = some (.int .i64 rino) ∧ w'.cell? ⟨w.heap.size, 4, none⟩ = some (.int .i64 rold) ∧ w'.cell? ⟨w.heap.size, 5, none⟩ = some (.string rfn) ∧ w'.cell? ⟨w.heap.size, 6, none⟩ = some (.string rtn)) ∧ (w'.cell? ⟨(w.heap.size + 1), 0, none⟩ = some (.bool son) ∧ w'.cell? ⟨(w.heap.size + 1), 1, none⟩ = some (.int .i64 sfr) ∧ w'.cell? ⟨(w.heap.size + 1), 2, none⟩ = some (.int .i64 std) ∧ w'.cell? ⟨(w.heap.size + 1), 3, none⟩ = some (.int .i64 sino) ∧ w'.cell? ⟨(w.heap.size + 1), 4, none⟩ = some (.int .i64 sold) ∧ w'.cell? ⟨(w.heap.size + 1), 5, none⟩ = some (.string sfn) ∧ w'.cell? ⟨(w.heap.size + 1), 6, none⟩ = some (.string stn))) _ := ⟨Blk.c7 HA.out, Blk.c7 HS.out⟩
  refine wp_region_held_drew (S := fun w' => (w'.cell? ⟨w.heap.size, 0, none⟩ = some (.bool ron) ∧ w'.cell? ⟨w.heap.size, 1, none⟩ = some (.int .i64 rfr) ∧ w'.cell? ⟨w.heap.size, 2, none⟩ = some (.int .i64 rtd) ∧ w'.cell? ⟨w.heap.size, 3, none⟩ = some (.int .i64 rino) ∧ w'.cell? ⟨w.heap.size, 4, none⟩ = some (.int .i64 rold) ∧ w'.cell? ⟨w.heap.size, 5, none⟩ = some (.string rfn) ∧ w'.cell? ⟨w.heap.size, 6, none⟩ = some (.string rtn)) ∧ (w'.cell? ⟨(w.heap.size + 1), 0, none⟩ = some (.bool son) ∧ w'.cell? ⟨(w.heap.size + 1), 1, none⟩ = some (.int .i64 sfr) ∧ w'.cell? ⟨(w.heap.size + 1), 2, none⟩ = some (.int .i64 std) ∧ w'.cell? ⟨(w.heap.size + 1), 3, none⟩ = some (.int .i64 sino) ∧ w'.cell? ⟨(w.heap.size + 1), 4, none⟩ = some (.int .i64 sold) ∧ w'.cell? ⟨(w.heap.size + 1), 5, none⟩ = some (.string sfn) ∧ w'.cell? ⟨(w.heap.size + 1), 6, none⟩ = some (.string stn))) (by kernel_rfl) hS (fun _ => ?_)
  clear hS
  (refine wpAnyC_do 0 (some 80) ?_ rfl rfl (by kernel_rfl) (by kernel_rfl) (by kernel_rfl) (fun _ _ _ h => h) (by rfl) ?_ (by assumption) ?_; rotate_left; (intro w' hS'; (try dsimp only at hS'); go_simp; try with_reducible rfl); try simp only [Act.put, List.setIfInBounds_toArray, List.set_cons_zero, List.set_cons_succ])
  (refine wpAnyC_do 1 (some 81) ?_ rfl rfl (by kernel_rfl) (by kernel_rfl) (by kernel_rfl) (fun _ _ _ h => h) (by rfl) ?_ (by assumption) ?_; rotate_left; (intro w' hS'; (try dsimp only at hS'); go_simp; try with_reducible rfl); try simp only [Act.put, List.setIfInBounds_toArray, List.set_cons_zero, List.set_cons_succ])
  (refine wpAnyC_do 3 (some 83) (.agg #[.bool ron, .int .i64 rfr, .int .i64 rtd, .int .i64 rino, .int .i64 rold, .string rfn, .string rtn]) rfl rfl (by kernel_rfl) (by kernel_rfl) (by kernel_rfl) (fun _ _ _ h => h) (by rfl) ?_ (by assumption) ?_; (intro w' hS'; (try dsimp only at hS'); go_simp; try with_reducible rfl); try simp only [Act.put, List.setIfInBounds_toArray, List.set_cons_zero, List.set_cons_succ])
  (refine wpAnyC_do 4 (some 84) (.agg #[.bool son, .int .i64 sfr, .int .i64 std, .int .i64 sino, .int .i64 sold, .string sfn, .string stn]) rfl rfl (by kernel_rfl) (by kernel_rfl) (by kernel_rfl) (fun _ _ _ h => h) (by rfl) ?_ (by assumption) ?_; (intro w' hS'; (try dsimp only at hS'); go_simp; try with_reducible rfl); try simp only [Act.put, List.setIfInBounds_toArray, List.set_cons_zero, List.set_cons_succ])
  (refine wpAnyC_do 5 (some 85) (.bool z) rfl rfl (by kernel_rfl) (by kernel_rfl) (by kernel_rfl) (fun _ _ _ h => h) (by rfl) ?_ (by assumption) ?_; (intro w' hS'; (try dsimp only at hS'); go_simp; try with_reducible rfl); try simp only [Act.put, List.setIfInBounds_toArray, List.set_cons_zero, List.set_cons_succ])
  (refine wpAnyC_one 2 rfl (by kernel_rfl) (fun K' hK' => ?_); go_simp; refine (SameBytes_calls _ (Rd.of_own HX.out) (Rd.of_own HY.out)).mono ?_; rintro e w9 ⟨rfl, D9⟩; rw [HZ.out]; have HA := Lib.hid (HA.out.fresh D9.fresh); have HS := Lib.hid (HS.out.fresh D9.fresh); have HX := Lib.hid (own_keep HX.out D9.fresh (fun _ _ f => f)); have HY := Lib.hid (own_keep HY.out D9.fresh (fun _ _ f => f)); have HF := Lib.hid (HF.out.trans D9.fresh (fun _ _ f => f)); refine hK' _ _ ⟨Blk.c7 HA.out, Blk.c7 HS.out⟩ (fun _ => ?_); clear hK' K'; try simp only [Act.put, List.setIfInBounds_toArray, List.set_cons_zero, List.set_cons_succ])
  (refine wpAnyC_do 6 (some 86) (.bool true) rfl rfl (by kernel_rfl) (by kernel_rfl) (by kernel_rfl) (fun _ _ _ h => h) (by rfl) ?_ (by assumption) ?_; (intro w' hS'; (try dsimp only at hS'); go_simp; try with_reducible rfl); try simp only [Act.put, List.setIfInBounds_toArray, List.set_cons_zero, List.set_cons_succ])
  (refine wpAnyC_do 7 (some 13) (.bool true) rfl rfl (by kernel_rfl) (by kernel_rfl) (by kernel_rfl) (fun _ _ _ h => h) (by rfl) ?_ (by assumption) ?_; (intro w' hS'; (try dsimp only at hS'); go_simp; try with_reducible rfl); try simp only [Act.put, List.setIfInBounds_toArray, List.set_cons_zero, List.set_cons_succ])
  refine wpAnyH_done (by kernel_rfl) ?_ _
  have hcell : w9.cell? ⟨g, k, none⟩ = some (.int .u8 v) := by
    rw [HX.out.cellAt k hk]
    have hl := HXL.out
    have hv := HV.out
    rw [List.getD_eq_getElem?_getD, List.getElem?_eq_getElem (show k < X.length by omega)] at hv
    simp [List.getElem?_eq_getElem (show k < X.length by omega)]
    exact hv
  have hfro := HX.out.frozenAt k
  go_wp2_with (first
    | (go_at_call 20; refine (LO.out _).mono ?_; rintro e w91 ⟨rfl, rfl⟩)
    | (go_at_call 13; have hXs := (HX.out.stored k (.int .u8 (bits BinOp.xor IntKind.u8 v y))).1; rw [HST.out] at hXs; refine (RD.out _ _ _ (Rd.of_own hXs) (by omega)).mono ?_; rintro e w10 ⟨rfl, k10⟩; have hne : w.heap.size ≠ g := (by omega); have HA10 := Lib.hid ((HA.out.far (p := ⟨g, k, none⟩) hne (.int .u8 (bits BinOp.xor IntKind.u8 v y))).fresh k10); have HA := Lib.hid (HA10.out.alloc (.cells #[.bool false, .int .i64 0, .int .i64 0, .int .i64 0, .int .i64 0, .string ⟨#[]⟩, .string ⟨#[]⟩] 23)); have HF10 := Lib.hid ((HF.out.setCell (p := ⟨g, k, none⟩) (fun h => by exfalso; dsimp only at h; omega) (.int .u8 (bits BinOp.xor IntKind.u8 v y))).trans k10 (fun _ _ f => f)); obtain ⟨a0, a1, a2, a3, a4, a5, a6⟩ := Blk.c7 HA.out; have f0 := HA.out.frozen 0; have hlt10 : w.heap.size < w10.heap.size := (by have h1 := HA.out.lt; have h2 := k10.size; have h3 := HS.out.lt; simp at h1 h2 h3; omega)))
  have HA2 := Lib.hid (show Blk _ _ 23 #[.bool false, .int .i64 rfr, .int .i64 rtd, .int .i64 rino, .int .i64 rold, .string rfn, .string rtn] from (HA10.out.set_ 0 (.bool false)).alloc (.cells #[.bool false, .int .i64 0, .int .i64 0, .int .i64 0, .int .i64 0, .string ⟨#[]⟩, .string ⟨#[]⟩] 23))
  have HG := Lib.hid (Blk.newS w10 ⟨w.heap.size, 0, none⟩ (.bool false) 23 #[.bool false, .int .i64 0, .int .i64 0, .int .i64 0, .int .i64 0, .string ⟨#[]⟩, .string ⟨#[]⟩])
  have HF := Lib.hid ((HF10.out.setCell (p := ⟨w.heap.size, 0, none⟩) (fun h => by exfalso; dsimp only at h; omega) (.bool false)).alloc (.cells #[.bool false, .int .i64 0, .int .i64 0, .int .i64 0, .int .i64 0, .string ⟨#[]⟩, .string ⟨#[]⟩] 23))
  have kd := Keep.drew (Keep.refl (fun _ => False) ((w10.setCell ⟨w.heap.size, 0, none⟩ (.bool false)).alloc (.cells #[.bool false, .int .i64 0, .int .i64 0, .int .i64 0, .int .i64 0, .string ⟨#[]⟩, .string ⟨#[]⟩] 23)))
  have HA2 := Lib.hid (HA2.out.fresh kd)
  have HG := Lib.hid (HG.out.fresh kd)
  have HF := Lib.hid (HF.out.trans kd (fun _ _ f => f))
  clear kd
  have hS : (fun w' : World => (w'.cell? ⟨w.heap.size, 0, none⟩ = some (.bool false) ∧ w'.cell? ⟨w.heap.size, 1, none⟩ = some (.int .i64 rfr) ∧ w'.cell? ⟨w.heap.size, 2, none⟩ = some (.int .i64 rtd) ∧ w'.cell? ⟨w.heap.size, 3, none⟩ = some (.int .i64 rino) ∧ w'.cell? ⟨w.heap.size, 4, none⟩ = some (.int .i64 rold) ∧ w'.cell? ⟨w.heap.size, 5, none⟩ = some (.string rfn) ∧ w'.cell? ⟨w.heap.size, 6, none⟩ = some (.string rtn)) ∧ (w'.cell? ⟨w10.heap.size, 0, none⟩ = some (.bool false) ∧ w'.cell? ⟨w10.heap.size, 1, none⟩ = some (.int .i64 0) ∧ w'.cell? ⟨w10.heap.size, 2, none⟩ = some (.int .i64 0) ∧ w'.cell? ⟨w10.heap.size, 3, none⟩ = some (.int .i64 0) ∧ w'.cell? ⟨w10.heap.size, 4, none⟩ = some (.int .i64 0) ∧ w'.cell? ⟨w10.heap.size, 5, none⟩ = some (.string ⟨#[]⟩) ∧ w'.cell? ⟨w10.heap.size, 6, none⟩ = some (.string ⟨#[]⟩))) _ := ⟨Blk.c7 HA2.out, Blk.c7 HG.out⟩
  refine wp_region_held_drew (S := fun w' => (w'.cell? ⟨w.heap.size, 0, none⟩ = some (.bool false) ∧ w'.cell? ⟨w.heap.size, 1, none⟩ = some (.int .i64 rfr) ∧ w'.cell? ⟨w.heap.size, 2, none⟩ = some (.int .i64 rtd) ∧ w'.cell? ⟨w.heap.size, 3, none⟩ = some (.int .i64 rino) ∧ w'.cell? ⟨w.heap.size, 4, none⟩ = some (.int .i64 rold) ∧ w'.cell? ⟨w.heap.size, 5, none⟩ = some (.string rfn) ∧ w'.cell? ⟨w.heap.size, 6, none⟩ = some (.string rtn)) ∧ (w'.cell? ⟨w10.heap.size, 0, none⟩ = some (.bool false) ∧ w'.cell? ⟨w10.heap.size, 1, none⟩ = some (.int .i64 0) ∧ w'.cell? ⟨w10.heap.size, 2, none⟩ = some (.int .i64 0) ∧ w'.cell? ⟨w10.heap.size, 3, none⟩ = some (.int .i64 0) ∧ w'.cell? ⟨w10.heap.size, 4, none⟩ = some (.int .i64 0) ∧ w'.cell? ⟨w10.heap.size, 5, none⟩ = some (.string ⟨#[]⟩) ∧ w'.cell? ⟨w10.heap.size, 6, none⟩ = some (.string ⟨#[]⟩))) (by kernel_rfl) hS (fun _ => ?_)
  clear hS
  (refine wpAnyC_do 0 (some 101) (.bool true) rfl rfl (by kernel_rfl) (by kernel_rfl) (by kernel_rfl) (fun _ _ _ h => h) (by rfl) ?_ (by assumption) ?_; (intro w' hS'; (try dsimp only at hS'); go_simp; try with_reducible rfl); try simp only [Act.put, List.setIfInBounds_toArray, List.set_cons_zero, List.set_cons_succ])
  (refine wpAnyC_do 1 (some 102) (.bool true) rfl rfl (by kernel_rfl) (by kernel_rfl) (by kernel_rfl) (fun _ _ _ h => h) (by rfl) ?_ (by assumption) ?_; (intro w' hS'; (try dsimp only at hS'); go_simp; try with_reducible rfl); try simp only [Act.put, List.setIfInBounds_toArray, List.set_cons_zero, List.set_cons_succ])
  (refine wpAnyC_do 2 (some 103) ?_ rfl rfl (by kernel_rfl) (by kernel_rfl) (by kernel_rfl) (fun _ _ _ h => h) (by rfl) ?_ (by assumption) ?_; rotate_left; (intro w' hS'; (try dsimp only at hS'); go_simp; try with_reducible rfl); try simp only [Act.put, List.setIfInBounds_toArray, List.set_cons_zero, List.set_cons_succ])
  (refine wpAnyC_do 3 (some 104) (.bool false) rfl rfl (by kernel_rfl) (by kernel_rfl) (by kernel_rfl) (fun _ _ _ h => h) (by rfl) ?_ (by assumption) ?_; (intro w' hS'; (try dsimp only at hS'); go_simp; try with_reducible rfl); try simp only [Act.put, List.setIfInBounds_toArray, List.set_cons_zero, List.set_cons_succ])
  (refine wpAnyC_do 4 (some 105) ?_ rfl rfl (by kernel_rfl) (by kernel_rfl) (by kernel_rfl) (fun _ _ _ h => h) (by rfl) ?_ (by assumption) ?_; rotate_left; (intro w' hS'; (try dsimp only at hS'); go_simp; try with_reducible rfl); try simp only [Act.put, List.setIfInBounds_toArray, List.set_cons_zero, List.set_cons_succ])
  (refine wpAnyC_do 5 (some 106) (.bool false) rfl rfl (by kernel_rfl) (by kernel_rfl) (by kernel_rfl) (fun _ _ _ h => h) (by rfl) ?_ (by assumption) ?_; (intro w' hS'; (try dsimp only at hS'); go_simp; try with_reducible rfl); try simp only [Act.put, List.setIfInBounds_toArray, List.set_cons_zero, List.set_cons_succ])
  (refine wpAnyC_do 6 (some 107) (.bool true) rfl rfl (by kernel_rfl) (by kernel_rfl) (by kernel_rfl) (fun _ _ _ h => h) (by rfl) ?_ (by assumption) ?_; (intro w' hS'; (try dsimp only at hS'); go_simp; try with_reducible rfl); try simp only [Act.put, List.setIfInBounds_toArray, List.set_cons_zero, List.set_cons_succ])
  (refine wpAnyC_do 7 (some 108) (.bool true) rfl rfl (by kernel_rfl) (by kernel_rfl) (by kernel_rfl) (fun _ _ _ h => h) (by rfl) ?_ (by assumption) ?_; (intro w' hS'; (try dsimp only at hS'); go_simp; try with_reducible rfl); try simp only [Act.put, List.setIfInBounds_toArray, List.set_cons_zero, List.set_cons_succ])
  (refine wpAnyC_do 8 (some 109) (.bool true) rfl rfl (by kernel_rfl) (by kernel_rfl) (by kernel_rfl) (fun _ _ _ h => h) (by rfl) ?_ (by assumption) ?_; (intro w' hS'; (try dsimp only at hS'); go_simp; try with_reducible rfl); try simp only [Act.put, List.setIfInBounds_toArray, List.set_cons_zero, List.set_cons_succ])
  (refine wpAnyC_do 9 (some 110) ?_ rfl rfl (by kernel_rfl) (by kernel_rfl) (by kernel_rfl) (fun _ _ _ h => h) (by rfl) ?_ (by assumption) ?_; rotate_left; (intro w' hS'; (try dsimp only at hS'); go_simp; try with_reducible rfl); try simp only [Act.put, List.setIfInBounds_toArray, List.set_cons_zero, List.set_cons_succ])
  (refine wpAnyC_do 10 (some 111) (.bool true) rfl rfl (by kernel_rfl) (by kernel_rfl) (by kernel_rfl) (fun _ _ _ h => h) (by rfl) ?_ (by assumption) ?_; (intro w' hS'; (try dsimp only at hS'); go_simp; try with_reducible rfl); try simp only [Act.put, List.setIfInBounds_toArray, List.set_cons_zero, List.set_cons_succ])
  (refine wpAnyC_do 11 (some 112) ?_ rfl rfl (by kernel_rfl) (by kernel_rfl) (by kernel_rfl) (fun _ _ _ h => h) (by rfl) ?_ (by assumption) ?_; rotate_left; (intro w' hS'; (try dsimp only at hS'); go_simp; try with_reducible rfl); try simp only [Act.put, List.setIfInBounds_toArray, List.set_cons_zero, List.set_cons_succ])
  (refine wpAnyC_skip 12 (some 113) rfl rfl (by kernel_rfl) (by kernel_rfl) (by kernel_rfl) (fun _ _ _ h => h) (by rfl) (by assumption) ?_; try simp only [Act.put, List.setIfInBounds_toArray, List.set_cons_zero, List.set_cons_succ])
  (refine wpAnyC_skip 13 (some 114) rfl rfl (by kernel_rfl) (by kernel_rfl) (by kernel_rfl) (fun _ _ _ h => h) (by rfl) (by assumption) ?_; try simp only [Act.put, List.setIfInBounds_toArray, List.set_cons_zero, List.set_cons_succ])
  (refine wpAnyC_skip 14 (some 115) rfl rfl (by kernel_rfl) (by kernel_rfl) (by kernel_rfl) (fun _ _ _ h => h) (by rfl) (by assumption) ?_; try simp only [Act.put, List.setIfInBounds_toArray, List.set_cons_zero, List.set_cons_succ])
  (refine wpAnyC_skip 15 (some 116) rfl rfl (by kernel_rfl) (by kernel_rfl) (by kernel_rfl) (fun _ _ _ h => h) (by rfl) (by assumption) ?_; try simp only [Act.put, List.setIfInBounds_toArray, List.set_cons_zero, List.set_cons_succ])
  (refine wpAnyC_skip 16 (some 117) rfl rfl (by kernel_rfl) (by kernel_rfl) (by kernel_rfl) (fun _ _ _ h => h) (by rfl) (by assumption) ?_; try simp only [Act.put, List.setIfInBounds_toArray, List.set_cons_zero, List.set_cons_succ])
  (refine wpAnyC_skip 17 (some 118) rfl rfl (by kernel_rfl) (by kernel_rfl) (by kernel_rfl) (fun _ _ _ h => h) (by rfl) (by assumption) ?_; try simp only [Act.put, List.setIfInBounds_toArray, List.set_cons_zero, List.set_cons_succ])
  (refine wpAnyC_skip 18 (some 119) rfl rfl (by kernel_rfl) (by kernel_rfl) (by kernel_rfl) (fun _ _ _ h => h) (by rfl) (by assumption) ?_; try simp only [Act.put, List.setIfInBounds_toArray, List.set_cons_zero, List.set_cons_succ])
  (refine wpAnyC_skip 19 (some 120) rfl rfl (by kernel_rfl) (by kernel_rfl) (by kernel_rfl) (fun _ _ _ h => h) (by rfl) (by assumption) ?_; try simp only [Act.put, List.setIfInBounds_toArray, List.set_cons_zero, List.set_cons_succ])
  (refine wpAnyC_skip 20 (some 121) rfl rfl (by kernel_rfl) (by kernel_rfl) (by kernel_rfl) (fun _ _ _ h => h) (by rfl) (by assumption) ?_; try simp only [Act.put, List.setIfInBounds_toArray, List.set_cons_zero, List.set_cons_succ])
  (refine wpAnyC_skip 21 (some 122) rfl rfl (by kernel_rfl) (by kernel_rfl) (by kernel_rfl) (fun _ _ _ h => h) (by rfl) (by assumption) ?_; try simp only [Act.put, List.setIfInBounds_toArray, List.set_cons_zero, List.set_cons_succ])
  (refine wpAnyC_skip 22 (some 123) rfl rfl (by kernel_rfl) (by kernel_rfl) (by kernel_rfl) (fun _ _ _ h => h) (by rfl) (by assumption) ?_; try simp only [Act.put, List.setIfInBounds_toArray, List.set_cons_zero, List.set_cons_succ])
  (refine wpAnyC_skip 23 (some 124) rfl rfl (by kernel_rfl) (by kernel_rfl) (by kernel_rfl) (fun _ _ _ h => h) (by rfl) (by assumption) ?_; try simp only [Act.put, List.setIfInBounds_toArray, List.set_cons_zero, List.set_cons_succ])
  (refine wpAnyC_do 24 (some 125) (.bool true) rfl rfl (by kernel_rfl) (by kernel_rfl) (by kernel_rfl) (fun _ _ _ h => h) (by rfl) ?_ (by assumption) ?_; (intro w' hS'; (try dsimp only at hS'); go_simp; try with_reducible rfl); try simp only [Act.put, List.setIfInBounds_toArray, List.set_cons_zero, List.set_cons_succ])
  (refine wpAnyC_do 25 (some 126) (.bool true) rfl rfl (by kernel_rfl) (by kernel_rfl) (by kernel_rfl) (fun _ _ _ h => h) (by rfl) ?_ (by assumption) ?_; (intro w' hS'; (try dsimp only at hS'); go_simp; try with_reducible rfl); try simp only [Act.put, List.setIfInBounds_toArray, List.set_cons_zero, List.set_cons_succ])
  (refine wpAnyC_do 26 (some 127) (.bool true) rfl rfl (by kernel_rfl) (by kernel_rfl) (by kernel_rfl) (fun _ _ _ h => h) (by rfl) ?_ (by assumption) ?_; (intro w' hS'; (try dsimp only at hS'); go_simp; try with_reducible rfl); try simp only [Act.put, List.setIfInBounds_toArray, List.set_cons_zero, List.set_cons_succ])
  (refine wpAnyC_do 27 (some 128) (.agg #[.bool false, .int .i64 rfr, .int .i64 rtd, .int .i64 rino, .int .i64 rold, .string rfn, .string rtn]) rfl rfl (by kernel_rfl) (by kernel_rfl) (by kernel_rfl) (fun _ _ _ h => h) (by rfl) ?_ (by assumption) ?_; (intro w' hS'; (try dsimp only at hS'); go_simp; try with_reducible rfl); try simp only [Act.put, List.setIfInBounds_toArray, List.set_cons_zero, List.set_cons_succ])
  (refine wpAnyC_do 29 (some 130) (.agg #[.bool false, .int .i64 rfr, .int .i64 rtd, .int .i64 rino, .int .i64 rold, .string rfn, .string rtn]) rfl rfl (by kernel_rfl) (by kernel_rfl) (by kernel_rfl) (fun _ _ _ h => h) (by rfl) ?_ (by assumption) ?_; (intro w' hS'; (try dsimp only at hS'); go_simp; try with_reducible rfl); try simp only [Act.put, List.setIfInBounds_toArray, List.set_cons_zero, List.set_cons_succ])
  (refine wpAnyC_do 30 (some 131) (.agg #[.bool false, .int .i64 0, .int .i64 0, .int .i64 0, .int .i64 0, .string ⟨#[]⟩, .string ⟨#[]⟩]) rfl rfl (by kernel_rfl) (by kernel_rfl) (by kernel_rfl) (fun _ _ _ h => h) (by rfl) ?_ (by assumption) ?_; (intro w' hS'; (try dsimp only at hS'); go_simp; try with_reducible rfl); try simp only [Act.put, List.setIfInBounds_toArray, List.set_cons_zero, List.set_cons_succ])
  (refine wpAnyC_do 31 (some 132) (.bool o) rfl rfl (by kernel_rfl) (by kernel_rfl) (by kernel_rfl) (fun _ _ _ h => h) (by rfl) ?_ (by assumption) ?_; (intro w' hS'; (try dsimp only at hS'); go_simp; try with_reducible rfl); try simp only [Act.put, List.setIfInBounds_toArray, List.set_cons_zero, List.set_cons_succ])
  (refine wpAnyC_one 28 rfl (by kernel_rfl) (fun K' hK' => ?_); go_simp; refine (M1.out _).mono ?_; rintro e w11 ⟨rfl, k11⟩; have HA2 := Lib.hid (HA2.out.fresh k11); have HG := Lib.hid (HG.out.fresh k11); have HF := Lib.hid (HF.out.trans k11 (fun _ _ f => f)); refine hK' _ _ ⟨Blk.c7 HA2.out, Blk.c7 HG.out⟩ (fun _ => ?_); clear hK' K'; try simp only [Act.put, List.setIfInBounds_toArray, List.set_cons_zero, List.set_cons_succ])
  (refine wpAnyC_do 32 (some 133) (.bool true) rfl rfl (by kernel_rfl) (by kernel_rfl) (by kernel_rfl) (fun _ _ _ h => h) (by rfl) ?_ (by assumption) ?_; (intro w' hS'; (try dsimp only at hS'); go_simp; try with_reducible rfl); try simp only [Act.put, List.setIfInBounds_toArray, List.set_cons_zero, List.set_cons_succ])
  (refine wpAnyC_do 33 (some 134) (.bool true) rfl rfl (by kernel_rfl) (by kernel_rfl) (by kernel_rfl) (fun _ _ _ h => h) (by rfl) ?_ (by assumption) ?_; (intro w' hS'; (try dsimp only at hS'); go_simp; try with_reducible rfl); try simp only [Act.put, List.setIfInBounds_toArray, List.set_cons_zero, List.set_cons_succ])
  (refine wpAnyC_do 34 (some 135) (.bool true) rfl rfl (by kernel_rfl) (by kernel_rfl) (by kernel_rfl) (fun _ _ _ h => h) (by rfl) ?_ (by assumption) ?_; (intro w' hS'; (try dsimp only at hS'); go_simp; try with_reducible rfl); try simp only [Act.put, List.setIfInBounds_toArray, List.set_cons_zero, List.set_cons_succ])
  (refine wpAnyC_one 35 rfl (by kernel_rfl) (fun K' hK' => ?_); go_simp; refine (awake10_calls _).mono ?_; rintro e w12 ⟨rfl, k12⟩; have HA2 := Lib.hid (HA2.out.fresh k12); have HG := Lib.hid (HG.out.fresh k12); have HF := Lib.hid (HF.out.trans k12 (fun _ _ f => f)); refine hK' _ _ ⟨Blk.c7 HA2.out, Blk.c7 HG.out⟩ (fun _ => ?_); clear hK' K'; try simp only [Act.put, List.setIfInBounds_toArray, List.set_cons_zero, List.set_cons_succ])
  (refine wpAnyC_do 36 (some 137) (.bool true) rfl rfl (by kernel_rfl) (by kernel_rfl) (by kernel_rfl) (fun _ _ _ h => h) (by rfl) ?_ (by assumption) ?_; (intro w' hS'; (try dsimp only at hS'); go_simp; try with_reducible rfl); try simp only [Act.put, List.setIfInBounds_toArray, List.set_cons_zero, List.set_cons_succ])
  (refine wpAnyC_do 37 (some 8) (.bool true) rfl rfl (by kernel_rfl) (by kernel_rfl) (by kernel_rfl) (fun _ _ _ h => h) (by rfl) ?_ (by assumption) ?_; (intro w' hS'; (try dsimp only at hS'); go_simp; try with_reducible rfl); try simp only [Act.put, List.setIfInBounds_toArray, List.set_cons_zero, List.set_cons_succ])
  refine wpAnyH_done (by kernel_rfl) ?_ _
  go_wp2
  go_ret
  exact ⟨rfl, HF.out⟩

theorem RecordApart_calls (w : World) (r s : Rcd) (x y : Int) (hy0 : 0 ≤ y ∧ y < 256) :
    Calls Try.prog 4 #[r.val, s.val, .int .i64 x, .int .u8 y] w fun e w' => e = .returned (.bool true) ∧ Fresh w w' := by
  by_cases h0 : r.fn.size ≤ 100
  · by_cases h1 : r.tn.size ≤ 100
    · by_cases h2 : s.fn.size ≤ 100
      · by_cases h3 : s.tn.size ≤ 100
        · cases hm1 : mayR r
          · cases hm2 : mayR s
            · exact apart_no_false_false w r s x y h0 h1 h2 h3 hm1 hm2
            · exact apart_no_false_true w r s x y h0 h1 h2 h3 hm1 hm2
          · cases hm2 : mayR s
            · exact apart_no_true_false w r s x y h0 h1 h2 h3 hm1 hm2
            · by_cases hy : y = 0
              · exact apart_yes_z w r s x y h0 h1 h2 h3 hy hm1 hm2
              · exact apart_yes_n w r s x y h0 h1 h2 h3 hy0 hy hm1 hm2
        · exact apart_early3 w r s x y h0 h1 h2 (by omega)
      · exact apart_early2 w r s x y h0 h1 (by omega)
    · exact apart_early1 w r s x y h0 (by omega)
  · exact apart_early0 w r s x y (by omega)
end Go.Proofs.Ytcjackjoonijnaa
