/-
  Records: which may be; walked in both texts.
-/
import Derived.Test.YtcjackjoonijnaaEqD
import Derived.Test.YtcjackjoonijnaaTake
namespace Go.Proofs.Ytcjackjoonijnaa
open Go.RowKit

/-- A record. -/
structure Rcd where
  on : Bool
  fr : Int
  td : Int
  ino : Int
  old : Int
  fn : ByteArray
  tn : ByteArray
def Rcd.cells (r : Rcd) : Array Value := #[.bool r.on, .int .i64 r.fr, .int .i64 r.td, .int .i64 r.ino, .int .i64 r.old, .string r.fn, .string r.tn]
def Rcd.val (r : Rcd) : Value := .agg r.cells
def Rcd.zero : Rcd := ⟨false, 0, 0, 0, 0, ⟨#[]⟩, ⟨#[]⟩⟩
def eqRB (a b : Rcd) : Bool := (a.on == b.on) && ((a.fr == b.fr) && ((a.td == b.td) && ((a.ino == b.ino) && ((a.old == b.old) && ((a.fn.toList == b.fn.toList) && (a.tn.toList == b.tn.toList))))))
theorem ba_ext {s t : ByteArray} (h : s.toList = t.toList) : s = t := by
  rw [Lib.toList_data, Lib.toList_data] at h
  exact congrArg ByteArray.mk (Array.ext' h)
theorem eqRB_iff {a b : Rcd} : eqRB a b = true ↔ a = b := by
  obtain ⟨a1, a2, a3, a4, a5, a6, a7⟩ := a
  obtain ⟨b1, b2, b3, b4, b5, b6, b7⟩ := b
  simp only [eqRB, Bool.and_eq_true, beq_iff_eq, Rcd.mk.injEq]
  constructor
  · rintro ⟨h1, h2, h3, h4, h5, h6, h7⟩
    exact ⟨h1, h2, h3, h4, h5, ba_ext h6, ba_ext h7⟩
  · rintro ⟨rfl, rfl, rfl, rfl, rfl, rfl, rfl⟩
    exact ⟨rfl, rfl, rfl, rfl, rfl, rfl, rfl⟩
theorem eqRB_self (a : Rcd) : eqRB a a = true := eqRB_iff.2 rfl
theorem eq_rcd (a1 : Bool) (a2 a3 a4 a5 : Int) (a6 a7 : ByteArray) (b1 : Bool) (b2 b3 b4 b5 : Int) (b6 b7 : ByteArray) (w : World) :
    (Op.equalIn 10000 23 (.agg #[.bool a1, .int .i64 a2, .int .i64 a3, .int .i64 a4, .int .i64 a5, .string a6, .string a7]) (.agg #[.bool b1, .int .i64 b2, .int .i64 b3, .int .i64 b4, .int .i64 b5, .string b6, .string b7])).run Try.prog w = .ok (eqRB ⟨a1, a2, a3, a4, a5, a6, a7⟩ ⟨b1, b2, b3, b4, b5, b6, b7⟩) w := by
  have hS : Try.prog.underlying 23 = some (.struct (Try.prog.fieldsOf 23)) := by kernel_rfl
  rw [show (10000 : Nat) = 9999 + 1 from rfl, run_equalIn_agg w 9999 23 _ _ hS (by kernel_rfl)]
  simp only [Program.fieldsOf, Try.underlying23]
  go_simp
  by_cases h1 : a1 = b1
  case neg => simp [h1, eqRB]
  by_cases h2 : a2 = b2
  case neg => simp [h1, h2, eqRB]
  by_cases h3 : a3 = b3
  case neg => simp [h1, h2, h3, eqRB]
  by_cases h4 : a4 = b4
  case neg => simp [h1, h2, h3, h4, eqRB]
  by_cases h5 : a5 = b5
  case neg => simp [h1, h2, h3, h4, h5, eqRB]
  by_cases h6 : a6.toList = b6.toList
  case neg => simp [h1, h2, h3, h4, h5, h6, eqRB]
  by_cases h7 : a7.toList = b7.toList <;> simp [h1, h2, h3, h4, h5, h6, h7, eqRB]

def wordB (x : Int) : Bool := decide (1 ≤ x) && decide (x ≤ 65535)
def restB (r : Rcd) : Bool := r.on && (decide (0 ≤ r.old) && (decide (r.old ≤ 65535) && ((r.old != r.ino) && (nameB r.fn && nameB r.tn))))
def mayR (r : Rcd) : Bool := eqRB r Rcd.zero || (wordB r.fr && (wordB r.td && (wordB r.ino && restB r)))
theorem wordB_no {x : Int} (h : ¬ (1 ≤ x ∧ x ≤ 65535)) : wordB x = false := by
  unfold wordB
  simp only [Bool.and_eq_false_iff, decide_eq_false_iff_not]
  omega
theorem wordB_yes {x : Int} (h : 1 ≤ x ∧ x ≤ 65535) : wordB x = true := by simp [wordB, h]
theorem may_a {r : Rcd} (h : eqRB r Rcd.zero = true) : mayR r = true := by simp [mayR, h]
theorem may_b {r : Rcd} (h : eqRB r Rcd.zero = false) (h1 : wordB r.fr = false) : mayR r = false := by simp [mayR, h, h1]
theorem may_c {r : Rcd} (h : eqRB r Rcd.zero = false) (h1 : wordB r.td = false) : mayR r = false := by simp [mayR, h, h1]
theorem may_d {r : Rcd} (h : eqRB r Rcd.zero = false) (h1 : wordB r.ino = false) : mayR r = false := by simp [mayR, h, h1]
theorem may_e {r : Rcd} (h : eqRB r Rcd.zero = false) (h1 : wordB r.fr = true) (h2 : wordB r.td = true) (h3 : wordB r.ino = true) : mayR r = restB r := by simp [mayR, h, h1, h2, h3]

theorem Blk.c7 {w : World} {g : Nat} {t : TypeId} {a0 a1 a2 a3 a4 a5 a6 : Value} (h : Blk w g t #[a0, a1, a2, a3, a4, a5, a6]) : w.cell? ⟨g, 0, none⟩ = some a0 ∧ w.cell? ⟨g, 1, none⟩ = some a1 ∧ w.cell? ⟨g, 2, none⟩ = some a2 ∧ w.cell? ⟨g, 3, none⟩ = some a3 ∧ w.cell? ⟨g, 4, none⟩ = some a4 ∧ w.cell? ⟨g, 5, none⟩ = some a5 ∧ w.cell? ⟨g, 6, none⟩ = some a6 := ⟨h.cell 0, h.cell 1, h.cell 2, h.cell 3, h.cell 4, h.cell 5, h.cell 6⟩
set_option maxRecDepth 100000 in
set_option maxHeartbeats 2000000 in
theorem RcMay_calls (r : Rcd) (w : World) (h1 : r.fn.size ≤ 1000000) (h2 : r.tn.size ≤ 1000000) : Calls Try.prog 16 #[r.val] w fun e w' => e = .returned (.bool (mayR r)) ∧ Fresh w w' := by
  obtain ⟨on, fr, td, ino, old, fn, tn⟩ := r
  unfold Rcd.val Rcd.cells
  dsimp only at h1 h2 ⊢
  have hEQ := eq_rcd on fr td ino old fn tn false 0 0 0 0 ⟨#[]⟩ ⟨#[]⟩
  cases hz : eqRB ⟨on, fr, td, ino, old, fn, tn⟩ ⟨false, 0, 0, 0, 0, ⟨#[]⟩, ⟨#[]⟩⟩
  · rw [hz] at hEQ
    have HZ := Lib.hid hz; clear hz
    have hb := Blk.alloc (Blk.new w 23 #[.bool on, .int .i64 fr, .int .i64 td, .int .i64 ino, .int .i64 old, .string fn, .string tn]) (.cells #[.int .i64 fr, .int .i64 td, .int .i64 ino] 3)
    have hb2 := Blk.new (w.alloc (.cells #[.bool on, .int .i64 fr, .int .i64 td, .int .i64 ino, .int .i64 old, .string fn, .string tn] 23)) 3 #[.int .i64 fr, .int .i64 td, .int .i64 ino]
    rw [show (w.alloc (.cells #[.bool on, .int .i64 fr, .int .i64 td, .int .i64 ino, .int .i64 old, .string fn, .string tn] 23)).heap.size = w.heap.size + 1 from by simp] at hb2
    have HB := Lib.hid hb; clear hb
    have HB2 := Lib.hid hb2; clear hb2
    go_enter Try.func16, Try.ntmps16
    go_wp2
    go_loopw [16] (fun i wr => ∃ k : Int, (k = 0 ∨ k = 1 ∨ k = 2 ∨ k = 3) ∧ i = .int .i64 k ∧ Hid ((1 ≤ k → wordB fr = true) ∧ (2 ≤ k → wordB td = true) ∧ (3 ≤ k → wordB ino = true)) ∧ Hid (wr = (w.alloc (.cells #[.bool on, .int .i64 fr, .int .i64 td, .int .i64 ino, .int .i64 old, .string fn, .string tn] 23)).alloc (.cells #[.int .i64 fr, .int .i64 td, .int .i64 ino] 3))) (fun i _ => 3 - (intOf i).toNat)
    case atStart => exact ⟨0, by omega, rfl, ⟨fun h => by omega, fun h => by omega, fun h => by omega⟩, rfl⟩
    case round =>
      obtain ⟨k, hk, rfl, HP, HW⟩ := hrel
      obtain ⟨b0, b1, b2⟩ := Blk.c3 (HW.out ▸ HB2.out)
      obtain ⟨a0, a1, a2, a3, a4, a5, a6⟩ := Blk.c7 (HW.out ▸ HB.out)
      obtain rfl | rfl | rfl | rfl := hk
      · by_cases hw : 1 ≤ fr ∧ fr ≤ 65535
        · obtain ⟨l1, l2⟩ := hw
          go_wp2
          go_round
          case rel => exact ⟨1, by omega, rfl, ⟨fun _ => wordB_yes ⟨l1, l2⟩, fun h => by omega, fun h => by omega⟩, HW⟩
          case measure => simp [intOf]
        · rcases (show fr < 1 ∨ (1 ≤ fr ∧ 65535 < fr) by omega) with l1 | ⟨l1, l2⟩
          all_goals
            go_wp2
            go_ret
            exact ⟨ret_bool (may_b HZ.out (wordB_no hw)).symm, HW.out ▸ ((Keep.refl _ w).alloc _).alloc _⟩
      · by_cases hw : 1 ≤ td ∧ td ≤ 65535
        · obtain ⟨l1, l2⟩ := hw
          go_wp2
          go_round
          case rel => exact ⟨2, by omega, rfl, ⟨fun _ => HP.out.1 (by omega), fun _ => wordB_yes ⟨l1, l2⟩, fun h => by omega⟩, HW⟩
          case measure => simp [intOf]
        · rcases (show td < 1 ∨ (1 ≤ td ∧ 65535 < td) by omega) with l1 | ⟨l1, l2⟩
          all_goals
            go_wp2
            go_ret
            exact ⟨ret_bool (may_c HZ.out (wordB_no hw)).symm, HW.out ▸ ((Keep.refl _ w).alloc _).alloc _⟩
      · by_cases hw : 1 ≤ ino ∧ ino ≤ 65535
        · obtain ⟨l1, l2⟩ := hw
          go_wp2
          go_round
          case rel => exact ⟨3, by omega, rfl, ⟨fun _ => HP.out.1 (by omega), fun _ => HP.out.2.1 (by omega), fun _ => wordB_yes ⟨l1, l2⟩⟩, HW⟩
          case measure => simp [intOf]
        · rcases (show ino < 1 ∨ (1 ≤ ino ∧ 65535 < ino) by omega) with l1 | ⟨l1, l2⟩
          all_goals
            go_wp2
            go_ret
            exact ⟨ret_bool (may_d HZ.out (wordB_no hw)).symm, HW.out ▸ ((Keep.refl _ w).alloc _).alloc _⟩
      · have HF0 : Hid (Fresh w wr) := HW.out ▸ ((Keep.refl _ w).alloc _).alloc _
        have HB3 : Hid (Blk wr w.heap.size 23 #[.bool on, .int .i64 fr, .int .i64 td, .int .i64 ino, .int .i64 old, .string fn, .string tn]) := HW.out ▸ HB.out
        have HM := Lib.hid (may_e HZ.out (HP.out.1 (by omega)) (HP.out.2.1 (by omega)) (HP.out.2.2 (by omega)))
        go_wp2_with (go_at_call 27; refine (Name_calls _ _ (by first | exact h1 | exact h2)).mono ?_; rintro e w2 ⟨rfl, k2⟩; have HF0 := Lib.hid (HF0.out.trans k2 (fun _ _ f => f)); have HB3 := Lib.hid (HB3.out.fresh k2); obtain ⟨a0, a1, a2, a3, a4, a5, a6⟩ := Blk.c7 HB3.out)
        all_goals
          go_ret
          refine ⟨ret_bool ?_, HF0.out⟩
          have hM := HM.out
          first
            | (simp_all [restB]; done)
            | (simp_all [restB]; omega)
            | (simp_all [restB]; intros; omega)
  · rw [hz] at hEQ
    go_enter Try.func16, Try.ntmps16
    go_wp2
    go_ret
    exact ⟨ret_bool (may_a hz).symm, (Keep.refl _ w).alloc _⟩
set_option maxRecDepth 100000 in
set_option maxHeartbeats 2000000 in
theorem RRcMay_calls (r : Rcd) (w : World) : Calls Try.prog 17 #[r.val] w fun e w' => e = .returned (.bool (mayR r)) ∧ Fresh w w' := by
  obtain ⟨on, fr, td, ino, old, fn, tn⟩ := r
  unfold Rcd.val Rcd.cells
  dsimp only
  have hEQ := eq_rcd on fr td ino old fn tn false 0 0 0 0 ⟨#[]⟩ ⟨#[]⟩
  cases hz : eqRB ⟨on, fr, td, ino, old, fn, tn⟩ ⟨false, 0, 0, 0, 0, ⟨#[]⟩, ⟨#[]⟩⟩
  · rw [hz] at hEQ
    have HZ := Lib.hid hz; clear hz
    go_enter Try.func17, Try.ntmps17
    go_wp2_with (go_at_call 28; refine (RName_calls _ _).mono ?_; rintro e w2 ⟨rfl, rfl⟩)
    all_goals
      go_ret
      refine ⟨ret_bool ?_, (Keep.refl _ w).alloc _⟩
      have hz := HZ.out
      unfold mayR Rcd.zero
      clear HZ
      first
        | (simp_all [restB, wordB]; done)
        | (simp_all [restB, wordB]; omega)
        | (simp_all [restB, wordB]; intros; omega)
  · rw [hz] at hEQ
    go_enter Try.func17, Try.ntmps17
    go_wp2
    go_ret
    exact ⟨ret_bool (may_a hz).symm, (Keep.refl _ w).alloc _⟩
end Go.Proofs.Ytcjackjoonijnaa
