/-
  DiskLoads: the plain law and the walk.
-/
import Derived.Test.YtfmfedfalljokaaLoads1
namespace Go.Proofs.Ytfmfedfalljokaa
open Go.RowKit

theorem fillL_length (n : Int) (k : Nat) : (fillL n k).length = k := by simp [fillL]
namespace DiskS
/-- A disk of an image. -/
def ofImg (ls : List (List Int)) : DiskS := { DiskS.new ls.length with firm := ls }
theorem layKept_nil (ws : List (Int × List Int)) : ∀ (k : Nat) (fm : List (List Int)), layKept [] k ws fm = fm := by
  induction ws with
  | nil => intro k fm; rfl
  | cons p ws ih => intro k fm; simp only [layKept]; rw [ih, if_neg (by simp [lasts])]
theorem ofImg_write {ls : List (List Int)} {b : List Int} (h0 : 0 < ls.length) (hb : b.length = 128) : (ofImg ls).write 0 b = (0, { ofImg ls with waits := [(0, b)], writes := [0] }) := by
  have ht : (ofImg ls).there 0 = true := by simp [there, ofImg]; omega
  unfold write
  rw [ht, hb]
  rfl
theorem ofImg_ok (ls : List (List Int)) : (ofImg ls).Ok := ⟨(fun p hp => by simp [ofImg, new] at hp), (fun l k h => by simp [ofImg, new] at h), fun h => by simp [ofImg, new] at h⟩
end DiskS

def goodTo (ls : List (List Int)) (k : Nat) : Bool := decide (0 < ls.length) && (ls.take k).all fun l => decide (l.length = 128)
theorem goodTo_zero (ls : List (List Int)) : goodTo ls 0 = decide (0 < ls.length) := by simp [goodTo]
theorem goodTo_all (ls : List (List Int)) {n : Nat} (h : ls.length ≤ n) : goodTo ls n = goodImg ls := by unfold goodTo goodImg; rw [List.take_of_length_le h]
theorem goodTo_succ {ls : List (List Int)} {k : Nat} {l : List Int} (h : ls[k]? = some l) : goodTo ls (k + 1) = (goodTo ls k && decide (l.length = 128)) := by
  obtain ⟨hk, rfl⟩ := List.getElem?_eq_some_iff.1 h
  unfold goodTo
  rw [List.take_succ_eq_append_getElem hk, List.all_append]
  simp [Bool.and_assoc]

set_option maxRecDepth 100000 in
set_option maxHeartbeats 2000000 in
theorem DiskLoads_calls (w : World) {A : Option Addr} {n c : Nat} {vs : List Value} {ls : List (List Int)} (hr : Rd w 1 A n vs) (hl : RdL w n vs ls) :
    Calls Try.prog 6 #[.slice A n c] w fun e w' => e = .returned (.bool true) ∧ Fresh w w' := by
  have hle := hr.le
  have hll := hl.2.1
  by_cases hbig : n ≤ 20
  · have hz0 := goodTo_zero ls
    rw [show decide (0 < ls.length) = decide (0 < n) from by rw [hll]] at hz0
    have HZ := Lib.hid hz0; clear hz0
    have HLL := Lib.hid hll; clear hll
    have hq0 : decide ((0 : Int) < (n : Int)) = decide (0 < n) := by simp
    go_enter Try.func6, Try.ntmps6
    go_wp2
    go_loopw [3, 4] (fun gd i wr => ∃ (k : Nat) (b : Bool), k ≤ n ∧ i = .int .i64 k ∧ gd = .bool b ∧ Hid (goodTo ls k = b) ∧ w = wr) (fun _ i _ => n - (intOf i).toNat)
    case atStart => exact ⟨0, _, Nat.zero_le _, rfl, rfl, HZ, rfl⟩
    case round =>
      clear HZ
      obtain ⟨k, b, hk, rfl, rfl, HB, rfl⟩ := hrel
      by_cases hlt : k < n
      · obtain ⟨ad, rfl, u, hu, hc⟩ := hr.at_ hlt
        obtain ⟨A1, m1, c1, l1, hv1, hl1, hc1, hr1⟩ := hl.at_ hlt
        rw [hu] at hv1
        cases hv1
        have hm1 := hr1.len
        have hgs := goodTo_succ hl1
        rw [HB.out, hm1] at hgs
        have hi0 : (0 : Int) ≤ (k : Int) := Int.natCast_nonneg _
        have hi1 : (k : Int) < (n : Int) := by omega
        have hle1 := hr1.le
        clear hm1 hl1 hu
        by_cases h200 : m1 ≤ 200
        · cases b with
          | false =>
            have HG := Lib.hid hgs; clear hgs
            go_wp2
            go_roundw
            case rel => exact ⟨k + 1, false, by omega, by go_num, rfl, HG.out, trivial⟩
            case measure => simp [intOf]; omega
          | true =>
            by_cases h128 : m1 = 128
            · subst h128
              have HG := Lib.hid hgs; clear hgs
              go_wp2
              go_roundw
              case rel => exact ⟨k + 1, true, by omega, by go_num, rfl, HG.out, trivial⟩
              case measure => simp [intOf]; omega
            · have hb1 : ((m1 : Int) == 128) = false := by rw [beq_eq_false_iff_ne]; omega
              rw [decide_eq_false h128] at hgs
              have HG := Lib.hid hgs; clear hgs
              go_wp2
              go_roundw
              case rel => exact ⟨k + 1, false, by omega, by go_num, rfl, HG.out, trivial⟩
              case measure => simp [intOf]; omega
        · clear hgs
          go_wp2_with (first | (go_at_call 12; refine (awake_calls _).mono ?_; rintro e w' ⟨rfl, hk⟩))
          go_ret
          exact ⟨rfl, hk⟩
      · obtain rfl : k = n := by omega
        have hga := HB.out
        rw [goodTo_all ls (by rw [HLL.out]; exact Nat.le_refl _)] at hga
        have hLoad := Load_calls (c := c) w hr hl hbig
        clear HB
        cases b with
        | false =>
          have HG := Lib.hid hga; clear hga
          go_wp2_with (first | (go_at_call 29; refine hLoad.mono ?_; rintro e w1 ⟨k1, -, he⟩; obtain rfl := he HG.out; clear he) | (go_at_call 22; refine (Read_nil _ 0).mono ?_; rintro e w2 ⟨rfl, k2⟩) | (go_at_call 15; refine (Write_nil _ 0 0 _ _ (by omega)).mono ?_; rintro e w' ⟨rfl, rfl⟩) | (go_at_call 25; refine (Flush_nil _).mono ?_; rintro e w' ⟨rfl, rfl⟩) | (go_at_call 26; refine (On_nil _).mono ?_; rintro e w' ⟨rfl, rfl⟩) | (go_at_call 19; refine (Image_nil _).mono ?_; rintro e w' ⟨rfl, rfl⟩) | (go_at_call 30; refine (Sectors_nil _).mono ?_; rintro e w' ⟨rfl, rfl⟩) | (go_at_call 12; refine (awake_calls _).mono ?_; rintro e w3 ⟨rfl, k3⟩))
          go_ret
          exact ⟨rfl, (k1.trans k2 (fun _ _ f => f)).trans k3 (fun _ _ f => f)⟩
        | true =>
          have h0 : 0 < ls.length := by unfold goodImg at hga; simp at hga; exact hga.1
          have h128 : ∀ l ∈ ls, l.length = 128 := by unfold goodImg at hga; simp at hga; exact hga.2
          have hwr := DiskS.ofImg_write h0 (fillL_length 1 128)
          obtain ⟨D0, hD0⟩ : ∃ D, D = DiskS.ofImg ls := ⟨_, rfl⟩
          obtain ⟨D1, hD1⟩ : ∃ D, D = (D0.write 0 (fillL 1 128)).2 := ⟨_, rfl⟩
          obtain ⟨D2, hD2⟩ : ∃ D, D = D1.crash [] := ⟨_, rfl⟩
          have hok0 : D0.Ok := by rw [hD0]; exact DiskS.ofImg_ok ls
          have e1 : (D0.write 0 (fillL 1 128)).1 = 0 := by rw [hD0, hwr]
          have e2 : D1.Fit := by
            rw [hD1, hD0, hwr]
            intro p hp
            simp at hp
            subst hp
            exact ⟨by simp, by simp [DiskS.ofImg]; omega⟩
          have e3 : D0.firm = ls := by rw [hD0]; rfl
          have e4 : D2.firm = ls := by rw [hD2, hD1, hD0, hwr]; simp [DiskS.crash, DiskS.layKept_nil, DiskS.ofImg]
          have e5 : D2.boot.1 = 0 := by rw [hD2, hD1, hD0, hwr]; simp [DiskS.crash, DiskS.boot]
          have s0 : D0.waits.length ≤ 1000000 ∧ D0.writes.length ≤ 1000000 := by rw [hD0]; simp [DiskS.ofImg, DiskS.new]
          obtain ⟨s0, s1⟩ := s0
          have hsm : ls.length ≤ 1000000 := by rw [HLL.out]; omega
          have hsr : ∀ l ∈ ls, l.length ≤ 1000000 := fun l hl => by rw [h128 l hl]; omega
          have hFi : ∀ w, Calls Try.prog 16 #[.int .i64 1, .int .i64 128] w fun e w' => ∃ v, e = .returned v ∧ NewB w w' 5 .u8 v 128 (fillL 1 128) := fun w => Fill_calls 1 128 w (by omega) (by omega)
          have HG := Lib.hid hga
          have HD0 := Lib.hid hD0
          have HE3 := Lib.hid e3
          have HE4 := Lib.hid e4
          have HE1 := Lib.hid e1
          have HE5 := Lib.hid e5
          have HD1 := Lib.hid hD1
          have HD2 := Lib.hid hD2
          have HSR := Lib.hid hsr
          clear hga hD0 e3 e4 e1 e5 hD1 hD2 hsr h128 hwr
          go_wp2_with (first | (go_at_call 29; refine hLoad.mono ?_; rintro e w1 ⟨k1, he, -⟩; obtain ⟨g, rfl, -, hA1⟩ := he HG.out; clear he; have hS1 := Ses.start hA1 k1; rw [show ({ DiskS.new ls.length with firm := ls } : DiskS) = D0 from HD0.out.symm] at hS1; clear hA1 k1) | (go_at_call 22; refine (Read_nil _ 0).mono ?_; rintro e w2 ⟨rfl, k2⟩; have hS2 := hS1.fresh k2) | (go_at_call 15; have := hS5; refine (Write_calls hS5.at_ hok0 0 r5 far5 s0 s1).mono ?_; rintro e w6 ⟨rfl, hA6, k6⟩; rw [← HD1.out] at hA6; rw [HE1.out]; have hS6 := hS5.op hA6 k6; clear hA6 k6 r5 far5) | (go_at_call 15; refine (Write_nil _ 0 0 _ _ (by omega)).mono ?_; rintro e w' ⟨rfl, rfl⟩) | (go_at_call 25; refine (Flush_nil _).mono ?_; rintro e w' ⟨rfl, rfl⟩) | (go_at_call 26; refine (On_nil _).mono ?_; rintro e w' ⟨rfl, rfl⟩) | (go_at_call 30; refine (Sectors_nil _).mono ?_; rintro e w' ⟨rfl, rfl⟩; have tok3 : True := trivial) | (go_at_call 19; have := hS7; refine (Image_calls hS7.at_ (by rw [HE4.out]; exact hsm) (by rw [HE4.out]; exact HSR.out)).mono ?_; rintro e w8 ⟨v8, vs8, rfl, hn8⟩; rw [HE4.out] at hn8; have hS8 := hS7.fresh hn8.2.2.1; have hrd8 := RdL.of_all2 hn8.2.1; have hno8 := hn8.1; rw [HLL.out] at hrd8 hno8; obtain ⟨A8, c8, rfl, -, hr8⟩ := Own.rd hno8) | (go_at_call 19; have := tok3; refine (Image_calls hS2.at_ (by rw [HE3.out]; exact hsm) (by rw [HE3.out]; exact HSR.out)).mono ?_; rintro e w3 ⟨v3, vs3, rfl, hn3⟩; rw [HE3.out] at hn3; have hS3 := hS2.fresh hn3.2.2.1; have hrd3 := RdL.of_all2 hn3.2.1; have hno3 := hn3.1; rw [HLL.out] at hrd3 hno3; obtain ⟨A3, c3, rfl, -, hr3⟩ := Own.rd hno3) | (go_at_call 19; refine (Image_nil _).mono ?_; rintro e w' ⟨rfl, rfl⟩) | (go_at_call 18; have := hS8; refine (SameParts_yes _ hr8 (hr.fresh hS8.kept) hrd8 (hl.fresh hS8.kept) rfl).mono ?_; rintro e w9 ⟨rfl, D9⟩; have hS9 := hS8.fresh D9.fresh) | (go_at_call 18; refine (SameParts_yes _ hr3 (hr.fresh hS3.kept) hrd3 (hl.fresh hS3.kept) rfl).mono ?_; rintro e w4 ⟨rfl, D4⟩; have hS4 := hS3.fresh D4.fresh) | (go_at_call 16; refine (hFi _).mono ?_; rintro e w5 ⟨v5, rfl, hn5⟩; obtain ⟨A5, c5, rfl, r5, far5, -⟩ := newB_rd_far hn5 hS4.at_.low; have hS5 := hS4.fresh hn5.2.1) | (go_at_call 17; refine (Crash_calls (keep := []) hS6.at_ e2 Rd.none_ (fun _ e => by cases e)).mono ?_; rintro e w7 ⟨rfl, hA7, k7⟩; rw [← HD2.out] at hA7; have hS7 := hS6.same hA7 k7) | (go_at_call 21; refine (Boot_calls hS9.at_).mono ?_; rintro e w10 ⟨rfl, hA10, k10⟩; rw [HE5.out]; have hS10 := hS9.same hA10 k10) | (go_at_call 12; refine (awake_calls _).mono ?_; rintro e w11 ⟨rfl, k11⟩))
          go_ret
          exact ⟨rfl, hS10.kept.trans k11 (fun _ _ f => f)⟩
  · go_enter Try.func6, Try.ntmps6
    go_wp2_with (first | (go_at_call 12; refine (awake_calls _).mono ?_; rintro e w' ⟨rfl, hk⟩))
    go_ret
    exact ⟨rfl, hk⟩
end Go.Proofs.Ytfmfedfalljokaa
