/-
  DirNames, walked.
-/
import Derived.Test.YtcjackjoonijnaaAwake9
namespace Go.Proofs.Ytcjackjoonijnaa
open Go.RowKit

def baseB (s : ByteArray) : Bool := !s.toList.isEmpty && decide ((s.size : Int) ≤ 24) && !(s.toList == [46]) && !(s.toList == [46, 46])
theorem clean_bad {s : ByteArray} : CleanTo s s.size ↔ hasBad s = false := by
  constructor
  · intro h
    exact bad_no h (Nat.le_refl _)
  · intro h j hj hlt
    refine Classical.byContradiction fun hc => ?_
    have hbad : s[j].toNat = 47 ∨ s[j].toNat = 0 := by omega
    rw [bad_yes hj hbad] at h
    exact absurd h (by decide)
theorem base_name {s : ByteArray} {b : Bool} (h : b = true ↔ (baseB s = true ∧ CleanTo s s.size)) : b = nameB s := by
  rw [clean_bad] at h
  unfold baseB at h
  unfold nameB
  rw [Bool.eq_iff_iff, h]
  simp only [Bool.and_eq_true, Bool.not_eq_true']
  constructor
  · rintro ⟨⟨⟨⟨h1, h2⟩, h3⟩, h4⟩, h5⟩; exact ⟨⟨⟨⟨h1, h2⟩, h5⟩, h3⟩, h4⟩
  · rintro ⟨⟨⟨⟨h1, h2⟩, h5⟩, h3⟩, h4⟩; exact ⟨⟨⟨⟨h1, h2⟩, h3⟩, h4⟩, h5⟩
theorem clean_zero (s : ByteArray) : CleanTo s 0 := fun j _ h => by omega
theorem clean_next {s : ByteArray} {k : Nat} (hk : k < s.size) (h : CleanTo s k) (h1 : ((s[k].toNat : Int) != 47) = true) (h2 : ((s[k].toNat : Int) != 0) = true) : CleanTo s (k + 1) := by
  intro j hj hlt
  by_cases hjk : j < k
  · exact h j hj hjk
  · obtain rfl : j = k := by omega
    have h1' := bne_iff_ne.1 h1
    have h2' := bne_iff_ne.1 h2
    omega
theorem clean_not {s : ByteArray} {k : Nat} (hk : k < s.size) (h : ((s[k].toNat : Int) != 47) = false ∨ ((s[k].toNat : Int) != 0) = false) : ¬ CleanTo s (k + 1) := by
  intro hc
  have := hc k hk (by omega)
  rcases h with h | h
  · have h' : (s[k].toNat : Int) = 47 := by simpa using h
    omega
  · have h' : (s[k].toNat : Int) = 0 := by simpa using h
    omega
theorem clean_less {s : ByteArray} {k : Nat} (h : CleanTo s (k + 1)) : CleanTo s k := fun j hj hlt => h j hj (by omega)
theorem may_one (s : ByteArray) : mayB ⟨1, 1, s⟩ = nameB s := by
  simp [mayB, zeroB]
theorem lay_one (s : ByteArray) : layOkB ⟨1, 1, s⟩ Slt.zero Slt.zero Slt.zero = nameB s := by
  have hz : mayB Slt.zero = true := by decide +kernel
  have hf : findI s ⟨1, 1, s⟩ Slt.zero Slt.zero Slt.zero = 0 := by simp [findI, hitB]
  have h1 : okB 0 ⟨1, 1, s⟩ ⟨1, 1, s⟩ Slt.zero Slt.zero Slt.zero = nameB s := by
    unfold okB
    rw [may_one, show findI (⟨1, 1, s⟩ : Slt).name ⟨1, 1, s⟩ Slt.zero Slt.zero Slt.zero = 0 from hf]
    simp
  have h2 : ∀ k, okB k Slt.zero ⟨1, 1, s⟩ Slt.zero Slt.zero Slt.zero = true := fun k => by
    unfold okB
    rw [hz]
    rfl
  unfold layOkB
  rw [h1, h2, h2, h2]
  simp

section
variable {s : ByteArray}
theorem base_c1 (h : s.toList = [46]) : baseB s = false := by simp [baseB, h]
theorem base_c2 (h1 : (1 : Int) ≤ s.size) (h2 : (s.size : Int) ≤ 24) (h3 : ¬ s.toList = [46]) : baseB s = (s.toList != [46, 46]) := by
  have h4 : s.toList.isEmpty = false := by
    cases h : s.toList with
    | nil => have := size_empty h; omega
    | cons a b => rfl
  have h5 : (s.toList == [46]) = false := by rw [beq_eq_false_iff_ne]; exact h3
  unfold baseB
  rw [h4, h5, decide_eq_true h2]
  rfl
theorem base_c2' (h1 : (1 : Int) ≤ s.size) (h2 : (s.size : Int) ≤ 24) (h3 : ¬ s.toList = [46]) : baseB s = (!(s.toList == [46]) && !(s.toList == [46, 46])) := by
  rw [base_c2 h1 h2 h3, show (s.toList == [46]) = false from by rw [beq_eq_false_iff_ne]; exact h3]
  rfl
theorem base_c3 (h : (24 : Int) < s.size) : baseB s = false := by
  have h1 : decide ((s.size : Int) ≤ 24) = false := decide_eq_false (by omega)
  simp only [baseB, h1, Bool.and_false, Bool.false_and]
theorem base_c4 (h : (s.size : Int) < 1) : baseB s = false := by
  have h1 : s.toList.isEmpty = true := by
    cases h2 : s.toList with
    | nil => rfl
    | cons a b => have := size_full (s := s) (by rw [h2]; exact List.cons_ne_nil _ _); omega
  simp only [baseB, h1, Bool.not_true, Bool.false_and]
theorem good_start {b : Bool} (h : baseB s = b) : (b = true ↔ (baseB s = true ∧ CleanTo s 0)) := by
  rw [h]
  exact ⟨fun e => ⟨e, clean_zero s⟩, fun e => e.1⟩
theorem good_false {k : Nat} (h : (false = true ↔ (baseB s = true ∧ CleanTo s k))) : (false = true ↔ (baseB s = true ∧ CleanTo s (k + 1))) :=
  ⟨fun e => absurd e (by decide), fun e => h.2 ⟨e.1, clean_less e.2⟩⟩
theorem good_lost {k : Nat} (hk : k < s.size) (h : ((s[k].toNat : Int) != 47) = false ∨ ((s[k].toNat : Int) != 0) = false) : (false = true ↔ (baseB s = true ∧ CleanTo s (k + 1))) :=
  ⟨fun e => absurd e (by decide), fun e => absurd e.2 (clean_not hk h)⟩
theorem good_true {k : Nat} (hk : k < s.size) (h : (true = true ↔ (baseB s = true ∧ CleanTo s k))) (h1 : ((s[k].toNat : Int) != 47) = true) (h2 : ((s[k].toNat : Int) != 0) = true) : (true = true ↔ (baseB s = true ∧ CleanTo s (k + 1))) :=
  ⟨fun e => ⟨(h.1 rfl).1, clean_next hk (h.1 rfl).2 h1 h2⟩, fun _ => rfl⟩
end

set_option maxRecDepth 100000 in
set_option maxHeartbeats 8000000 in
theorem DirNames_calls (w : World) (s : ByteArray) : Calls Try.prog 7 #[.string s] w fun e w' => e = .returned (.bool true) ∧ Fresh w w' := by
  by_cases h60 : s.size ≤ 60
  · have hc60 : (s.size : Int) ≤ 60 := by omega
    have hs6 : s.size ≤ 1000000 := by omega
    have hlt60 : ¬ (60 : Int) < s.size := by omega
    go_enter Try.func7, Try.ntmps7
    go_wp2
    all_goals
      go_loop [3, 4] (fun g i => ∃ (k : Nat) (b : Bool), k ≤ s.size ∧ i = .int .i64 k ∧ g = .bool b ∧ Hid (b = true ↔ (baseB s = true ∧ CleanTo s k))) (fun _ i => s.size - (intOf i).toNat)
      case atStart => exact ⟨0, _, Nat.zero_le _, rfl, rfl, good_start (by first | exact base_c1 (by assumption) | exact base_c3 (by assumption) | exact base_c4 (by assumption) | exact base_c2 (by assumption) (by assumption) (by assumption) | exact base_c2' (by assumption) (by assumption) (by assumption))⟩
      case round =>
        obtain ⟨k, b, hk, rfl, rfl, HC⟩ := hrel
        by_cases hlt : k < s.size
        · cases b
          · go_wp2
            go_round
            case rel => exact ⟨k + 1, false, by omega, by go_num, rfl, good_false HC.out⟩
            case measure => simp [intOf]; omega
          · cases hb1 : ((s[k].toNat : Int) != 47)
            · go_wp2
              go_round
              case rel => exact ⟨k + 1, false, by omega, by go_num, rfl, good_lost hlt (.inl hb1)⟩
              case measure => simp [intOf]; omega
            · cases hb2 : ((s[k].toNat : Int) != 0)
              · go_wp2
                go_round
                case rel => exact ⟨k + 1, false, by omega, by go_num, rfl, good_lost hlt (.inr hb2)⟩
                case measure => simp [intOf]; omega
              · go_wp2
                go_round
                case rel => exact ⟨k + 1, true, by omega, by go_num, rfl, good_true hlt HC.out hb1 hb2⟩
                case measure => simp [intOf]; omega
        · obtain rfl : k = s.size := by omega
          have hbn := base_name HC.out
          have HB1 := Lib.hid (Blk.new w 40 #[.int .i64 1, .int .i64 1, .string s, .int .i64 0, .int .i64 0, .string ⟨#[]⟩, .int .i64 0, .int .i64 0, .string ⟨#[]⟩, .int .i64 0, .int .i64 0, .string ⟨#[]⟩])
          cases b
          · have HNM := Lib.hid hbn.symm; clear hbn
            go_wp2_with (first
              | (go_at_call 23; refine (Lay_calls ⟨1, 1, s⟩ Slt.zero Slt.zero Slt.zero _ hs6 (by decide) (by decide) (by decide)).mono ?_; rintro e w2 (⟨-, rfl, k2⟩ | ⟨hyes, -⟩); rotate_left; (exact absurd hyes (by rw [lay_one, HNM.out]; decide)); have HB2 := Lib.hid (HB1.out.fresh k2); obtain ⟨a0, a1, a2, a3, a4, a5, a6, a7, a8, a9, a10, a11⟩ := Blk.c12 HB2.out)
              | (go_at_call 27; refine (Name_calls s _ hs6).mono ?_; rintro e w3 ⟨rfl, k3⟩; rw [HNM.out]; have HB3 := Lib.hid (HB2.out.fresh k3); obtain ⟨b0, b1, b2, b3, b4, b5, b6, b7, b8, b9, b10, b11⟩ := Blk.c12 HB3.out)
              | (go_at_call 29; refine (May_calls ⟨1, 1, s⟩ _ hs6).mono ?_; rintro e w4 ⟨rfl, k4⟩; rw [may_one, HNM.out])
              | (go_at_call 22; refine (awake9_calls _).mono ?_; rintro e w5 ⟨rfl, k5⟩))
            go_ret
            exact ⟨rfl, ((((Keep.refl (fun _ => False) w).alloc _).trans k2 (fun _ _ f => f)).trans (k3.trans k4 (fun _ _ f => f)) (fun _ _ f => f)).trans k5 (fun _ _ f => f)⟩
          · have HNM := Lib.hid hbn.symm; clear hbn
            go_wp2_with (first
              | (go_at_call 23; refine (Lay_calls ⟨1, 1, s⟩ Slt.zero Slt.zero Slt.zero _ hs6 (by decide) (by decide) (by decide)).mono ?_; rintro e w2 (⟨hno, -⟩ | ⟨-, v2, rfl, h2⟩); (exact absurd hno (by rw [lay_one, HNM.out]; decide)); obtain ⟨A2, c2, rfl⟩ := h2.1.shape; have k2 := h2.2.1; have HB2 := Lib.hid (HB1.out.fresh k2); obtain ⟨a0, a1, a2, a3, a4, a5, a6, a7, a8, a9, a10, a11⟩ := Blk.c12 HB2.out)
              | (go_at_call 27; refine (Name_calls s _ hs6).mono ?_; rintro e w3 ⟨rfl, k3⟩; rw [HNM.out]; have HB3 := Lib.hid (HB2.out.fresh k3); obtain ⟨b0, b1, b2, b3, b4, b5, b6, b7, b8, b9, b10, b11⟩ := Blk.c12 HB3.out)
              | (go_at_call 29; refine (May_calls ⟨1, 1, s⟩ _ hs6).mono ?_; rintro e w4 ⟨rfl, k4⟩; rw [may_one, HNM.out])
              | (go_at_call 22; refine (awake9_calls _).mono ?_; rintro e w5 ⟨rfl, k5⟩))
            go_ret
            exact ⟨rfl, ((((Keep.refl (fun _ => False) w).alloc _).trans k2 (fun _ _ f => f)).trans (k3.trans k4 (fun _ _ f => f)) (fun _ _ f => f)).trans k5 (fun _ _ f => f)⟩
  · have h60' : (60 : Int) < s.size := by omega
    go_enter Try.func7, Try.ntmps7
    go_wp2_with (go_at_call 22; refine (awake9_calls _).mono ?_; rintro e w2 ⟨rfl, k2⟩)
    go_ret
    exact ⟨rfl, k2⟩
end Go.Proofs.Ytcjackjoonijnaa
