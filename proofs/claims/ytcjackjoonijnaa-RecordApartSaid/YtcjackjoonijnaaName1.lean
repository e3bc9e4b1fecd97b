/-
  Names: walked in both texts.
-/
import Derived.Test.YtcjackjoonijnaaAny3
namespace Go.Proofs.Ytcjackjoonijnaa
open Go.RowKit

/-- May a name be? -/
def nameB (s : ByteArray) : Bool := !s.toList.isEmpty && decide ((s.size : Int) ≤ 24) && !hasBad s && !(s.toList == [46]) && !(s.toList == [46, 46])
theorem nameB_size {s : ByteArray} (h : nameB s = true) : 1 ≤ s.size ∧ s.size ≤ 24 := by
  unfold nameB at h
  simp only [Bool.and_eq_true, decide_eq_true_eq] at h
  obtain ⟨⟨⟨⟨h1, h2⟩, -⟩, -⟩, -⟩ := h
  refine ⟨?_, by omega⟩
  rcases Nat.eq_zero_or_pos s.size with h0 | h0
  · exfalso
    have : s.toList = [] := by
      rw [Lib.toList_data]
      exact List.eq_nil_of_length_eq_zero (by rw [Array.length_toList]; exact h0)
    rw [this] at h1
    simp at h1
  · exact h0
set_option maxRecDepth 100000 in
set_option maxHeartbeats 1000000 in
theorem Name_calls (s : ByteArray) (w : World) (hs : s.size ≤ 1000000) : Calls Try.prog 27 #[.string s] w fun e w' => e = .returned (.bool (nameB s)) ∧ Fresh w w' := by
  go_enter Try.func27, Try.ntmps27
  go_wp2_with (go_at_call 45; refine (ContainsAny_calls s _ hs).mono ?_; rintro e w2 ⟨rfl, k2⟩)
  all_goals go_ret
  · exact ⟨ret_bool (by first | (simp_all [nameB]; done) | (simp_all [nameB]; intros; omega)), Keep.refl _ _⟩
  · exact ⟨ret_bool (by first | (simp_all [nameB]; done) | (simp_all [nameB]; intros; omega)), k2⟩
  · exact ⟨ret_bool (by first | (simp_all [nameB]; done) | (simp_all [nameB]; intros; omega)), k2⟩
  · exact ⟨ret_bool (by first | (simp_all [nameB]; done) | (simp_all [nameB]; intros; omega)), k2⟩
  · exact ⟨ret_bool (by first | (simp_all [nameB]; done) | (simp_all [nameB]; intros; omega)), Keep.refl _ _⟩
theorem size_empty {s : ByteArray} (h : s.toList = []) : s.size = 0 := by
  rw [Lib.toList_data] at h
  have := congrArg List.length h
  simpa using this
theorem size_full {s : ByteArray} (h : ¬ s.toList = []) : 1 ≤ s.size := by
  rcases Nat.eq_zero_or_pos s.size with h0 | h0
  · exact absurd (by rw [Lib.toList_data]; exact List.eq_nil_of_length_eq_zero (by rw [Array.length_toList]; exact h0)) h
  · exact h0
set_option maxRecDepth 100000 in
set_option maxHeartbeats 1000000 in
theorem RName_calls (s : ByteArray) (w : World) : Calls Try.prog 28 #[.string s] w fun e w' => e = .returned (.bool (nameB s)) ∧ w = w' := by
  by_cases h24 : s.size ≤ 24
  · have hempty : s.toList = [] → s.size = 0 := size_empty
    have HEM := Lib.hid hempty; clear hempty
    go_enter Try.func28, Try.ntmps28
    go_wp2
    go_loop [3] (fun i => ∃ k : Nat, k ≤ s.size ∧ i = .int .i64 k ∧ Hid (CleanTo s k)) (fun i => s.size - (intOf i).toNat)
    case atStart => exact ⟨0, Nat.zero_le _, rfl, fun j hj h => by omega⟩
    case round =>
      obtain ⟨k, hk, rfl, HC⟩ := hrel
      by_cases hlt : k < s.size
      · obtain ⟨x, hx⟩ : ∃ x, s[k] = x := ⟨_, rfl⟩
        by_cases hbad : x.toNat = 47 ∨ x.toNat = 0
        · have hb := bad_yes hlt (by rw [hx]; exact hbad)
          have hn : nameB s = false := by unfold nameB; rw [hb]; simp
          have HN := Lib.hid hn
          clear hb hn
          rcases hbad with hbad | hbad
          · have hb1 : ((s[k].toNat : Int) == 47) = true := by rw [hx, beq_iff_eq]; omega
            clear hx
            go_wp2
            go_ret
            exact ⟨ret_bool HN.out.symm, rfl⟩
          · have hb1 : ((s[k].toNat : Int) == 47) = false := by rw [hx, beq_eq_false_iff_ne]; omega
            have hb2 : ((s[k].toNat : Int) == 0) = true := by rw [hx, beq_iff_eq]; omega
            clear hx
            go_wp2
            go_ret
            exact ⟨ret_bool HN.out.symm, rfl⟩
        · have hb1 : ((s[k].toNat : Int) == 47) = false := by rw [hx, beq_eq_false_iff_ne]; omega
          have hb2 : ((s[k].toNat : Int) == 0) = false := by rw [hx, beq_eq_false_iff_ne]; omega
          have HX := Lib.hid hx
          clear hx
          go_wp2
          go_round
          case rel =>
            refine ⟨k + 1, by omega, by go_num, fun j hj h => ?_⟩
            by_cases hjk : j < k
            · exact HC.out j hj hjk
            · obtain rfl : j = k := by omega
              rw [HX.out]
              omega
          case measure => simp [intOf]; omega
      · have hb := bad_no HC.out (by omega)
        have HB := Lib.hid hb; clear hb
        go_wp2
        all_goals
          go_ret
          refine ⟨ret_bool ?_, rfl⟩
          have hb := HB.out
          unfold nameB
          rw [hb]
          have h24i : (s.size : Int) ≤ 24 := by omega
          rw [decide_eq_true h24i]
          by_cases hem : s.toList = []
          · have := size_empty hem
            rw [hem]
            simp_all
          · rw [show s.toList.isEmpty = false from by simpa using hem]
            have := size_full hem
            first | (simp_all; done) | omega
  · have hn : nameB s = false := by unfold nameB; rw [decide_eq_false (show ¬ ((s.size : Int) ≤ 24) by omega)]; simp
    have HN := Lib.hid hn; clear hn
    have hq : decide ((s.size : Int) ≤ 24) = false := by simp; omega
    go_enter Try.func28, Try.ntmps28
    go_wp2
    refine wp_loop_rounds 1 ?_
    rw [rounds_succ]
    go_wp2
    all_goals
      go_ret
      exact ⟨ret_bool HN.out.symm, rfl⟩
end Go.Proofs.Ytcjackjoonijnaa
