/-
  strings.IndexAny, strings.ContainsAny of a slash and a zero: walked, for any string.
-/
import Derived.Test.YtcjackjoonijnaaAny2
namespace Go.Proofs.Ytcjackjoonijnaa
open Go.RowKit

/-- A string has a slash, or a zero. -/
def hasBad (s : ByteArray) : Bool := (sb s).any fun x => decide (x = 47) || decide (x = 0)
theorem hasBad_iff (s : ByteArray) : hasBad s = true ↔ ∃ i, ∃ h : i < s.size, s[i].toNat = 47 ∨ s[i].toNat = 0 := by
  unfold hasBad sb
  simp only [List.any_map, List.any_eq_true, Function.comp, Bool.or_eq_true, decide_eq_true_eq]
  constructor
  · rintro ⟨b, hb, hx⟩
    obtain ⟨i, hi, rfl⟩ := List.getElem_of_mem hb
    have hi' : i < s.size := by rw [Array.length_toList] at hi; exact hi
    refine ⟨i, hi', ?_⟩
    have e : s.data.toList[i] = s[i] := by simp; rfl
    rw [e] at hx
    omega
  · rintro ⟨i, hi, hx⟩
    have hi' : i < s.data.toList.length := by rw [Array.length_toList]; exact hi
    refine ⟨s[i], ?_, by omega⟩
    have e : s.data.toList[i] = s[i] := by simp; rfl
    rw [← e]
    exact List.getElem_mem _
def CleanTo (s : ByteArray) (i : Nat) : Prop := ∀ j (h : j < s.size), j < i → s[j].toNat ≠ 47 ∧ s[j].toNat ≠ 0
theorem bad_no {s : ByteArray} {i : Nat} (hc : CleanTo s i) (hi : s.size ≤ i) : hasBad s = false := by
  rw [← Bool.not_eq_true, hasBad_iff]
  rintro ⟨j, hj, h⟩
  have := hc j hj (by omega)
  omega
theorem bad_yes {s : ByteArray} {i : Nat} (hi : i < s.size) (h : s[i].toNat = 47 ∨ s[i].toNat = 0) : hasBad s = true := (hasBad_iff s).2 ⟨i, hi, h⟩
def AnyPost (s : ByteArray) (w : World) (e : Ending) (w' : World) : Prop := ∃ z : Int, e = .returned (.int .i64 z) ∧ (decide (0 ≤ z) = hasBad s) ∧ Fresh w w'

set_option maxRecDepth 1000000 in
set_option maxHeartbeats 4000000 in
theorem IndexAny_short (s : ByteArray) (w : World) (h8 : s.size ≤ 8) : Calls Try.prog 51 #[.string s, .string slashes] w (AnyPost s w) := by
  have hemp : slashes.toList.isEmpty = false := by rw [Lib.toList_data]; rfl
  have hsl : slashes.size = 2 := rfl
  have h8z : decide ((8 : Int) < (s.size : Int)) = false := decide_eq_false (by omega)
  go_enter Try.func51, Try.ntmps51
  go_wp2_with (go_at_call 54; refine (Try.strings_shouldUseASCIISet _ _).mono ?_; rintro e w' ⟨rfl, hw⟩; rw [hw, h8z])
  obtain ⟨B, hB⟩ : ∃ B, B = w.heap.size := ⟨_, rfl⟩
  rw [← hB]
  have hI0 := World.iter_heap w s 0
  rw [← hB] at hI0
  have hF0 : Fresh w (w.iter s 0) := (Keep.refl _ w).alloc _
  obtain ⟨W0, hW0⟩ : ∃ W, W = w.iter s 0 := ⟨_, rfl⟩
  rw [← hW0] at hI0 hF0 ⊢
  have hB0 : w.heap.size ≤ B := by omega
  clear hW0 hB
  go_loopg [9, 10] s.size (fun g _ _ wx => ∃ i : Nat, i + g = s.size ∧ wx.heap[B]? = some (.stringIter s i) ∧ Fresh w wx ∧ CleanTo s i)
  case atStart => exact ⟨0, by omega, hI0, hF0, fun j hj h => by omega⟩
  case round =>
    clear hI0 hF0
    obtain ⟨i, hig, hI, hF, hno⟩ := hrel
    have HN := Lib.hid hno; clear hno
    by_cases hi : i < s.size
    · have hnx := fun ty => run_next_at hI hi ty
      have hI1 := stepIter_at (s' := s) (p' := i + (Utf8.decode s i).2) hI
      have hF1 := hF.trans (stepIter_keep wr B s (i + (Utf8.decode s i).2)) (fun b hb e => by omega)
      obtain ⟨x, hx⟩ : ∃ x : UInt8, s[i]'hi = x := ⟨_, rfl⟩
      by_cases hfar : 128 ≤ x.toNat
      · obtain ⟨d1, d2, d3, d4, d5⟩ := decode_far s i hi (by rw [hx]; exact hfar)
        obtain ⟨r, hr⟩ : ∃ r : Nat, (Utf8.decode s i).1 = r := ⟨_, rfl⟩
        obtain ⟨m, hm⟩ : ∃ m : Nat, (Utf8.decode s i).2 = m := ⟨_, rfl⟩
        rw [hr] at d1 d2
        rw [hm] at d3 d4 d5 hI1 hF1
        rw [hr, hm] at hnx
        have HR := Lib.hid hr; clear hr
        have HM := Lib.hid hm; clear hm
        have H5 := Lib.hid d5; clear d5
        have H2 := Lib.hid d2; clear d2
        have HI := Lib.hid hI; clear hI
        have hr0 : (0 : Int) ≤ (r : Int) := Int.natCast_nonneg _
        clear hx
        go_wp2_with (go_at_call 53; refine (IndexRune_calls r _ hr0 H2.out).mono ?_; rintro e w2 ⟨z, rfl, hz, k2⟩; have hz0 : ¬ (0 ≤ z) := fun h => by { have := hz.1 h; omega })
        go_roundg (s.size - (i + m))
        case measure => omega
        case rel =>
          refine ⟨i + m, by omega, (k2.block B (by have := hF1.size; have := hF.size; have := (Array.getElem?_eq_some_iff.1 hI1).1; omega) (fun f => f)).trans hI1, hF1.trans k2 (fun _ _ f => f), fun j hj hlt => ?_⟩
          by_cases hji : j < i
          · exact HN.out j hj hji
          · have := H5.out j hj (by omega) hlt
            omega
      · have hd := decode_ascii s i hi (by rw [hx]; omega)
        rw [hd] at hI1 hF1
        have hnx' : ∀ ty, (Instr.next (.pointer (some ⟨B, 0, none⟩)) true ty).run Try.prog wr = .ok (.tuple #[.bool true, .int .i64 i, .int .i32 x.toNat]) (stepIter wr B s (i + 1)) := fun ty => by
          have := hnx ty
          rw [hd, hx] at this
          exact this
        clear hnx hd
        have HX := Lib.hid hx; clear hx
        have HI := Lib.hid hI; clear hI
        have hr0 : (0 : Int) ≤ (x.toNat : Int) := Int.natCast_nonneg _
        have H2 := Lib.hid (show Utf8.valid (x.toNat : Int) = true by simp [Utf8.valid]; omega)
        by_cases hbad : x.toNat = 47 ∨ x.toNat = 0
        · go_wp2_with (go_at_call 53; refine (IndexRune_calls x.toNat _ hr0 H2.out).mono ?_; rintro e w2 ⟨z, rfl, hz, k2⟩; have hz0 : 0 ≤ z := hz.2 (by omega))
          go_ret
          refine ⟨_, rfl, ?_, hF1.trans k2 (fun _ _ f => f)⟩
          rw [bad_yes hi (by rw [HX.out]; exact hbad)]
          simp
        · go_wp2_with (go_at_call 53; refine (IndexRune_calls x.toNat _ hr0 H2.out).mono ?_; rintro e w2 ⟨z, rfl, hz, k2⟩; have hz0 : ¬ (0 ≤ z) := fun h => by { have := hz.1 h; omega })
          go_roundg (s.size - (i + 1))
          case measure => omega
          case rel =>
            refine ⟨i + 1, by omega, (k2.block B (by have := (Array.getElem?_eq_some_iff.1 hI1).1; omega) (fun f => f)).trans hI1, hF1.trans k2 (fun _ _ f => f), fun j hj hlt => ?_⟩
            by_cases hji : j < i
            · exact HN.out j hj hji
            · obtain rfl : j = i := by omega
              rw [HX.out]
              omega
    · obtain rfl : i = s.size := by omega
      have hnx := fun ty => run_next_over hI hi ty
      go_wp2
      go_ret
      exact ⟨-1, rfl, by rw [bad_no HN.out (Nat.le_refl _)]; rfl, hF⟩

theorem any_bad (s : ByteArray) : decide (0 ≤ Lib.indexAny s.data.toList slashes.data.toList) = hasBad s := by
  have hl : slashes.data.toList = [47, 0] := rfl
  rw [hl]
  have key : ∀ l : List UInt8, decide (0 ≤ Lib.indexAny l [47, 0]) = (l.map fun b => (b.toNat : Int)).any fun x => decide (x = 47) || decide (x = 0) := by
    intro l
    induction l with
    | nil => rfl
    | cons b l ih =>
      have hb : ([47, 0] : List UInt8).contains b = (decide ((b.toNat : Int) = 47) || decide ((b.toNat : Int) = 0)) := by
        rw [Bool.eq_iff_iff]
        simp only [List.contains_eq_mem, List.mem_cons, List.not_mem_nil, or_false, decide_eq_true_eq, Bool.or_eq_true]
        constructor
        · rintro (rfl | rfl)
          · left; rfl
          · right; rfl
        · rintro (h | h)
          · left; exact UInt8.toNat_inj.1 (by show b.toNat = 47; omega)
          · right; exact UInt8.toNat_inj.1 (by show b.toNat = 0; omega)
      rw [List.map_cons, List.any_cons, ← ih, ← hb, Lib.indexAny]
      by_cases hc : ([47, 0] : List UInt8).contains b = true
      · rw [if_pos hc, hc]; rfl
      · rw [if_neg hc]
        have hc' : ([47, 0] : List UInt8).contains b = false := by simpa using hc
        rw [hc', Bool.false_or]
        have hge := Lib.indexAny_ge [47, 0] l
        split
        · rename_i he
          have : Lib.indexAny l [47, 0] = -1 := by simpa using he
          rw [this]
        · rename_i he
          have : Lib.indexAny l [47, 0] ≠ -1 := by simpa using he
          rw [Bool.eq_iff_iff]
          simp only [decide_eq_true_eq]
          omega
  exact key s.data.toList
theorem zero_set : ∀ w, (zeroValue 67).run Try.prog w = .ok (.agg (Array.replicate 256 (.bool false))) w := (zero_of_info (P := Try.prog) (t := 67) (n := 256) (by kernel_rfl)).1
theorem IndexAny_calls (s : ByteArray) (w : World) (hs : s.size ≤ 1000000) : Calls Try.prog 51 #[.string s, .string slashes] w (AnyPost s w) := by
  by_cases h8 : s.size ≤ 8
  · exact IndexAny_short s w h8
  · refine (Try.strings_IndexAny_long zero_set s slashes w (by decide) (by omega) (by omega) (by decide) (fun j b hb => ?_)).mono ?_
    · have hl : slashes.data.toList = [47, 0] := rfl
      rw [hl] at hb
      rcases j with _ | _ | j
      · simp at hb; subst hb; decide
      · simp at hb; subst hb; decide
      · simp at hb
    · rintro e w' ⟨rfl, rfl⟩
      refine ⟨_, rfl, ?_, ((Keep.refl _ w).alloc _).alloc _⟩
      exact any_bad s
theorem ContainsAny_calls (s : ByteArray) (w : World) (hs : s.size ≤ 1000000) : Calls Try.prog 45 #[.string s, .string slashes] w fun e w' => e = .returned (.bool (hasBad s)) ∧ Fresh w w' := by
  go_enter Try.func45, Try.ntmps45
  go_wp2_with (go_at_call 51; refine (IndexAny_calls s _ hs).mono ?_; rintro e w2 ⟨z, rfl, hz, k2⟩; have HZ := Lib.hid hz; clear hz)
  go_ret
  exact ⟨ret_bool HZ.out, k2⟩
end Go.Proofs.Ytcjackjoonijnaa
