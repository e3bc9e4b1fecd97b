/-
  strings.IndexRune at a rune that is not ASCII, in two ASCII bytes; strings.IndexAny, strings.ContainsAny of those: walked.
-/
import Derived.WalkMore
import Derived.Deep.RegionWith
import Derived.ScopeJumps
import Derived.Test.YtcjackjoonijnaaAny1
namespace Go.Proofs.Ytcjackjoonijnaa
open Go.RowKit

/-- A slash and a zero. -/
def slashes : ByteArray := ⟨#[47, 0]⟩

set_option maxRecDepth 1000000 in
set_option maxHeartbeats 4000000 in
theorem IndexRune_far (r : Int) (w : World) (h : 128 ≤ r) (hv : Utf8.valid r = true) :
    Calls Try.prog 53 #[.string slashes, .int .i32 r] w fun e w' => e = .returned (.int .i64 (-1)) ∧ Fresh w w' := by
  have hd : decide (r < 128) = false := by simp; omega
  by_cases hr : r = 65533
  · subst hr
    have hsl : slashes.size = 2 := rfl
    go_enter Try.func53, Try.ntmps53
    go_wp2
    go_loopg [5, 6] 2 (fun g _ _ wx => ∃ i : Nat, i + g = 2 ∧ wx = w.iter slashes i)
    case atStart => exact ⟨0, by omega, rfl⟩
    case round =>
      obtain ⟨i, hig, rfl⟩ := hrel
      cases gk with
      | zero =>
        obtain rfl : i = 2 := by omega
        have hnx := run_next_end (P := Try.prog) w slashes 2
        go_wp2
        go_ret
        exact ⟨rfl, (Keep.refl _ w).alloc _⟩
      | succ g =>
        have hi : i < slashes.size := by rw [hsl]; omega
        obtain ⟨x, hx⟩ : ∃ x : UInt8, slashes[i]'hi = x := ⟨_, rfl⟩
        have hx128 : x.toNat < 128 := by
          rw [← hx]
          rcases (show i = 0 ∨ i = 1 by omega) with rfl | rfl
          · exact show (47 : UInt8).toNat < 128 by decide
          · exact show (0 : UInt8).toNat < 128 by decide
        have hnx := fun ty => run_next_ascii (P := Try.prog) w slashes i ty hi (by rw [hx]; exact hx128)
        rw [hx] at hnx
        have hq : ((x.toNat : Int) == 65533) = false := by rw [beq_eq_false_iff_ne]; omega
        clear hx
        go_wp2
        go_roundg g
        case measure => omega
        case rel => exact ⟨i + 1, by omega, rfl⟩
  · have hb : (r == 65533) = false := by rw [beq_eq_false_iff_ne]; exact hr
    have hvr : Lib.validRune r = true := by
      have := Go.validRune_eq r
      rw [hv] at this
      exact this.symm
    obtain ⟨f1, f2, f3⟩ := Go.encode_facts r hv h
    obtain ⟨E, hE⟩ : ∃ E, Utf8.encode r = E := ⟨_, rfl⟩
    rw [hE] at f1 f2 f3
    have hEr : ∀ w, (convert 21 9 (.int .i32 r)).run Try.prog w = .ok (.string E) w := fun w => by
      rw [run_convert_int_string w 21 9 .i32 r (by kernel_rfl) Try.underlying9, hE]
    have hsl : slashes.size = 2 := rfl
    clear hv hE
    by_cases h3 : E.size = 2
    · obtain ⟨a, b, rfl⟩ : ∃ a b : UInt8, E = ⟨#[a, b]⟩ := by
        obtain ⟨⟨l⟩⟩ := E
        match l, h3 with
        | [a, b], _ => exact ⟨a, b, rfl⟩
      have hb8 : 128 ≤ b.toNat := f3 (show (1 : Nat) < 2 by omega)
      have hsz : (⟨#[a, b]⟩ : ByteArray).size = 2 := rfl
      have hq : (((slashes[1]'(show 1 < slashes.size by decide)).toNat : Int) != (((⟨#[a, b]⟩ : ByteArray)[1]'(show 1 < 2 by omega)).toNat : Int)) = true := by
        show ((0 : Int) != (b.toNat : Int)) = true
        rw [bne_iff_ne]; omega
      clear f1 f2 f3 h3
      go_enter Try.func53, Try.ntmps53
      go_wp2_with (first | (go_at_call 58; refine (Try.utf8_ValidRune r _).mono ?_; rintro e w' ⟨rfl, hw⟩; subst hw; rw [hvr]))
      go_step3
      go_wp2
      refine wp_loop_rounds 1 ?_
      rw [rounds_succ]
      go_wp2
      go_step3
      go_wp2
      go_quiet (fail)
      go_wp2
      go_region_with (go_at_call 57; refine (Try.strings_IndexByte _ _ _).mono ?_; rintro e w2 ⟨rfl, hw2⟩; subst hw2)
      all_goals
        go_wp2
        rw [Exit.noGoto_ret]
        dsimp only [Exit.inBlock, Exit.then]
        rw [Exit.noGoto_ret]
        go_ret
        exact ⟨rfl, ((Keep.refl _ _).drewN _).drew⟩
    · have hq : decide ((E.size : Int) - 1 < 2) = false := by simp; omega
      have hE1 : (3 : Int) ≤ E.size := by omega
      have hE2 : (E.size : Int) ≤ 4 := by omega
      clear f1 f2 f3
      go_enter Try.func53, Try.ntmps53
      go_wp2_with (first | (go_at_call 58; refine (Try.utf8_ValidRune r _).mono ?_; rintro e w' ⟨rfl, hw⟩; subst hw; rw [hvr]))
      go_step3
      go_wp2
      refine wp_loop_rounds 1 ?_
      rw [rounds_succ]
      go_wp2
      rw [Exit.noGoto_ret]
      go_ret
      exact ⟨rfl, Keep.refl _ _⟩

theorem IndexRune_calls (r : Int) (w : World) (h : 0 ≤ r) (hv : Utf8.valid r = true) :
    Calls Try.prog 53 #[.string slashes, .int .i32 r] w fun e w' => ∃ z : Int, e = .returned (.int .i64 z) ∧ (0 ≤ z ↔ r = 47 ∨ r = 0) ∧ Fresh w w' := by
  by_cases h128 : r < 128
  · refine (Try.strings_IndexRune_ascii slashes r w h h128).mono ?_
    rintro e w' ⟨rfl, rfl⟩
    refine ⟨_, rfl, ?_, Keep.refl _ _⟩
    have hs : slashes.data.toList = [47, 0] := rfl
    rw [hs]
    obtain ⟨n, rfl⟩ := Int.eq_ofNat_of_zero_le h
    have hn : n < 128 := by omega
    rw [Int.toNat_natCast]
    have e1 : ((47 : UInt8) == n.toUInt8) = decide (n = 47) := by
      rw [Bool.eq_iff_iff]
      simp only [beq_iff_eq, decide_eq_true_eq]
      constructor
      · intro e
        have := congrArg UInt8.toNat e
        simp at this
        omega
      · rintro rfl; rfl
    have e2 : ((0 : UInt8) == n.toUInt8) = decide (n = 0) := by
      rw [Bool.eq_iff_iff]
      simp only [beq_iff_eq, decide_eq_true_eq]
      constructor
      · intro e
        have := congrArg UInt8.toNat e
        simp at this
        omega
      · rintro rfl; rfl
    simp only [Lib.indexByte, e1, e2]
    by_cases h47 : n = 47
    · simp [h47]
    · by_cases h0 : n = 0
      · simp [h0]
      · simp [h47, h0]; omega
  · refine (IndexRune_far r w (by omega) hv).mono ?_
    rintro e w' ⟨rfl, hf⟩
    exact ⟨-1, rfl, by omega, hf⟩
end Go.Proofs.Ytcjackjoonijnaa
