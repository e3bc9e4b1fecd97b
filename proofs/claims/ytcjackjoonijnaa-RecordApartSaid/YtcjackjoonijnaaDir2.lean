/-
  Slots: which may be; walked in both texts.
-/
import Derived.Test.YtcjackjoonijnaaDir1
namespace Go.Proofs.Ytcjackjoonijnaa
open Go.RowKit

def zeroB (x : Slt) : Bool := (x.ino == 0) && (x.kind == 0) && (x.name.toList == [])
def mayB (x : Slt) : Bool := zeroB x || (decide (1 ≤ x.ino) && decide (x.ino ≤ 65535) && decide (1 ≤ x.kind) && decide (x.kind ≤ 3) && nameB x.name)

set_option maxRecDepth 100000 in
set_option maxHeartbeats 1000000 in
theorem May_calls (x : Slt) (w : World) (hs : x.name.size ≤ 1000000) : Calls Try.prog 29 #[x.val] w fun e w' => e = .returned (.bool (mayB x)) ∧ Fresh w w' := by
  obtain ⟨pi, pk, pn⟩ := x
  unfold Slt.val
  dsimp only at hs ⊢
  go_enter Try.func29, Try.ntmps29
  go_wp2_with (go_at_call 27; refine (Name_calls pn _ hs).mono ?_; rintro e w2 ⟨rfl, k2⟩)
  all_goals
    go_ret
    refine ⟨ret_bool ?_, ?_⟩
    · first
        | (simp_all [mayB, zeroB]; done)
        | (simp_all [mayB, zeroB]; omega)
        | (simp_all [mayB, zeroB]; intros; omega)
    · first
        | exact (Keep.refl _ w).alloc _
        | exact ((Keep.refl _ w).alloc _).trans k2 (fun _ _ f => f)
set_option maxRecDepth 100000 in
set_option maxHeartbeats 1000000 in
theorem RMay_calls (x : Slt) (w : World) : Calls Try.prog 30 #[x.val] w fun e w' => e = .returned (.bool (mayB x)) ∧ Fresh w w' := by
  obtain ⟨pi, pk, pn⟩ := x
  unfold Slt.val
  dsimp only
  go_enter Try.func30, Try.ntmps30
  go_wp2_with (go_at_call 28; refine (RName_calls pn _).mono ?_; rintro e w2 ⟨rfl, rfl⟩)
  all_goals
    go_ret
    refine ⟨ret_bool ?_, ?_⟩
    · first
        | (simp_all [mayB, zeroB]; done)
        | (simp_all [mayB, zeroB]; omega)
        | (simp_all [mayB, zeroB]; intros; omega)
    · exact (Keep.refl _ w).alloc _
end Go.Proofs.Ytcjackjoonijnaa
