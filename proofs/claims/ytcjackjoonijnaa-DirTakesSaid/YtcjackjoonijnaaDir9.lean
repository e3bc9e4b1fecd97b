/-
  dir's contracts in one form for both texts; great.
-/
import Derived.Test.YtcjackjoonijnaaDir8
namespace Go.Proofs.Ytcjackjoonijnaa
open Go.RowKit

open Classical in
noncomputable def rdS (l : List Int) (k : Nat) : Slt := if goodD l then decD (bodyOf l) k else Slt.zero
open Classical in
noncomputable def rdE (l : List Int) : Int := if goodD l then 0 else 3
def layL (a b c d : Slt) : List Int := if layOkB a b c d = true then sealL 68 (bodyD a b c d) else []
def layN (a b c d : Slt) : Nat := if layOkB a b c d = true then 128 else 0
def layE (a b c d : Slt) : Int := if layOkB a b c d = true then 0 else 2
def LayP (a b c d : Slt) (w : World) (e : Ending) (w' : World) : Prop := ∃ v, e = .returned (.tuple #[v, .int .i64 (layE a b c d)]) ∧ NewB w w' 5 .u8 v (layN a b c d) (layL a b c d)
theorem layP_of {a b c d : Slt} {w w' : World} {e : Ending} (h : LayPost a b c d w e w') : LayP a b c d w e w' := by
  unfold LayP layE layN layL
  rcases h with ⟨h, he, hf⟩ | ⟨h, v, he, hn⟩
  · rw [h]
    exact ⟨_, he, Own.nil _ _ _, hf, freshV_none _ _ _⟩
  · rw [h]
    exact ⟨v, he, hn⟩
def ReadP (w : World) (l : List Int) (e : Ending) (w' : World) : Prop := e = .returned (.tuple #[sltsV (rdS l 0) (rdS l 1) (rdS l 2) (rdS l 3), .int .i64 (rdE l)]) ∧ Fresh w w'
theorem readP_of {l : List Int} {w w' : World} {e : Ending} (h : ReadPost w l e w') : ReadP w l e w' := by
  unfold ReadP rdS rdE
  rcases h with ⟨h, he, hf⟩ | ⟨h, he, hf⟩
  · simp only [if_pos h]
    exact ⟨he, hf⟩
  · simp only [if_neg h]
    exact ⟨he, hf⟩

def greatB (a b c d : Slt) : Bool := decide ((100 : Int) < a.name.size) || decide ((100 : Int) < b.name.size) || decide ((100 : Int) < c.name.size) || decide ((100 : Int) < d.name.size)
def PastG (a b c d : Slt) (k : Int) : Prop := (1 ≤ k → ¬ (100 : Int) < a.name.size) ∧ (2 ≤ k → ¬ (100 : Int) < b.name.size) ∧ (3 ≤ k → ¬ (100 : Int) < c.name.size) ∧ (4 ≤ k → ¬ (100 : Int) < d.name.size)
section
variable {a b c d : Slt}
theorem pastg0 : PastG a b c d 0 := ⟨fun h => by omega, fun h => by omega, fun h => by omega, fun h => by omega⟩
theorem pastg1 (_ : PastG a b c d 0) (h : ¬ (100 : Int) < a.name.size) : PastG a b c d 1 := ⟨fun _ => h, fun h => by omega, fun h => by omega, fun h => by omega⟩
theorem pastg2 (p : PastG a b c d 1) (h : ¬ (100 : Int) < b.name.size) : PastG a b c d 2 := ⟨fun _ => p.1 (by decide), fun _ => h, fun h => by omega, fun h => by omega⟩
theorem pastg3 (p : PastG a b c d 2) (h : ¬ (100 : Int) < c.name.size) : PastG a b c d 3 := ⟨fun _ => p.1 (by decide), fun _ => p.2.1 (by decide), fun _ => h, fun h => by omega⟩
theorem pastg4 (p : PastG a b c d 3) (h : ¬ (100 : Int) < d.name.size) : PastG a b c d 4 := ⟨fun _ => p.1 (by decide), fun _ => p.2.1 (by decide), fun _ => p.2.2.1 (by decide), fun _ => h⟩
theorem great0 (h : (100 : Int) < a.name.size) : greatB a b c d = true := by simp [greatB, h]
theorem great1 (h : (100 : Int) < b.name.size) : greatB a b c d = true := by simp [greatB, h]
theorem great2 (h : (100 : Int) < c.name.size) : greatB a b c d = true := by simp [greatB, h]
theorem great3 (h : (100 : Int) < d.name.size) : greatB a b c d = true := by simp [greatB, h]
theorem great4 (p : PastG a b c d 4) : greatB a b c d = false := by
  simp only [greatB, decide_eq_false (p.1 (by decide)), decide_eq_false (p.2.1 (by decide)), decide_eq_false (p.2.2.1 (by decide)), decide_eq_false (p.2.2.2 (by decide)), Bool.or_self]
theorem great_size (h : greatB a b c d = false) : a.name.size ≤ 100 ∧ b.name.size ≤ 100 ∧ c.name.size ≤ 100 ∧ d.name.size ≤ 100 := by
  unfold greatB at h
  simp only [Bool.or_eq_false_iff, decide_eq_false_iff_not] at h
  omega
end
set_option maxRecDepth 100000 in
set_option maxHeartbeats 1000000 in
theorem great_calls (p q r t : Slt) (w : World) : Calls Try.prog 21 #[sltsV p q r t] w fun e w' => e = .returned (.bool (greatB p q r t)) ∧ Fresh w w' := by
  obtain ⟨pi, pk, pn⟩ := p
  obtain ⟨qi, qk, qn⟩ := q
  obtain ⟨ri, rk, rn⟩ := r
  obtain ⟨ti, tk, tn⟩ := t
  unfold sltsV
  dsimp only
  go_enter Try.func21, Try.ntmps21
  go_wp2
  go_loop [3] (fun i => ∃ k : Int, (k = 0 ∨ k = 1 ∨ k = 2 ∨ k = 3 ∨ k = 4) ∧ i = .int .i64 k ∧ Hid (PastG ⟨pi, pk, pn⟩ ⟨qi, qk, qn⟩ ⟨ri, rk, rn⟩ ⟨ti, tk, tn⟩ k)) (fun i => 4 - (intOf i).toNat)
  case atStart => exact ⟨0, by omega, rfl, pastg0⟩
  case round =>
    obtain ⟨k, hk, rfl, HP⟩ := hrel
    obtain rfl | rfl | rfl | rfl | rfl := hk
    · by_cases hb : (100 : Int) < pn.size
      · go_wp2
        go_ret
        exact ⟨ret_bool (great0 hb).symm, (Keep.refl _ w).alloc _⟩
      · go_wp2
        go_round
        case rel => exact ⟨_, by omega, rfl, pastg1 HP.out hb⟩
        case measure => simp [intOf]
    · by_cases hb : (100 : Int) < qn.size
      · go_wp2
        go_ret
        exact ⟨ret_bool (great1 hb).symm, (Keep.refl _ w).alloc _⟩
      · go_wp2
        go_round
        case rel => exact ⟨_, by omega, rfl, pastg2 HP.out hb⟩
        case measure => simp [intOf]
    · by_cases hb : (100 : Int) < rn.size
      · go_wp2
        go_ret
        exact ⟨ret_bool (great2 hb).symm, (Keep.refl _ w).alloc _⟩
      · go_wp2
        go_round
        case rel => exact ⟨_, by omega, rfl, pastg3 HP.out hb⟩
        case measure => simp [intOf]
    · by_cases hb : (100 : Int) < tn.size
      · go_wp2
        go_ret
        exact ⟨ret_bool (great3 hb).symm, (Keep.refl _ w).alloc _⟩
      · go_wp2
        go_round
        case rel => exact ⟨_, by omega, rfl, pastg4 HP.out hb⟩
        case measure => simp [intOf]
    · go_wp2
      go_ret
      exact ⟨ret_bool (great4 HP.out).symm, (Keep.refl _ w).alloc _⟩
end Go.Proofs.Ytcjackjoonijnaa
