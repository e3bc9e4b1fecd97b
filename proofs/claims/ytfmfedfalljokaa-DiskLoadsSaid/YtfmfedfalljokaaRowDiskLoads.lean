/-
  The law DiskLoads of purlinlaw4 holds: for every input it returns true and leaves its arguments as they were. No condition.
-/
import Derived.Test.YtfmfedfalljokaaRows
import Derived.Test.YtfmfedfalljokaaOpen2
import Derived.Test.YtfmfedfalljokaaLoads2
import Derived.WalkKit
import Derived.ProofKit
import Derived.OpenShut
import Derived.ShutString
import Derived.ChangeOld
import Derived.Below
import Derived.Deep.Grids
import Derived.Deep.Matrix
namespace Go.Proofs.Ytfmfedfalljokaa
open Go.ChangeShapes Go.WideShapes Go.ChangeAt Go.RowKit
open Go.ChangeMaps (open_string shut_string)

theorem diskLoads_own : ownKnob Try.prog.godebug = none := by kernel_rfl
theorem diskLoads_laidOut : laidOutB Try.prog = true := by kernel_rfl

theorem diskLoads_walk (a0 : Option Addr) (len0 cap0 : Nat) (vs0 : List Value) (l0 : List (List Int)) (w : World) (w0 : IsParts w a0 len0 vs0 l0) :
    Calls Try.prog 6 #[.slice a0 len0 cap0] w fun e w' => e = .returned (.bool true) ∧ Below w.heap.size w w' := by
  exact (DiskLoads_calls w w0.1 w0.2).mono fun e w' ⟨he, hk⟩ => ⟨he, hk.to_below⟩

set_option maxRecDepth 100000 in
theorem diskLoads_lifted (os : Os) (started : os.Started) (H : Type) (enc : TypeId × Value → H) :
    ReturnsInHanded {} Try.checked os 6 .any (Rows.diskLoadsSpec.pre6 enc Try.prog Try.f6 Rows.diskLoadsRow.domain false) (Rows.diskLoadsSpec.post enc Try.prog Try.f6 false true false false) := by
  refine returnsInHanded_of_change (C := Try.checked) diskLoads_own started (by kernel_rfl) Try.func6
    (ChangeSpec.witness6 (enc := enc) (C := Try.checked) false ⟨#[], #[.slice none 0 0], []⟩ 8 (by kernel_rfl) (by kernel_rfl) (by kernel_rfl) (by kernel_rfl)) ?_
  intro W base args ds gs before hval0 hW hcnd _
  have hval : ∀ (j : Nat) t v, Try.f6.params[j]? = some t → args[j]? = some v → Value.okWide Try.prog W .any base t v := hval0
  have hW' := hW
  obtain ⟨p, q, hA0, hV, rfl, hfz, hnd⟩ := hW
  have hA : DataW.TrodAll enc Try.prog W 0 (fun _ => true) true Try.f6.params.toList args.toList ds p := hA0
  rw [Try.params6] at hA hval
  obtain ⟨v0, vs0', d0, ds0, p0, q0, hargs, rfl, rfl, h0, r0'⟩ := trodAll_cons hA
  obtain ⟨rfl, rfl, rfl⟩ := trodAll_nil r0'
  obtain rfl : args = #[v0] := by cases args; simp_all
  obtain ⟨rfl, rfl⟩ := trodVars_none hV
  obtain ⟨a0, len0, cap0, rfl⟩ := okWide_slice Try.underlying27 (hval 0 27 v0 rfl rfl)
  have k0 := h0
  have lt0 : ∀ x ∈ p0, x.block < W.heap.size := by obtain ⟨m, hm⟩ := k0; exact DataW.trod_lt m _ _ _ hm
  obtain ⟨vs0, l0, w0⟩ : ∃ vs l, IsParts W a0 len0 vs l := by
    obtain ⟨fuel, hf⟩ := h0
    rcases Go.Deep.open_int_rows Try.underlying27 Try.underlying28 Try.underlying5 (by kernel_rfl) (by kernel_rfl) hf with ⟨hcs, _⟩ | ⟨x, l, c, A, L, C, Z, hcs, _, hl, hm, _, hrow⟩
    · simp [Value.cells] at hcs
      obtain ⟨rfl, rfl, rfl⟩ := hcs
      exact ⟨_, _, IsParts.nil W⟩
    · simp [Value.cells] at hcs
      obtain ⟨rfl, rfl, rfl⟩ := hcs
      exact ⟨_, _, IsParts.of hl hm (fun r hr => (hrow r hr).1) (fun r hr => (hrow r hr).2.1) (fun r hr => (hrow r hr).2.2.1) (fun r hr => (hrow r hr).2.2.2.1) (fun r hr => (hrow r hr).2.2.2.2.2.1) (fun r hr a' e c hc => ((hrow r hr).2.2.2.2.2.2 a' e).2 c hc)⟩
  clear hA0 hval0
  refine (diskLoads_walk a0 len0 cap0 vs0 l0 W w0).mono fun e W' ⟨he, bel⟩ => ?_
  subst he
  exact ⟨_, rfl, _, _, _, [], _, [], hW', trodAll_mk1 (shut_bool Try.underlying4 _), (trodAll_cons_mk (Below.trod diskLoads_laidOut (by kernel_rfl) (of_decide_eq_true (by kernel_rfl)) k0 bel lt0) trodAll_mk0), rfl, bel.frame _, fun h => by cases h⟩

theorem diskLoads_over : Rows.diskLoadsRow.holds Try.pinned (OpenSpec.ofChange Rows.diskLoadsSpec) :=
  OpenClaim.holds_of_wide 6 Try.f6 rfl rfl rfl rfl rfl rfl rfl ⟨rfl, rfl, rfl, rfl, rfl⟩ rfl rfl rfl rfl rfl (by kernel_rfl) Try.func6 (by kernel_rfl)
    (of_decide_eq_true (by kernel_rfl)) (by unfold Func.isWrapper; first | (rw [if_pos (by decide +kernel)]; kernel_rfl) | (rw [if_neg (by decide +kernel)]; exact ⟨rfl, rfl⟩))
    (fun os started H enc _ => diskLoads_lifted os started H enc)

theorem diskLoads_holds : Rows.DiskLoadsSaid := diskLoads_over
#print axioms diskLoads_holds
end Go.Proofs.Ytfmfedfalljokaa
