/-
  dir: what every program answers that is one.
-/
import Derived.Test.YtcjackjoonijnaaEqD
namespace Go.Proofs.Ytcjackjoonijnaa
open Go.RowKit

def awR : Slt := ⟨5, 1, ⟨#[97]⟩⟩
theorem aw_ok : layOkB Slt.zero Slt.zero awR Slt.zero = true := by decide +kernel
theorem aw_a : findI ⟨#[97]⟩ Slt.zero Slt.zero awR Slt.zero = 2 := by decide +kernel
theorem aw_b : findI ⟨#[98]⟩ Slt.zero Slt.zero awR Slt.zero = -1 := by decide +kernel
theorem aw_f : freeI Slt.zero Slt.zero awR Slt.zero = 0 := by decide +kernel
theorem aw_n : nameB ⟨#[97]⟩ = true := by decide +kernel
theorem aw_m : nameB ⟨#[46, 46]⟩ = false := by decide +kernel
theorem eqS_self (x : Slt) : eqS x x = true := eqS_iff.2 rfl
theorem aw_eq (w : World) : (Op.equalIn 10000 40 (.agg #[.int .i64 0, .int .i64 0, .string ⟨#[]⟩, .int .i64 0, .int .i64 0, .string ⟨#[]⟩, .int .i64 5, .int .i64 1, .string ⟨#[97]⟩, .int .i64 0, .int .i64 0, .string ⟨#[]⟩]) (.agg #[.int .i64 0, .int .i64 0, .string ⟨#[]⟩, .int .i64 0, .int .i64 0, .string ⟨#[]⟩, .int .i64 5, .int .i64 1, .string ⟨#[97]⟩, .int .i64 0, .int .i64 0, .string ⟨#[]⟩])).run Try.prog w = .ok true w := by
  have h := eq_arr Slt.zero Slt.zero awR Slt.zero Slt.zero Slt.zero awR Slt.zero w
  rw [eqS_self, eqS_self] at h
  exact h
/-- Lay, of what may be. -/
theorem Lay_yes (p q r t : Slt) (w : World) (h : layOkB p q r t = true) : Calls Try.prog 23 #[sltsV p q r t] w (SealPost w (sealL 68 (bodyD p q r t))) := by
  obtain ⟨h1, h2, h3, h4⟩ := layOkB_may h
  have s1 := mayB_size h1
  have s2 := mayB_size h2
  have s3 := mayB_size h3
  have s4 := mayB_size h4
  refine (Lay_calls p q r t w (by omega) (by omega) (by omega) (by omega)).mono ?_
  rintro e w' (⟨hn, -, -⟩ | ⟨-, hy⟩)
  · rw [h] at hn; exact absurd hn (by decide)
  · exact hy

set_option maxRecDepth 100000 in
set_option maxHeartbeats 4000000 in
theorem awake9_calls (w : World) : Calls Try.prog 22 #[] w fun e w' => e = .returned (.bool true) ∧ Fresh w w' := by
  have HB1 := Lib.hid (Blk.new w 40 #[.int .i64 0, .int .i64 0, .string ⟨#[]⟩, .int .i64 0, .int .i64 0, .string ⟨#[]⟩, .int .i64 5, .int .i64 1, .string ⟨#[97]⟩, .int .i64 0, .int .i64 0, .string ⟨#[]⟩])
  have hEQ := aw_eq
  go_enter Try.func22, Try.ntmps22
  go_wp2_with (first
    | (go_at_call 23; refine (Lay_yes Slt.zero Slt.zero awR Slt.zero _ aw_ok).mono ?_; rintro e w2 ⟨v2, rfl, h2⟩; obtain ⟨A2, c2, hv, hc2, hr2⟩ := h2.1.rd; subst hv; have HB2 := Lib.hid (HB1.out.fresh h2.2.1); have HH2 := Lib.hid h2; clear h2)
    | (go_at_call 25; refine (Read_back _ aw_ok hr2 hc2).mono ?_; rintro e w3 ⟨rfl, k3⟩; dsimp only [sltsV, Slt.zero, awR]; have HF := Lib.hid (((((Keep.refl (fun _ => False) w).alloc _).trans HH2.out.2.1 (fun _ _ f => f)).trans k3 (fun _ _ f => f)).alloc (.cells #[.int .i64 0, .int .i64 0, .string ⟨#[]⟩, .int .i64 0, .int .i64 0, .string ⟨#[]⟩, .int .i64 5, .int .i64 1, .string ⟨#[97]⟩, .int .i64 0, .int .i64 0, .string ⟨#[]⟩] 40)); have HB3 := Lib.hid ((HB2.out.fresh k3).alloc (.cells #[.int .i64 0, .int .i64 0, .string ⟨#[]⟩, .int .i64 0, .int .i64 0, .string ⟨#[]⟩, .int .i64 5, .int .i64 1, .string ⟨#[97]⟩, .int .i64 0, .int .i64 0, .string ⟨#[]⟩] 40)); obtain ⟨a0, a1, a2, a3, a4, a5, a6, a7, a8, a9, a10, a11⟩ := Blk.c12 HB3.out)
    | (go_at_call 31; refine (Find_calls Slt.zero Slt.zero awR Slt.zero _ _).mono ?_; rintro e w4 ⟨rfl, k4⟩; (first | rw [aw_a] | rw [aw_b]); have HB3 := Lib.hid (HB3.out.fresh k4); have HF := Lib.hid (HF.out.trans k4 (fun _ _ f => f)); obtain ⟨b0, b1, b2, b3, b4, b5, b6, b7, b8, b9, b10, b11⟩ := Blk.c12 HB3.out)
    | (go_at_call 33; refine (Free_calls Slt.zero Slt.zero awR Slt.zero _).mono ?_; rintro e w6 ⟨rfl, k6⟩; rw [aw_f]; have HF := Lib.hid (HF.out.trans k6 (fun _ _ f => f)))
    | (go_at_call 27; refine (Name_calls _ _ (by decide)).mono ?_; rintro e w7 ⟨rfl, k7⟩; (first | rw [aw_n] | rw [aw_m]); have HF := Lib.hid (HF.out.trans k7 (fun _ _ f => f))))
  go_ret
  exact ⟨rfl, HF.out⟩
end Go.Proofs.Ytcjackjoonijnaa
