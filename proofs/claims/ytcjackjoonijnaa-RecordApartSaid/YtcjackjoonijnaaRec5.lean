/-
  Records: the numbers and the names in a sector; walked.
-/
import Derived.Test.YtcjackjoonijnaaRec4
namespace Go.Proofs.Ytcjackjoonijnaa
open Go.RowKit

set_option maxHeartbeats 1000000 in
theorem word1_calls {w : World} {g0 g2 c2 : Nat} {x y : Int} (hc : 123 ≤ c2) (h : w.cell? ⟨g0, 0, none⟩ = some (.slice (some ⟨g2, 0, none⟩) 123 c2)) (h0 : w.cell? ⟨g2, 1, none⟩ = some (.int .u8 x)) (h1 : w.cell? ⟨g2, 2, none⟩ = some (.int .u8 y)) (bx : 0 ≤ x ∧ x < 256) (by' : 0 ≤ y ∧ y < 256) :
    Calls Try.prog 40 #[.int .i64 1, .pointer (some ⟨g0, 0, none⟩)] w fun e w' => e = .returned (.int .i64 (wordI x y)) ∧ Drawn w w' := by
  have p0 : IntKind.i64.wrap x = x := by rw [IntKind.wrap_i64]; omega
  have p1 : IntKind.i64.wrap y = y := by rw [IntKind.wrap_i64]; omega
  have p4 : IntKind.i64.wrap (x * 256) = x * 256 := by rw [IntKind.wrap_i64]; omega
  have p5 := or_word bx by'
  have p6 : IntKind.i64.wrap 2 = 2 := by decide
  clear bx by'
  go_enter Try.func40, Try.ntmps40
  go_wp2
  go_quiet (fail)
  go_wp2
  go_ret
  exact ⟨rfl, (Drawn.refl _).step _⟩
set_option maxHeartbeats 1000000 in
theorem word3_calls {w : World} {g0 g2 c2 : Nat} {x y : Int} (hc : 123 ≤ c2) (h : w.cell? ⟨g0, 0, none⟩ = some (.slice (some ⟨g2, 0, none⟩) 123 c2)) (h0 : w.cell? ⟨g2, 3, none⟩ = some (.int .u8 x)) (h1 : w.cell? ⟨g2, 4, none⟩ = some (.int .u8 y)) (bx : 0 ≤ x ∧ x < 256) (by' : 0 ≤ y ∧ y < 256) :
    Calls Try.prog 40 #[.int .i64 3, .pointer (some ⟨g0, 0, none⟩)] w fun e w' => e = .returned (.int .i64 (wordI x y)) ∧ Drawn w w' := by
  have p0 : IntKind.i64.wrap x = x := by rw [IntKind.wrap_i64]; omega
  have p1 : IntKind.i64.wrap y = y := by rw [IntKind.wrap_i64]; omega
  have p4 : IntKind.i64.wrap (x * 256) = x * 256 := by rw [IntKind.wrap_i64]; omega
  have p5 := or_word bx by'
  have p6 : IntKind.i64.wrap 4 = 4 := by decide
  clear bx by'
  go_enter Try.func40, Try.ntmps40
  go_wp2
  go_quiet (fail)
  go_wp2
  go_ret
  exact ⟨rfl, (Drawn.refl _).step _⟩
set_option maxHeartbeats 1000000 in
theorem word5_calls {w : World} {g0 g2 c2 : Nat} {x y : Int} (hc : 123 ≤ c2) (h : w.cell? ⟨g0, 0, none⟩ = some (.slice (some ⟨g2, 0, none⟩) 123 c2)) (h0 : w.cell? ⟨g2, 5, none⟩ = some (.int .u8 x)) (h1 : w.cell? ⟨g2, 6, none⟩ = some (.int .u8 y)) (bx : 0 ≤ x ∧ x < 256) (by' : 0 ≤ y ∧ y < 256) :
    Calls Try.prog 40 #[.int .i64 5, .pointer (some ⟨g0, 0, none⟩)] w fun e w' => e = .returned (.int .i64 (wordI x y)) ∧ Drawn w w' := by
  have p0 : IntKind.i64.wrap x = x := by rw [IntKind.wrap_i64]; omega
  have p1 : IntKind.i64.wrap y = y := by rw [IntKind.wrap_i64]; omega
  have p4 : IntKind.i64.wrap (x * 256) = x * 256 := by rw [IntKind.wrap_i64]; omega
  have p5 := or_word bx by'
  have p6 : IntKind.i64.wrap 6 = 6 := by decide
  clear bx by'
  go_enter Try.func40, Try.ntmps40
  go_wp2
  go_quiet (fail)
  go_wp2
  go_ret
  exact ⟨rfl, (Drawn.refl _).step _⟩
set_option maxHeartbeats 1000000 in
theorem word7_calls {w : World} {g0 g2 c2 : Nat} {x y : Int} (hc : 123 ≤ c2) (h : w.cell? ⟨g0, 0, none⟩ = some (.slice (some ⟨g2, 0, none⟩) 123 c2)) (h0 : w.cell? ⟨g2, 7, none⟩ = some (.int .u8 x)) (h1 : w.cell? ⟨g2, 8, none⟩ = some (.int .u8 y)) (bx : 0 ≤ x ∧ x < 256) (by' : 0 ≤ y ∧ y < 256) :
    Calls Try.prog 40 #[.int .i64 7, .pointer (some ⟨g0, 0, none⟩)] w fun e w' => e = .returned (.int .i64 (wordI x y)) ∧ Drawn w w' := by
  have p0 : IntKind.i64.wrap x = x := by rw [IntKind.wrap_i64]; omega
  have p1 : IntKind.i64.wrap y = y := by rw [IntKind.wrap_i64]; omega
  have p4 : IntKind.i64.wrap (x * 256) = x * 256 := by rw [IntKind.wrap_i64]; omega
  have p5 := or_word bx by'
  have p6 : IntKind.i64.wrap 8 = 8 := by decide
  clear bx by'
  go_enter Try.func40, Try.ntmps40
  go_wp2
  go_quiet (fail)
  go_wp2
  go_ret
  exact ⟨rfl, (Drawn.refl _).step _⟩
set_option maxHeartbeats 1000000 in
theorem name9_calls {w : World} {g2 c : Nat} {bd : List Int} {y : Int} (hr : Rd w 1 (some ⟨g2, 0, none⟩) 123 (iv .u8 bd)) (hy : bd.getD 9 0 = y) (b3 : 0 ≤ y ∧ y < 256) (hc : 114 ≤ c) :
    Calls Try.prog 41 #[.slice (some ⟨g2, 9, none⟩) 114 c] w fun e w' => e = .returned (.string (strOf ((bd.drop 10).take (min y.toNat 24)))) ∧ w = w' := by
  have h3 := byte_at hr 9 (by omega) hy
  clear hy
  have w3 : wrap64 y = y := wrap64_small b3
  obtain ⟨m, hm⟩ : ∃ m, m = min y.toNat 24 := ⟨_, rfl⟩
  rw [← hm]
  have hmin : min y 24 = (m : Int) := by omega
  have hm24 : (m : Int) ≤ 24 := by omega
  have hm0 : (0 : Int) ≤ m := by omega
  have v1 : IntKind.i64.wrap (1 + (m : Int)) = 1 + m := by rw [IntKind.wrap_i64]; omega
  have v2 : (1 : Int) ≤ 1 + m := by omega
  have v3 : 1 + (m : Int) ≤ (c : Int) := by omega
  have v4 : (1 + (m : Int)).toNat = 1 + m := by omega
  have v5 : ¬ c = 1 := by omega
  have hm2 : m ≤ 24 := by omega
  have hcv : ∀ c', (convert 24 9 (.slice (some ⟨g2, 10, none⟩) m c')).run Try.prog w = .ok (.string (strOf ((bd.drop 10).take m))) w := fun c' => run_conv (c := c') (cut_str hr 10 m (by omega))
  have HM := Lib.hid hm; clear hm
  have p3 : IntKind.i64.wrap y = y := by rw [IntKind.wrap_i64]; omega
  have HR := Lib.hid hr; clear hr
  clear b3
  go_enter Try.func41, Try.ntmps41
  go_wp2
  go_ret
  exact ⟨rfl, rfl⟩
set_option maxHeartbeats 1000000 in
theorem name34_calls {w : World} {g2 c : Nat} {bd : List Int} {y : Int} (hr : Rd w 1 (some ⟨g2, 0, none⟩) 123 (iv .u8 bd)) (hy : bd.getD 34 0 = y) (b3 : 0 ≤ y ∧ y < 256) (hc : 89 ≤ c) :
    Calls Try.prog 41 #[.slice (some ⟨g2, 34, none⟩) 89 c] w fun e w' => e = .returned (.string (strOf ((bd.drop 35).take (min y.toNat 24)))) ∧ w = w' := by
  have h3 := byte_at hr 34 (by omega) hy
  clear hy
  have w3 : wrap64 y = y := wrap64_small b3
  obtain ⟨m, hm⟩ : ∃ m, m = min y.toNat 24 := ⟨_, rfl⟩
  rw [← hm]
  have hmin : min y 24 = (m : Int) := by omega
  have hm24 : (m : Int) ≤ 24 := by omega
  have hm0 : (0 : Int) ≤ m := by omega
  have v1 : IntKind.i64.wrap (1 + (m : Int)) = 1 + m := by rw [IntKind.wrap_i64]; omega
  have v2 : (1 : Int) ≤ 1 + m := by omega
  have v3 : 1 + (m : Int) ≤ (c : Int) := by omega
  have v4 : (1 + (m : Int)).toNat = 1 + m := by omega
  have v5 : ¬ c = 1 := by omega
  have hm2 : m ≤ 24 := by omega
  have hcv : ∀ c', (convert 24 9 (.slice (some ⟨g2, 35, none⟩) m c')).run Try.prog w = .ok (.string (strOf ((bd.drop 35).take m))) w := fun c' => run_conv (c := c') (cut_str hr 35 m (by omega))
  have HM := Lib.hid hm; clear hm
  have p3 : IntKind.i64.wrap y = y := by rw [IntKind.wrap_i64]; omega
  have HR := Lib.hid hr; clear hr
  clear b3
  go_enter Try.func41, Try.ntmps41
  go_wp2
  go_ret
  exact ⟨rfl, rfl⟩
end Go.Proofs.Ytcjackjoonijnaa
