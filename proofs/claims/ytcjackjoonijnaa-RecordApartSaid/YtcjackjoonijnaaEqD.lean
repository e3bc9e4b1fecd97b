/-
  Slots compared by '=='.
-/
import Derived.Laws.StructEq
import Derived.Laws.Tables
import Derived.Laws.Cover2
import Derived.KernelRfl
import Derived.Test.YtcjackjoonijnaaDir7
namespace Go.Proofs.Ytcjackjoonijnaa
open Go.RowKit

def eqS (x y : Slt) : Bool := (x.ino == y.ino) && ((x.kind == y.kind) && (x.name.toList == y.name.toList))
theorem eqS_iff {x y : Slt} : eqS x y = true ↔ x = y := by
  obtain ⟨a, b, c⟩ := x
  obtain ⟨a', b', c'⟩ := y
  simp only [eqS, Bool.and_eq_true, beq_iff_eq, Slt.mk.injEq]
  constructor
  · rintro ⟨h1, h2, h3⟩
    refine ⟨h1, h2, ?_⟩
    rw [Lib.toList_data, Lib.toList_data] at h3
    exact congrArg ByteArray.mk (Array.ext' h3)
  · rintro ⟨rfl, rfl, rfl⟩
    exact ⟨rfl, rfl, rfl⟩
theorem eq_slot (i k : Int) (n : ByteArray) (i' k' : Int) (n' : ByteArray) (w : World) : (Op.equalIn 9999 39 (.agg #[.int .i64 i, .int .i64 k, .string n]) (.agg #[.int .i64 i', .int .i64 k', .string n'])).run Try.prog w = .ok (eqS ⟨i, k, n⟩ ⟨i', k', n'⟩) w := by
  have hS : Try.prog.underlying 39 = some (.struct (Try.prog.fieldsOf 39)) := by kernel_rfl
  rw [show (9999 : Nat) = 9998 + 1 from rfl, run_equalIn_agg w 9998 39 _ _ hS (by kernel_rfl)]
  simp only [Program.fieldsOf, Try.underlying39]
  go_simp
  by_cases h1 : i = i' <;> by_cases h2 : k = k' <;> by_cases h3 : n.toList = n'.toList <;> simp [h1, h2, h3, eqS]
theorem eq_slot2 (x y : Slt) (w : World) : (Op.equalIn 9999 39 x.val y.val).run Try.prog w = .ok (eqS x y) w := eq_slot _ _ _ _ _ _ w
theorem eq_arr (a b c d a' b' c' d' : Slt) (w : World) : (Op.equalIn 10000 40 (sltsV a b c d) (sltsV a' b' c' d')).run Try.prog w = .ok (eqS a a' && (eqS b b' && (eqS c c' && eqS d d'))) w := by
  have p0 : ∀ (p q r t : Slt) (w : World), (part 39 (sltsC p q r t) 0).run Try.prog w = .ok p.val w := fun p q r t w => by kernel_rfl
  have p1 : ∀ (p q r t : Slt) (w : World), (part 39 (sltsC p q r t) 3).run Try.prog w = .ok q.val w := fun p q r t w => by kernel_rfl
  have p2 : ∀ (p q r t : Slt) (w : World), (part 39 (sltsC p q r t) 6).run Try.prog w = .ok r.val w := fun p q r t w => by kernel_rfl
  have p3 : ∀ (p q r t : Slt) (w : World), (part 39 (sltsC p q r t) 9).run Try.prog w = .ok t.val w := fun p q r t w => by kernel_rfl
  have hz : ∀ w, (sizeOf 39).run Try.prog w = .ok 3 w := fun w => by kernel_rfl
  show (Op.equalIn 10000 40 (.agg (sltsC a b c d)) (.agg (sltsC a' b' c' d'))).run Try.prog w = _
  rw [show (10000 : Nat) = 9999 + 1 from rfl, Op.equalIn]
  simp only [Sem.run_bind, run_underlying Try.underlying40, Result.andThen_ok, hz]
  simp only [Std.Legacy.Range.forIn_eq_forIn_range', Std.Legacy.Range.size, Nat.sub_zero, Nat.add_sub_cancel, Nat.div_one, List.range'_succ, List.range'_zero, List.forIn_cons, List.forIn_nil]
  simp only [Sem.run_bind, Nat.zero_mul, Nat.zero_add, Nat.one_mul, p0, p1, p2, p3, Result.andThen_ok, eq_slot2, Nat.reduceMul, Nat.reduceAdd]
  cases eqS a a' <;> simp only [Sem.run_bind, Sem.run_pure, Result.andThen_ok, p0, p1, p2, p3, eq_slot2, Bool.not_true, Bool.not_false, if_true, if_false, Bool.false_eq_true, Bool.true_and, Bool.false_and]
  cases eqS b b' <;> simp only [Sem.run_bind, Sem.run_pure, Result.andThen_ok, p0, p1, p2, p3, eq_slot2, Bool.not_true, Bool.not_false, if_true, if_false, Bool.false_eq_true, Bool.true_and, Bool.false_and]
  cases eqS c c' <;> simp only [Sem.run_bind, Sem.run_pure, Result.andThen_ok, p0, p1, p2, p3, eq_slot2, Bool.not_true, Bool.not_false, if_true, if_false, Bool.false_eq_true, Bool.true_and, Bool.false_and]
  cases eqS d d' <;> simp only [Sem.run_bind, Sem.run_pure, Result.andThen_ok, p0, p1, p2, p3, eq_slot2, Bool.not_true, Bool.not_false, if_true, if_false, Bool.false_eq_true, Bool.true_and, Bool.false_and]
end Go.Proofs.Ytcjackjoonijnaa
