/-
  Slots: what is found, what is free; walked in both texts.
-/
import Derived.Test.YtcjackjoonijnaaName1
namespace Go.Proofs.Ytcjackjoonijnaa
open Go.RowKit

/-- A slot. -/
structure Slt where
  ino : Int
  kind : Int
  name : ByteArray
instance : Inhabited Slt := ⟨⟨0, 0, ByteArray.empty⟩⟩
def Slt.val (x : Slt) : Value := .agg #[.int .i64 x.ino, .int .i64 x.kind, .string x.name]
/-- Four slots, one behind another. -/
def sltsV (p q r s : Slt) : Value := .agg #[.int .i64 p.ino, .int .i64 p.kind, .string p.name, .int .i64 q.ino, .int .i64 q.kind, .string q.name, .int .i64 r.ino, .int .i64 r.kind, .string r.name, .int .i64 s.ino, .int .i64 s.kind, .string s.name]
def hitB (s : ByteArray) (x : Slt) : Bool := (x.ino != 0) && (x.name.toList == s.toList)
def findI (s : ByteArray) (a b c d : Slt) : Int := if hitB s a then 0 else if hitB s b then 1 else if hitB s c then 2 else if hitB s d then 3 else -1
def freeI (a b c d : Slt) : Int := if a.ino = 0 then 0 else if b.ino = 0 then 1 else if c.ino = 0 then 2 else if d.ino = 0 then 3 else -1
def PastF (s : ByteArray) (a b c d : Slt) (k : Int) : Prop := (1 ≤ k → hitB s a = false) ∧ (2 ≤ k → hitB s b = false) ∧ (3 ≤ k → hitB s c = false) ∧ (4 ≤ k → hitB s d = false)

theorem hit_yes {s : ByteArray} {i k : Int} {n : ByteArray} (h : (i != 0) = true ∧ (n.toList == s.toList) = true) : hitB s ⟨i, k, n⟩ = true := by simp only [hitB, h.1, h.2, Bool.and_self]
theorem hit_zero {s : ByteArray} {i k : Int} {n : ByteArray} (h1 : i = 0) : hitB s ⟨i, k, n⟩ = false := by simp [hitB, h1]
theorem hit_no {s : ByteArray} {i k : Int} {n : ByteArray} (h : (i != 0) = false ∨ (n.toList == s.toList) = false) : hitB s ⟨i, k, n⟩ = false := by
  unfold hitB
  rcases h with h | h
  · dsimp only; rw [h]; rfl
  · dsimp only; rw [h, Bool.and_false]
section
variable {s : ByteArray} {a b c d : Slt}
theorem past0 : PastF s a b c d 0 := ⟨fun h => by omega, fun h => by omega, fun h => by omega, fun h => by omega⟩
theorem past1 (_ : PastF s a b c d 0) (h : hitB s a = false) : PastF s a b c d 1 := ⟨fun _ => h, fun h => by omega, fun h => by omega, fun h => by omega⟩
theorem past2 (p : PastF s a b c d 1) (h : hitB s b = false) : PastF s a b c d 2 := ⟨fun _ => p.1 (by decide), fun _ => h, fun h => by omega, fun h => by omega⟩
theorem past3 (p : PastF s a b c d 2) (h : hitB s c = false) : PastF s a b c d 3 := ⟨fun _ => p.1 (by decide), fun _ => p.2.1 (by decide), fun _ => h, fun h => by omega⟩
theorem past4 (p : PastF s a b c d 3) (h : hitB s d = false) : PastF s a b c d 4 := ⟨fun _ => p.1 (by decide), fun _ => p.2.1 (by decide), fun _ => p.2.2.1 (by decide), fun _ => h⟩
theorem find0 (_ : PastF s a b c d 0) (h : hitB s a = true) : findI s a b c d = 0 := by simp [findI, h]
theorem find1 (p : PastF s a b c d 1) (h : hitB s b = true) : findI s a b c d = 1 := by simp [findI, h, p.1 (by decide)]
theorem find2 (p : PastF s a b c d 2) (h : hitB s c = true) : findI s a b c d = 2 := by simp [findI, h, p.1 (by decide), p.2.1 (by decide)]
theorem find3 (p : PastF s a b c d 3) (h : hitB s d = true) : findI s a b c d = 3 := by simp [findI, h, p.1 (by decide), p.2.1 (by decide), p.2.2.1 (by decide)]
theorem find4 (p : PastF s a b c d 4) : findI s a b c d = -1 := by simp [findI, p.1 (by decide), p.2.1 (by decide), p.2.2.1 (by decide), p.2.2.2 (by decide)]
end
/-- The four slots, each by its number. -/
theorem ix0 (pi pk : Int) (pn : ByteArray) (qi qk : Int) (qn : ByteArray) (ri rk : Int) (rn : ByteArray) (ti tk : Int) (tn : ByteArray) (w : World) : (Instr.index 40 (.agg #[.int .i64 pi, .int .i64 pk, .string pn, .int .i64 qi, .int .i64 qk, .string qn, .int .i64 ri, .int .i64 rk, .string rn, .int .i64 ti, .int .i64 tk, .string tn]) (.int .i64 0)).run Try.prog w = .ok (.agg #[.int .i64 pi, .int .i64 pk, .string pn]) w := by kernel_rfl
theorem ix1 (pi pk : Int) (pn : ByteArray) (qi qk : Int) (qn : ByteArray) (ri rk : Int) (rn : ByteArray) (ti tk : Int) (tn : ByteArray) (w : World) : (Instr.index 40 (.agg #[.int .i64 pi, .int .i64 pk, .string pn, .int .i64 qi, .int .i64 qk, .string qn, .int .i64 ri, .int .i64 rk, .string rn, .int .i64 ti, .int .i64 tk, .string tn]) (.int .i64 1)).run Try.prog w = .ok (.agg #[.int .i64 qi, .int .i64 qk, .string qn]) w := by kernel_rfl
theorem ix2 (pi pk : Int) (pn : ByteArray) (qi qk : Int) (qn : ByteArray) (ri rk : Int) (rn : ByteArray) (ti tk : Int) (tn : ByteArray) (w : World) : (Instr.index 40 (.agg #[.int .i64 pi, .int .i64 pk, .string pn, .int .i64 qi, .int .i64 qk, .string qn, .int .i64 ri, .int .i64 rk, .string rn, .int .i64 ti, .int .i64 tk, .string tn]) (.int .i64 2)).run Try.prog w = .ok (.agg #[.int .i64 ri, .int .i64 rk, .string rn]) w := by kernel_rfl
theorem ix3 (pi pk : Int) (pn : ByteArray) (qi qk : Int) (qn : ByteArray) (ri rk : Int) (rn : ByteArray) (ti tk : Int) (tn : ByteArray) (w : World) : (Instr.index 40 (.agg #[.int .i64 pi, .int .i64 pk, .string pn, .int .i64 qi, .int .i64 qk, .string qn, .int .i64 ri, .int .i64 rk, .string rn, .int .i64 ti, .int .i64 tk, .string tn]) (.int .i64 3)).run Try.prog w = .ok (.agg #[.int .i64 ti, .int .i64 tk, .string tn]) w := by kernel_rfl

set_option maxRecDepth 100000 in
set_option maxHeartbeats 1000000 in
theorem Find_calls (p q r t : Slt) (s : ByteArray) (w : World) : Calls Try.prog 31 #[sltsV p q r t, .string s] w fun e w' => e = .returned (.int .i64 (findI s p q r t)) ∧ Fresh w w' := by
  obtain ⟨pi, pk, pn⟩ := p
  obtain ⟨qi, qk, qn⟩ := q
  obtain ⟨ri, rk, rn⟩ := r
  obtain ⟨ti, tk, tn⟩ := t
  unfold sltsV
  dsimp only
  have i0 := ix0 pi pk pn qi qk qn ri rk rn ti tk tn
  have i1 := ix1 pi pk pn qi qk qn ri rk rn ti tk tn
  have i2 := ix2 pi pk pn qi qk qn ri rk rn ti tk tn
  have i3 := ix3 pi pk pn qi qk qn ri rk rn ti tk tn
  go_enter Try.func31, Try.ntmps31
  go_wp2
  go_loopw [8] (fun i wr => ∃ k : Int, (k = 0 ∨ k = 1 ∨ k = 2 ∨ k = 3 ∨ k = 4) ∧ i = .int .i64 k ∧ Hid (PastF s ⟨pi, pk, pn⟩ ⟨qi, qk, qn⟩ ⟨ri, rk, rn⟩ ⟨ti, tk, tn⟩ k) ∧ Fresh w wr) (fun i _ => 4 - (intOf i).toNat)
  case atStart => exact ⟨0, by omega, rfl, past0, ((Keep.refl _ w).alloc _)⟩
  case round =>
    obtain ⟨k, hk, rfl, HP, hfr⟩ := hrel
    obtain rfl | rfl | rfl | rfl | rfl := hk
    · cases hb : (pi != 0)
      · go_wp2
        go_round
        case rel => exact ⟨_, by omega, rfl, past1 HP.out (hit_no (.inl hb)), hfr.alloc _⟩
        case measure => simp [intOf]
      · cases hc : (pn.toList == s.toList)
        · go_wp2
          go_round
          case rel => exact ⟨_, by omega, rfl, past1 HP.out (hit_no (.inr hc)), hfr.alloc _⟩
          case measure => simp [intOf]
        · go_wp2
          go_ret
          exact ⟨ret_int (find0 HP.out (hit_yes ⟨hb, hc⟩)).symm, hfr.alloc _⟩
    · cases hb : (qi != 0)
      · go_wp2
        go_round
        case rel => exact ⟨_, by omega, rfl, past2 HP.out (hit_no (.inl hb)), hfr.alloc _⟩
        case measure => simp [intOf]
      · cases hc : (qn.toList == s.toList)
        · go_wp2
          go_round
          case rel => exact ⟨_, by omega, rfl, past2 HP.out (hit_no (.inr hc)), hfr.alloc _⟩
          case measure => simp [intOf]
        · go_wp2
          go_ret
          exact ⟨ret_int (find1 HP.out (hit_yes ⟨hb, hc⟩)).symm, hfr.alloc _⟩
    · cases hb : (ri != 0)
      · go_wp2
        go_round
        case rel => exact ⟨_, by omega, rfl, past3 HP.out (hit_no (.inl hb)), hfr.alloc _⟩
        case measure => simp [intOf]
      · cases hc : (rn.toList == s.toList)
        · go_wp2
          go_round
          case rel => exact ⟨_, by omega, rfl, past3 HP.out (hit_no (.inr hc)), hfr.alloc _⟩
          case measure => simp [intOf]
        · go_wp2
          go_ret
          exact ⟨ret_int (find2 HP.out (hit_yes ⟨hb, hc⟩)).symm, hfr.alloc _⟩
    · cases hb : (ti != 0)
      · go_wp2
        go_round
        case rel => exact ⟨_, by omega, rfl, past4 HP.out (hit_no (.inl hb)), hfr.alloc _⟩
        case measure => simp [intOf]
      · cases hc : (tn.toList == s.toList)
        · go_wp2
          go_round
          case rel => exact ⟨_, by omega, rfl, past4 HP.out (hit_no (.inr hc)), hfr.alloc _⟩
          case measure => simp [intOf]
        · go_wp2
          go_ret
          exact ⟨ret_int (find3 HP.out (hit_yes ⟨hb, hc⟩)).symm, hfr.alloc _⟩
    · go_wp2
      go_ret
      exact ⟨ret_int (find4 HP.out).symm, hfr⟩

set_option maxRecDepth 100000 in
set_option maxHeartbeats 1000000 in
theorem RFind_calls (p q r t : Slt) (s : ByteArray) (w : World) : Calls Try.prog 32 #[sltsV p q r t, .string s] w fun e w' => e = .returned (.int .i64 (findI s p q r t)) ∧ Fresh w w' := by
  obtain ⟨pi, pk, pn⟩ := p
  obtain ⟨qi, qk, qn⟩ := q
  obtain ⟨ri, rk, rn⟩ := r
  obtain ⟨ti, tk, tn⟩ := t
  unfold sltsV
  dsimp only
  go_enter Try.func32, Try.ntmps32
  go_wp2
  go_loop [5] (fun i => ∃ k : Int, (k = 0 ∨ k = 1 ∨ k = 2 ∨ k = 3 ∨ k = 4) ∧ i = .int .i64 k ∧ Hid (PastF s ⟨pi, pk, pn⟩ ⟨qi, qk, qn⟩ ⟨ri, rk, rn⟩ ⟨ti, tk, tn⟩ k)) (fun i => 4 - (intOf i).toNat)
  case atStart => exact ⟨0, by omega, rfl, past0⟩
  case round =>
    obtain ⟨k, hk, rfl, HP⟩ := hrel
    obtain rfl | rfl | rfl | rfl | rfl := hk
    · cases hb : (pi != 0)
      · go_wp2
        go_round
        case rel => exact ⟨_, by omega, rfl, past1 HP.out (hit_no (.inl hb))⟩
        case measure => simp [intOf]
      · cases hc : (pn.toList == s.toList)
        · go_wp2
          go_round
          case rel => exact ⟨_, by omega, rfl, past1 HP.out (hit_no (.inr hc))⟩
          case measure => simp [intOf]
        · go_wp2
          go_ret
          exact ⟨ret_int (find0 HP.out (hit_yes ⟨hb, hc⟩)).symm, (Keep.refl _ w).alloc _⟩
    · cases hb : (qi != 0)
      · go_wp2
        go_round
        case rel => exact ⟨_, by omega, rfl, past2 HP.out (hit_no (.inl hb))⟩
        case measure => simp [intOf]
      · cases hc : (qn.toList == s.toList)
        · go_wp2
          go_round
          case rel => exact ⟨_, by omega, rfl, past2 HP.out (hit_no (.inr hc))⟩
          case measure => simp [intOf]
        · go_wp2
          go_ret
          exact ⟨ret_int (find1 HP.out (hit_yes ⟨hb, hc⟩)).symm, (Keep.refl _ w).alloc _⟩
    · cases hb : (ri != 0)
      · go_wp2
        go_round
        case rel => exact ⟨_, by omega, rfl, past3 HP.out (hit_no (.inl hb))⟩
        case measure => simp [intOf]
      · cases hc : (rn.toList == s.toList)
        · go_wp2
          go_round
          case rel => exact ⟨_, by omega, rfl, past3 HP.out (hit_no (.inr hc))⟩
          case measure => simp [intOf]
        · go_wp2
          go_ret
          exact ⟨ret_int (find2 HP.out (hit_yes ⟨hb, hc⟩)).symm, (Keep.refl _ w).alloc _⟩
    · cases hb : (ti != 0)
      · go_wp2
        go_round
        case rel => exact ⟨_, by omega, rfl, past4 HP.out (hit_no (.inl hb))⟩
        case measure => simp [intOf]
      · cases hc : (tn.toList == s.toList)
        · go_wp2
          go_round
          case rel => exact ⟨_, by omega, rfl, past4 HP.out (hit_no (.inr hc))⟩
          case measure => simp [intOf]
        · go_wp2
          go_ret
          exact ⟨ret_int (find3 HP.out (hit_yes ⟨hb, hc⟩)).symm, (Keep.refl _ w).alloc _⟩
    · go_wp2
      go_ret
      exact ⟨ret_int (find4 HP.out).symm, (Keep.refl _ w).alloc _⟩

/-! ### the free -/
def PastZ (a b c d : Slt) (k : Int) : Prop := (1 ≤ k → ¬ a.ino = 0) ∧ (2 ≤ k → ¬ b.ino = 0) ∧ (3 ≤ k → ¬ c.ino = 0) ∧ (4 ≤ k → ¬ d.ino = 0)
section
variable {a b c d : Slt}
theorem pastz0 : PastZ a b c d 0 := ⟨fun h => by omega, fun h => by omega, fun h => by omega, fun h => by omega⟩
theorem pastz1 (_ : PastZ a b c d 0) (h : ¬ a.ino = 0) : PastZ a b c d 1 := ⟨fun _ => h, fun h => by omega, fun h => by omega, fun h => by omega⟩
theorem pastz2 (p : PastZ a b c d 1) (h : ¬ b.ino = 0) : PastZ a b c d 2 := ⟨fun _ => p.1 (by decide), fun _ => h, fun h => by omega, fun h => by omega⟩
theorem pastz3 (p : PastZ a b c d 2) (h : ¬ c.ino = 0) : PastZ a b c d 3 := ⟨fun _ => p.1 (by decide), fun _ => p.2.1 (by decide), fun _ => h, fun h => by omega⟩
theorem pastz4 (p : PastZ a b c d 3) (h : ¬ d.ino = 0) : PastZ a b c d 4 := ⟨fun _ => p.1 (by decide), fun _ => p.2.1 (by decide), fun _ => p.2.2.1 (by decide), fun _ => h⟩
theorem free0 (_ : PastZ a b c d 0) (h : a.ino = 0) : freeI a b c d = 0 := by simp [freeI, h]
theorem free1 (p : PastZ a b c d 1) (h : b.ino = 0) : freeI a b c d = 1 := by simp [freeI, h, p.1 (by decide)]
theorem free2 (p : PastZ a b c d 2) (h : c.ino = 0) : freeI a b c d = 2 := by simp [freeI, h, p.1 (by decide), p.2.1 (by decide)]
theorem free3 (p : PastZ a b c d 3) (h : d.ino = 0) : freeI a b c d = 3 := by simp [freeI, h, p.1 (by decide), p.2.1 (by decide), p.2.2.1 (by decide)]
theorem free4 (p : PastZ a b c d 4) : freeI a b c d = -1 := by simp [freeI, p.1 (by decide), p.2.1 (by decide), p.2.2.1 (by decide), p.2.2.2 (by decide)]
end

set_option maxRecDepth 100000 in
set_option maxHeartbeats 1000000 in
theorem Free_calls (p q r t : Slt) (w : World) : Calls Try.prog 33 #[sltsV p q r t] w fun e w' => e = .returned (.int .i64 (freeI p q r t)) ∧ Fresh w w' := by
  obtain ⟨pi, pk, pn⟩ := p
  obtain ⟨qi, qk, qn⟩ := q
  obtain ⟨ri, rk, rn⟩ := r
  obtain ⟨ti, tk, tn⟩ := t
  unfold sltsV
  dsimp only
  have i0 := ix0 pi pk pn qi qk qn ri rk rn ti tk tn
  have i1 := ix1 pi pk pn qi qk qn ri rk rn ti tk tn
  have i2 := ix2 pi pk pn qi qk qn ri rk rn ti tk tn
  have i3 := ix3 pi pk pn qi qk qn ri rk rn ti tk tn
  go_enter Try.func33, Try.ntmps33
  go_wp2
  go_loopw [6] (fun i wr => ∃ k : Int, (k = 0 ∨ k = 1 ∨ k = 2 ∨ k = 3 ∨ k = 4) ∧ i = .int .i64 k ∧ Hid (PastZ ⟨pi, pk, pn⟩ ⟨qi, qk, qn⟩ ⟨ri, rk, rn⟩ ⟨ti, tk, tn⟩ k) ∧ Fresh w wr) (fun i _ => 4 - (intOf i).toNat)
  case atStart => exact ⟨0, by omega, rfl, pastz0, ((Keep.refl _ w).alloc _)⟩
  case round =>
    obtain ⟨k, hk, rfl, HP, hfr⟩ := hrel
    obtain rfl | rfl | rfl | rfl | rfl := hk
    · cases hb : (pi == 0)
      · go_wp2
        go_round
        case rel => exact ⟨_, by omega, rfl, pastz1 HP.out (beq_eq_false_iff_ne.1 hb), hfr.alloc _⟩
        case measure => simp [intOf]
      · go_wp2
        go_ret
        exact ⟨ret_int (free0 HP.out (beq_iff_eq.1 hb)).symm, hfr.alloc _⟩
    · cases hb : (qi == 0)
      · go_wp2
        go_round
        case rel => exact ⟨_, by omega, rfl, pastz2 HP.out (beq_eq_false_iff_ne.1 hb), hfr.alloc _⟩
        case measure => simp [intOf]
      · go_wp2
        go_ret
        exact ⟨ret_int (free1 HP.out (beq_iff_eq.1 hb)).symm, hfr.alloc _⟩
    · cases hb : (ri == 0)
      · go_wp2
        go_round
        case rel => exact ⟨_, by omega, rfl, pastz3 HP.out (beq_eq_false_iff_ne.1 hb), hfr.alloc _⟩
        case measure => simp [intOf]
      · go_wp2
        go_ret
        exact ⟨ret_int (free2 HP.out (beq_iff_eq.1 hb)).symm, hfr.alloc _⟩
    · cases hb : (ti == 0)
      · go_wp2
        go_round
        case rel => exact ⟨_, by omega, rfl, pastz4 HP.out (beq_eq_false_iff_ne.1 hb), hfr.alloc _⟩
        case measure => simp [intOf]
      · go_wp2
        go_ret
        exact ⟨ret_int (free3 HP.out (beq_iff_eq.1 hb)).symm, hfr.alloc _⟩
    · go_wp2
      go_ret
      exact ⟨ret_int (free4 HP.out).symm, hfr⟩

set_option maxRecDepth 100000 in
set_option maxHeartbeats 1000000 in
theorem RFree_calls (p q r t : Slt) (w : World) : Calls Try.prog 34 #[sltsV p q r t] w fun e w' => e = .returned (.int .i64 (freeI p q r t)) ∧ Fresh w w' := by
  obtain ⟨pi, pk, pn⟩ := p
  obtain ⟨qi, qk, qn⟩ := q
  obtain ⟨ri, rk, rn⟩ := r
  obtain ⟨ti, tk, tn⟩ := t
  unfold sltsV
  dsimp only
  go_enter Try.func34, Try.ntmps34
  go_wp2
  go_loop [3] (fun i => ∃ k : Int, (k = 0 ∨ k = 1 ∨ k = 2 ∨ k = 3 ∨ k = 4) ∧ i = .int .i64 k ∧ Hid (PastZ ⟨pi, pk, pn⟩ ⟨qi, qk, qn⟩ ⟨ri, rk, rn⟩ ⟨ti, tk, tn⟩ k)) (fun i => 4 - (intOf i).toNat)
  case atStart => exact ⟨0, by omega, rfl, pastz0⟩
  case round =>
    obtain ⟨k, hk, rfl, HP⟩ := hrel
    obtain rfl | rfl | rfl | rfl | rfl := hk
    · cases hb : (pi == 0)
      · go_wp2
        go_round
        case rel => exact ⟨_, by omega, rfl, pastz1 HP.out (beq_eq_false_iff_ne.1 hb)⟩
        case measure => simp [intOf]
      · go_wp2
        go_ret
        exact ⟨ret_int (free0 HP.out (beq_iff_eq.1 hb)).symm, (Keep.refl _ w).alloc _⟩
    · cases hb : (qi == 0)
      · go_wp2
        go_round
        case rel => exact ⟨_, by omega, rfl, pastz2 HP.out (beq_eq_false_iff_ne.1 hb)⟩
        case measure => simp [intOf]
      · go_wp2
        go_ret
        exact ⟨ret_int (free1 HP.out (beq_iff_eq.1 hb)).symm, (Keep.refl _ w).alloc _⟩
    · cases hb : (ri == 0)
      · go_wp2
        go_round
        case rel => exact ⟨_, by omega, rfl, pastz3 HP.out (beq_eq_false_iff_ne.1 hb)⟩
        case measure => simp [intOf]
      · go_wp2
        go_ret
        exact ⟨ret_int (free2 HP.out (beq_iff_eq.1 hb)).symm, (Keep.refl _ w).alloc _⟩
    · cases hb : (ti == 0)
      · go_wp2
        go_round
        case rel => exact ⟨_, by omega, rfl, pastz4 HP.out (beq_eq_false_iff_ne.1 hb)⟩
        case measure => simp [intOf]
      · go_wp2
        go_ret
        exact ⟨ret_int (free3 HP.out (beq_iff_eq.1 hb)).symm, (Keep.refl _ w).alloc _⟩
    · go_wp2
      go_ret
      exact ⟨ret_int (free4 HP.out).symm, (Keep.refl _ w).alloc _⟩
end Go.Proofs.Ytcjackjoonijnaa
