/-
  RecordApart: what is laid tells records apart; one byte changed is told.
-/
import Derived.Laws.Bits64
import Derived.Test.YtcjackjoonijnaaRec8
namespace Go.Proofs.Ytcjackjoonijnaa
open Go.RowKit

/-! ### the sum tells one byte -/
theorem xr_nat (a b : Nat) (ha : a < 4294967296) (hb : b < 4294967296) : xr (a : Int) (b : Int) = ((a ^^^ b : Nat) : Int) := by
  have hx : a ^^^ b < 2 ^ 32 := Nat.xor_lt_two_pow (by omega) (by omega)
  have h1 : (BitVec.ofInt 32 (a : Int)).toNat = a := by
    rw [BitVec.ofInt_natCast, BitVec.toNat_ofNat]; exact Nat.mod_eq_of_lt (by omega)
  have h2 : (BitVec.ofInt 32 (b : Int)).toNat = b := by
    rw [BitVec.ofInt_natCast, BitVec.toNat_ofNat]; exact Nat.mod_eq_of_lt (by omega)
  have hw : ∀ n : Int, IntKind.u32.wrap n = n % 4294967296 := fun n => by simp [IntKind.wrap, IntKind.bits, IntKind.signed]
  show IntKind.u32.wrap ((BitVec.ofInt 32 (a : Int) ^^^ BitVec.ofInt 32 (b : Int)).toNat : Int) = _
  rw [BitVec.toNat_xor, h1, h2, hw]
  omega
theorem xor_back (a c : Nat) : a ^^^ c ^^^ c = a := by rw [Nat.xor_assoc, Nat.xor_self, Nat.xor_zero]
theorem xor_cancel {a b c : Nat} (h : a ^^^ c = b ^^^ c) : a = b := by rw [← xor_back a c, h, xor_back]
theorem xor_cancel' {a b c : Nat} (h : c ^^^ a = c ^^^ b) : a = b := xor_cancel (c := c) (by rw [Nat.xor_comm a c, Nat.xor_comm b c]; exact h)
theorem xr_inj {a b c : Int} (ha : 0 ≤ a ∧ a < 4294967296) (hb : 0 ≤ b ∧ b < 4294967296) (hc : 0 ≤ c ∧ c < 4294967296) (h : xr a c = xr b c) : a = b := by
  obtain ⟨a, rfl⟩ := Int.eq_ofNat_of_zero_le ha.1
  obtain ⟨b, rfl⟩ := Int.eq_ofNat_of_zero_le hb.1
  obtain ⟨c, rfl⟩ := Int.eq_ofNat_of_zero_le hc.1
  rw [xr_nat _ _ (by omega) (by omega), xr_nat _ _ (by omega) (by omega)] at h
  rw [xor_cancel (Int.ofNat_inj.1 h)]
theorem xr_inj' {a b c : Int} (ha : 0 ≤ a ∧ a < 4294967296) (hb : 0 ≤ b ∧ b < 4294967296) (hc : 0 ≤ c ∧ c < 4294967296) (h : xr c a = xr c b) : a = b := by
  obtain ⟨a, rfl⟩ := Int.eq_ofNat_of_zero_le ha.1
  obtain ⟨b, rfl⟩ := Int.eq_ofNat_of_zero_le hb.1
  obtain ⟨c, rfl⟩ := Int.eq_ofNat_of_zero_le hc.1
  rw [xr_nat _ _ (by omega) (by omega), xr_nat _ _ (by omega) (by omega)] at h
  rw [xor_cancel' (Int.ofNat_inj.1 h)]
theorem shift_inj {x y k : Nat} (hk : 0 < k) (h : x ^^^ (x >>> k) = y ^^^ (y >>> k)) : x = y := by
  have e1 : x ^^^ y = (x ^^^ y) >>> k := by
    rw [Nat.shiftRight_xor_distrib]
    have h2 : x ^^^ (x >>> k) ^^^ (x >>> k) ^^^ y = y ^^^ (y >>> k) ^^^ (x >>> k) ^^^ y := by rw [h]
    rw [xor_back] at h2
    rw [h2, Nat.xor_comm (y ^^^ _ ^^^ _) y, Nat.xor_assoc y, ← Nat.xor_assoc y y, Nat.xor_self, Nat.zero_xor, Nat.xor_comm]
  rw [Nat.shiftRight_eq_div_pow] at e1
  have h0 : x ^^^ y = 0 := by
    rcases Nat.eq_zero_or_pos (x ^^^ y) with h | h
    · exact h
    · have hp : 1 < 2 ^ k := Nat.one_lt_two_pow (by omega)
      have := Nat.div_lt_self h hp
      omega
  have := xor_back x y
  rw [h0, Nat.zero_xor] at this
  exact this.symm
theorem xsh_inj {a b : Int} (k : Nat) {m : Int} (hk : 0 < k) (hm : m = ((2 ^ k : Nat) : Int)) (ha : 0 ≤ a ∧ a < 4294967296) (hb : 0 ≤ b ∧ b < 4294967296) (h : xr a (a / m) = xr b (b / m)) : a = b := by
  obtain ⟨a, rfl⟩ := Int.eq_ofNat_of_zero_le ha.1
  obtain ⟨b, rfl⟩ := Int.eq_ofNat_of_zero_le hb.1
  subst hm
  have d : ∀ n : Nat, ((n : Int) / ((2 ^ k : Nat) : Int)) = ((n / 2 ^ k : Nat) : Int) := fun n => by norm_cast
  rw [d, d] at h
  have la := Nat.div_le_self a (2 ^ k)
  have lb := Nat.div_le_self b (2 ^ k)
  rw [xr_nat _ _ (by omega) (by omega), xr_nat _ _ (by omega) (by omega)] at h
  have h' := Int.ofNat_inj.1 h
  rw [← Nat.shiftRight_eq_div_pow, ← Nat.shiftRight_eq_div_pow] at h'
  rw [shift_inj hk h']
theorem mulK_inj {a b : Int} (ha : 0 ≤ a ∧ a < 4294967296) (hb : 0 ≤ b ∧ b < 4294967296) (h : a * 16777619 % 4294967296 = b * 16777619 % 4294967296) : a = b := by
  have e : a * 16777619 - b * 16777619 = 4294967296 * (a * 16777619 / 4294967296 - b * 16777619 / 4294967296) := by
    have h1 := Int.mul_ediv_add_emod (a * 16777619) 4294967296
    have h2 := Int.mul_ediv_add_emod (b * 16777619) 4294967296
    rw [Int.mul_sub]
    generalize 4294967296 * (a * 16777619 / 4294967296) = u at *
    generalize 4294967296 * (b * 16777619 / 4294967296) = v at *
    generalize a * 16777619 % 4294967296 = c at *
    generalize a * 16777619 = d at *
    generalize b * 16777619 % 4294967296 = c' at *
    generalize b * 16777619 = d' at *
    omega
  generalize a * 16777619 / 4294967296 - b * 16777619 / 4294967296 = t at e
  rw [← Int.sub_mul] at e
  have e2 : (a - b) * 16777619 * 899433627 = 4294967296 * t * 899433627 := by rw [e]
  have e5 : (16777619 * 899433627 : Int) = 4294967296 * 3513497 + 1 := by decide
  have e3 : (a - b) * 16777619 * 899433627 = (a - b) * (4294967296 * 3513497 + 1) := by rw [Int.mul_assoc, e5]
  rw [e3, Int.mul_add, Int.mul_one] at e2
  have e4 : a - b = 4294967296 * (t * 899433627 - (a - b) * 3513497) := by
    rw [Int.mul_sub, ← Int.mul_assoc, ← e2, ← Int.mul_assoc, Int.mul_comm (a - b) 4294967296, Int.mul_assoc]
    generalize 4294967296 * ((a - b) * 3513497) = z
    omega
  generalize t * 899433627 - (a - b) * 3513497 = z at e4
  clear e e2 e3 e5 h
  omega
theorem mulF_inj {a b : Int} (ha : 0 ≤ a ∧ a < 4294967296) (hb : 0 ≤ b ∧ b < 4294967296) (h : a * 2246822507 % 4294967296 = b * 2246822507 % 4294967296) : a = b := by
  have e : a * 2246822507 - b * 2246822507 = 4294967296 * (a * 2246822507 / 4294967296 - b * 2246822507 / 4294967296) := by
    have h1 := Int.mul_ediv_add_emod (a * 2246822507) 4294967296
    have h2 := Int.mul_ediv_add_emod (b * 2246822507) 4294967296
    rw [Int.mul_sub]
    generalize 4294967296 * (a * 2246822507 / 4294967296) = u at *
    generalize 4294967296 * (b * 2246822507 / 4294967296) = v at *
    generalize a * 2246822507 % 4294967296 = c at *
    generalize a * 2246822507 = d at *
    generalize b * 2246822507 % 4294967296 = c' at *
    generalize b * 2246822507 = d' at *
    omega
  generalize a * 2246822507 / 4294967296 - b * 2246822507 / 4294967296 = t at e
  rw [← Int.sub_mul] at e
  have e2 : (a - b) * 2246822507 * 2781581891 = 4294967296 * t * 2781581891 := by rw [e]
  have e5 : (2246822507 * 2781581891 : Int) = 4294967296 * 1455126516 + 1 := by decide
  have e3 : (a - b) * 2246822507 * 2781581891 = (a - b) * (4294967296 * 1455126516 + 1) := by rw [Int.mul_assoc, e5]
  rw [e3, Int.mul_add, Int.mul_one] at e2
  have e4 : a - b = 4294967296 * (t * 2781581891 - (a - b) * 1455126516) := by
    rw [Int.mul_sub, ← Int.mul_assoc, ← e2, ← Int.mul_assoc, Int.mul_comm (a - b) 4294967296, Int.mul_assoc]
    generalize 4294967296 * ((a - b) * 1455126516) = z
    omega
  generalize t * 2781581891 - (a - b) * 1455126516 = z at e4
  clear e e2 e3 e5 h
  omega
theorem sumS_inj {a b x : Int} (ha : 0 ≤ a ∧ a < 4294967296) (hb : 0 ≤ b ∧ b < 4294967296) (h : sumS a x = sumS b x) : a = b := by
  unfold sumS at h
  exact xr_inj ha hb ⟨Int.emod_nonneg _ (by decide), Int.emod_lt_of_pos _ (by decide)⟩ (mulK_inj (xr_lo a (x % 4294967296)) (xr_lo b (x % 4294967296)) h)
theorem sumS_inj' {a x y : Int} (ha : 0 ≤ a ∧ a < 4294967296) (hx : 0 ≤ x ∧ x < 256) (hy : 0 ≤ y ∧ y < 256) (h : sumS a x = sumS a y) : x = y := by
  unfold sumS at h
  have := xr_inj' ⟨Int.emod_nonneg _ (by decide), Int.emod_lt_of_pos _ (by decide)⟩ ⟨Int.emod_nonneg _ (by decide), Int.emod_lt_of_pos _ (by decide)⟩ ha (mulK_inj (xr_lo a (x % 4294967296)) (xr_lo a (y % 4294967296)) h)
  omega
theorem fold_inj {l : List Int} : ∀ {a b : Int}, 0 ≤ a ∧ a < 4294967296 → 0 ≤ b ∧ b < 4294967296 → l.foldl sumS a = l.foldl sumS b → a = b := by
  induction l with
  | nil => intro a b _ _ h; exact h
  | cons x l ih => intro a b ha hb h; exact sumS_inj ha hb (ih (sumS_lo a x) (sumS_lo b x) h)
theorem fold_lo (l : List Int) : ∀ {a : Int}, 0 ≤ a ∧ a < 4294967296 → 0 ≤ l.foldl sumS a ∧ l.foldl sumS a < 4294967296 := by
  induction l with
  | nil => intro a h; exact h
  | cons x l ih => intro a h; exact ih (sumS_lo a x)
theorem sumTo_set {p q : List Int} {x y : Int} (hx : 0 ≤ x ∧ x < 256) (hy : 0 ≤ y ∧ y < 256) (h : sumTo (p ++ x :: q) = sumTo (p ++ y :: q)) : x = y := by
  unfold sumTo at h
  rw [List.foldl_append, List.foldl_append, List.foldl_cons, List.foldl_cons] at h
  exact sumS_inj' (fold_lo p (by decide)) hx hy (fold_inj (sumS_lo _ _) (sumS_lo _ _) h)
theorem sumMid_inj {a b : Int} (ha : 0 ≤ a ∧ a < 4294967296) (hb : 0 ≤ b ∧ b < 4294967296) (h : sumMid a = sumMid b) : a = b := by
  unfold sumMid at h
  exact xsh_inj 15 (m := 32768) (by omega) (by decide) ha hb (mulF_inj (xr_lo a (a / 32768)) (xr_lo b (b / 32768)) h)
theorem sumL_inj {l m : List Int} (h : sumL l = sumL m) : sumTo l = sumTo m := by
  have lo : ∀ x, 0 ≤ sumMid x ∧ sumMid x < 4294967296 := fun x => ⟨Int.emod_nonneg _ (by decide), Int.emod_lt_of_pos _ (by decide)⟩
  exact sumMid_inj (fold_lo l (by decide)) (fold_lo m (by decide)) (xsh_inj 13 (m := 8192) (by omega) (by decide) (lo _) (lo _) h)
theorem be4_inj {s t : Int} (h : be4 s = be4 t) : s = t := by
  unfold be4 at h
  simp only [List.cons.injEq, and_true] at h
  omega
/-! ### one byte changed -/
theorem set_parts {l : List Int} {i : Nat} (hi : i < l.length) (y : Int) : l = l.take i ++ l.getD i 0 :: l.drop (i + 1) ∧ l.set i y = l.take i ++ y :: l.drop (i + 1) := by
  constructor
  · rw [List.getD_eq_getElem?_getD, List.getElem?_eq_getElem hi]
    simp
  · rw [List.set_eq_take_append_cons_drop, if_pos hi]
theorem flip_bad {body : List Int} (hl : body.length ≤ 123) (h8 : Bytes8 (sealL 82 body)) {i : Nat} (hi : i < 128) {y : Int} (hy : 0 ≤ y ∧ y < 256) (hne : y ≠ (sealL 82 body).getD i 0) : ¬ goodR ((sealL 82 body).set i y) := by
  rintro ⟨hk, -⟩
  obtain ⟨L, hL⟩ : ∃ L, (sealL 82 body).set i y = L := ⟨_, rfl⟩
  rw [hL] at hk
  have hs : sealL 82 (bodyOf L) = L := by
    unfold kindL at hk
    split at hk
    · rename_i h
      rw [hk] at h
      exact h.2.2
    · cases hk
  have hM : (bodyOf L).length ≤ 123 := by unfold bodyOf; rw [List.length_take]; omega
  have hB := bodyL_len 82 body hl
  have hB' := bodyL_len 82 _ hM
  have h8i : 0 ≤ (sealL 82 body).getD i 0 ∧ (sealL 82 body).getD i 0 < 256 := by
    have : i < (sealL 82 body).length := by rw [sealL_len 82 body hl]; exact hi
    have := h8 ((sealL 82 body).getD i 0) (by rw [List.getD_eq_getElem?_getD, List.getElem?_eq_getElem this]; exact List.getElem_mem this)
    omega
  rw [← hs] at hL
  unfold sealL at hL h8i hne
  obtain ⟨B, hBe⟩ : ∃ B, bodyL 82 body = B := ⟨_, rfl⟩
  obtain ⟨C, hCe⟩ : ∃ C, bodyL 82 (bodyOf L) = C := ⟨_, rfl⟩
  rw [hBe] at hL h8i hne hB
  rw [hCe] at hL hB'
  by_cases h : i < 124
  · rw [List.set_append_left _ _ (by omega)] at hL
    obtain ⟨e1, e2⟩ := List.append_inj hL (by rw [List.length_set]; omega)
    have e3 := sumL_inj (be4_inj e2)
    rw [← e1] at e3
    have hg : (B ++ be4 (sumL B)).getD i 0 = B.getD i 0 := by rw [List.getD_eq_getElem?_getD, List.getD_eq_getElem?_getD, List.getElem?_append_left (by omega)]
    rw [hg] at hne h8i
    obtain ⟨p1, p2⟩ := set_parts (l := B) (i := i) (by omega) y
    rw [p2] at e3
    exact hne (sumTo_set (p := B.take i) (q := B.drop (i + 1)) (x := B.getD i 0) (y := y) h8i hy ((congrArg sumTo p1).symm.trans e3)).symm
  · rw [List.set_append_right _ _ (by omega)] at hL
    obtain ⟨e1, e2⟩ := List.append_inj hL (by omega)
    rw [← e1] at e2
    have hb4 : (be4 (sumL B)).length = 4 := rfl
    have hg : (B ++ be4 (sumL B)).getD i 0 = (be4 (sumL B)).getD (i - B.length) 0 := by rw [List.getD_eq_getElem?_getD, List.getD_eq_getElem?_getD, List.getElem?_append_right (by omega)]
    have e3 : ((be4 (sumL B)).set (i - B.length) y).getD (i - B.length) 0 = y := by rw [List.getD_eq_getElem?_getD, List.getElem?_set_self (by omega)]; rfl
    rw [e2] at e3
    exact hne (hg ▸ e3.symm)
theorem lay_alike {r s : Rcd} (hr : mayR r = true) (hs : mayR s = true) : decide (sealL 82 (bodyRL r) = sealL 82 (bodyRL s)) = eqRB r s := by
  cases h : eqRB r s
  · rw [decide_eq_false_iff_not]
    intro e
    have e1 := (rback hr).2
    rw [e, (rback hs).2] at e1
    rw [eqRB_iff.2 e1.symm] at h
    cases h
  · rw [eqRB_iff.1 h]; simp
theorem may_off (fr td ino old : Int) (fn tn : ByteArray) : mayR ⟨false, fr, td, ino, old, fn, tn⟩ = eqRB ⟨false, fr, td, ino, old, fn, tn⟩ Rcd.zero := by
  unfold mayR
  cases eqRB ⟨false, fr, td, ino, old, fn, tn⟩ Rcd.zero <;> simp [restB]
end Go.Proofs.Ytcjackjoonijnaa
