/-
  Sealed sectors opened, in both texts.
-/
import Derived.Test.YtcjackjoonijnaaSeal3
namespace Go.Proofs.Ytcjackjoonijnaa
open Go.RowKit
/-- Bytes of one's own, copied behind nil. -/
theorem app_clone {ops : Array Oper} {rest : List Oper} {o : Oper} {a : Act} {Q : Exit → Act → World → Prop} {w : World} (hgd : o.guard = none) (x : Operand)
    (ho : o.op = .call { callee := .builtin .append, args := #[.const (.slice none 0 0), x], argTypes := #[24, 24] })
    {A : Option Addr} {m c : Nat} {l : List Int} (hr : Rd w 1 A m (iv .u8 l)) (hx : a.eval x = .slice A m c) (hb : m ≤ 140737488355328)
    (h : ∀ A' c' w', NewB w w' 5 .u8 (.slice A' m c') m l → wpList Try.prog ops Q rest (a.put o.dst (.slice A' m c')) w') : wpList Try.prog ops Q (o :: rest) a w :=
  app_u8 (l := []) hgd _ x ho (Own.nil _ _ _) rfl hr hx (by omega) fun v' w' ho' hg hb' => by
    simp only [Nat.zero_add, List.nil_append] at ho'
    obtain ⟨A', c', rfl⟩ := ho'.shape
    exact h A' c' w' (newB_app (Keep.refl _ w) (freshV_none _ _ _) ho' hg hb')

theorem kindL_len {l : List Int} {k : Int} (h : kindL l = k) (hk : k ≠ 0) : l.length = 128 := by
  unfold kindL at h
  split at h
  · rename_i hh; exact hh.1
  · exact absurd h.symm hk

set_option maxRecDepth 100000 in
set_option maxHeartbeats 1000000 in
theorem Open_yes (w : World) (k : Int) {A : Option Addr} {n c : Nat} {l : List Int} (hr : Rd w 1 A n (iv .u8 l)) (hc : n ≤ c) (hk : k ≠ 0) (he : kindL l = k) :
    Calls Try.prog 39 #[.int .u8 k, .slice A n c] w fun e w' => ∃ v, e = .returned (.tuple #[v, .int .i64 0]) ∧ NewB w w' 5 .u8 v 123 (bodyOf l) := by
  have hl := hr.len
  obtain rfl : n = 128 := by have := kindL_len he hk; omega
  obtain ⟨ad, rfl, h0⟩ := hr.int (k := 0) (by omega)
  have hm := hr.mid hc
  have hb : (k == 0) = false := by rw [beq_eq_false_iff_ne]; exact hk
  have hc1 : (124 : Int) ≤ (c : Int) := by omega
  have hc2 : ¬ c = 1 := by omega
  have HE := Lib.hid he; clear he
  have HL := Lib.hid hl; clear hl
  clear h0
  go_enter Try.func39, Try.ntmps39
  go_wp2_with (first | (go_at_call 48; refine (Kind_calls _ hr hc).mono ?_; rintro e w2 ⟨rfl, k2⟩; rw [HE.out]; have hm2 := hm.fresh k2) | (go_at_call 49; refine (CloneB_calls _ hm2 (by omega)).mono ?_; rintro e w3 ⟨v3, rfl, hn3⟩))
  go_ret2
  exact ⟨_, rfl, hn3.1, k2.trans hn3.2.1 (fun _ _ f => f), fun j hj => Nat.le_trans k2.size (hn3.2.2 j hj)⟩
set_option maxRecDepth 100000 in
set_option maxHeartbeats 1000000 in
theorem Open_no (w : World) (k : Int) {A : Option Addr} {n c : Nat} {l : List Int} (hr : Rd w 1 A n (iv .u8 l)) (hc : n ≤ c) (hk : k ≠ 0) (he : kindL l ≠ k) :
    Calls Try.prog 39 #[.int .u8 k, .slice A n c] w fun e w' => e = .returned (.tuple #[.slice none 0 0, .int .i64 3]) ∧ Fresh w w' := by
  have hb : (k == 0) = false := by rw [beq_eq_false_iff_ne]; exact hk
  obtain ⟨q, hq⟩ : ∃ q, kindL l = q := ⟨_, rfl⟩
  rw [hq] at he
  have hb2 : (q != k) = true := by rw [bne_iff_ne]; exact he
  have HQ := Lib.hid hq; clear hq
  have HE := Lib.hid he; clear he
  go_enter Try.func39, Try.ntmps39
  go_wp2_with (first | (go_at_call 48; refine (Kind_calls _ hr hc).mono ?_; rintro e w2 ⟨rfl, k2⟩; rw [HQ.out]))
  go_ret2
  exact ⟨rfl, k2⟩

set_option maxRecDepth 100000 in
set_option maxHeartbeats 1000000 in
theorem ROpen_yes (w : World) (k : Int) {A : Option Addr} {n c : Nat} {l : List Int} (hr : Rd w 1 A n (iv .u8 l)) (hc : n ≤ c) (hb8 : Bytes8 l) (hk : k ≠ 0) (he : kindL l = k) :
    Calls Try.prog 43 #[.int .u8 k, .slice A n c] w fun e w' => ∃ v, e = .returned (.tuple #[v, .int .i64 0]) ∧ NewB w w' 5 .u8 v 123 (bodyOf l) := by
  have hl := hr.len
  obtain rfl : n = 128 := by have := kindL_len he hk; omega
  obtain ⟨ad, rfl, h0⟩ := hr.int (k := 0) (by omega)
  have hm := hr.mid hc
  have hb : (k == 0) = false := by rw [beq_eq_false_iff_ne]; exact hk
  have hc1 : (124 : Int) ≤ (c : Int) := by omega
  have hc2 : ¬ c = 1 := by omega
  have HE := Lib.hid he; clear he
  have HL := Lib.hid hl; clear hl
  clear h0
  go_enter Try.func43, Try.ntmps43
  go_wp2_with (first | (go_at_call 50; refine (RKind_calls _ hr hc hb8).mono ?_; rintro e w2 ⟨rfl, k2⟩; rw [HE.out]; have hm2 := hm.fresh k2) | (refine app_clone rfl (.tmp 15) rfl hm2 rfl (by omega) ?_; intro A3 c3 w3 hn3))
  go_ret2
  exact ⟨_, rfl, hn3.1, k2.trans hn3.2.1 (fun _ _ f => f), fun j hj => Nat.le_trans k2.size (hn3.2.2 j hj)⟩
set_option maxRecDepth 100000 in
set_option maxHeartbeats 1000000 in
theorem ROpen_no (w : World) (k : Int) {A : Option Addr} {n c : Nat} {l : List Int} (hr : Rd w 1 A n (iv .u8 l)) (hc : n ≤ c) (hb8 : Bytes8 l) (hk : k ≠ 0) (he : kindL l ≠ k) :
    Calls Try.prog 43 #[.int .u8 k, .slice A n c] w fun e w' => e = .returned (.tuple #[.slice none 0 0, .int .i64 3]) ∧ Fresh w w' := by
  have hb : (k == 0) = false := by rw [beq_eq_false_iff_ne]; exact hk
  obtain ⟨q, hq⟩ : ∃ q, kindL l = q := ⟨_, rfl⟩
  rw [hq] at he
  have hb2 : (q != k) = true := by rw [bne_iff_ne]; exact he
  have HQ := Lib.hid hq; clear hq
  have HE := Lib.hid he; clear he
  go_enter Try.func43, Try.ntmps43
  go_wp2_with (first | (go_at_call 50; refine (RKind_calls _ hr hc hb8).mono ?_; rintro e w2 ⟨rfl, k2⟩; rw [HQ.out]))
  go_ret2
  exact ⟨rfl, k2⟩
end Go.Proofs.Ytcjackjoonijnaa
