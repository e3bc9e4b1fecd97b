/-
  The small functions that the statements share, walked: each computes what is said here.
-/
import Derived.Test.YtcjackjoonijnaaRows
import Derived.Test.YtcjackjoonijnaaBase
namespace Go.Proofs.Ytcjackjoonijnaa
open Go.RowKit

theorem info_u8 : (Try.prog.info? 5).map (fun i => (i.zero, i.size, i.bytes)) = some (some (.int .u8 0), 1, 1) := by kernel_rfl
theorem info_int : (Try.prog.info? 3).map (fun i => (i.zero, i.size, i.bytes)) = some (some (.int .i64 0), 1, 8) := by kernel_rfl

def lowI (x n : Int) : Int := (x % 18446744073709551616) % n
theorem lowI_nn (x n : Int) (h : 1 ≤ n) : 0 ≤ lowI x n := Int.emod_nonneg _ (by omega)
theorem lowI_lt (x n : Int) (h : 1 ≤ n) : lowI x n < n := Int.emod_lt_of_pos _ (by omega)

theorem Low_calls (x n : Int) (w : World) (h0 : 1 ≤ n) (h1 : n ≤ 1000000000) :
    Calls Try.prog 20 #[.int .i64 x, .int .i64 n] w fun e w' => e = .returned (.int .i64 (lowI x n)) ∧ w = w' := by
  have hn : (IntKind.u64.wrap n) = n := by rw [IntKind.wrap_u64]; omega
  have hx : (IntKind.u64.wrap x) = x % 18446744073709551616 := IntKind.wrap_u64 x
  have g1 := lowI_nn x n h0
  have g2 := lowI_lt x n h0
  go_enter Try.func20, Try.ntmps20
  go_wp2
  go_ret
  exact ⟨ret_int (by unfold lowI at *; exact IntWalk.wrap64_in _ (by omega)), rfl⟩
theorem same_no {l1 l2 : List Int} {n k : Nat} (e1 : l1.length = n) (e2 : l2.length = n) (hk : k < n) (h : (l1[k]?.getD 0 != l2[k]?.getD 0) = true) : false = decide (l1 = l2) := by
  simp only [Bool.false_eq, decide_eq_false_iff_not]
  rintro rfl
  simp at h
theorem same_step {l1 l2 : List Int} {n k : Nat} (e1 : l1.length = n) (e2 : l2.length = n) (hk : k < n) (ht : l1.take k = l2.take k) (h : (l1[k]?.getD 0 != l2[k]?.getD 0) = false) : l1.take (k + 1) = l2.take (k + 1) := by
  have h1 : k < l1.length := by omega
  have h2 : k < l2.length := by omega
  rw [List.take_succ_eq_append_getElem h1, List.take_succ_eq_append_getElem h2, ht]
  simp [List.getElem?_eq_getElem h1, List.getElem?_eq_getElem h2] at h
  rw [h]
theorem same_yes {l1 l2 : List Int} {n k : Nat} (e1 : l1.length = n) (e2 : l2.length = n) (hk : n ≤ k) (ht : l1.take k = l2.take k) : true = decide (l1 = l2) := by
  rw [List.take_of_length_le (by omega), List.take_of_length_le (by omega)] at ht
  simp [ht]

set_option maxHeartbeats 400000 in
theorem SameBytes_calls (w : World) {A1 A2 : Option Addr} {n1 n2 c1 c2 : Nat} {l1 l2 : List Int} (h1 : Rd w 1 A1 n1 (iv .u8 l1)) (h2 : Rd w 1 A2 n2 (iv .u8 l2)) :
    Calls Try.prog 15 #[.slice A1 n1 c1, .slice A2 n2 c2] w fun e w' => e = .returned (.bool (decide (l1 = l2))) ∧ Drawn w w' := by
  have hn1 := h1.le
  have hn2 := h2.le
  have e1 := h1.len
  have e2 := h2.len
  by_cases hne : n1 = n2
  · subst hne
    have E1 := Lib.hid e1; clear e1
    have E2 := Lib.hid e2; clear e2
    go_enter Try.func15, Try.ntmps15
    go_wp2
    go_loopw [5] (fun i wr => ∃ k : Nat, k ≤ n1 ∧ i = .int .i64 k ∧ Hid (l1.take k = l2.take k) ∧ Drawn w wr) (fun i _ => n1 - (intOf i).toNat)
    case atStart => exact ⟨0, Nat.zero_le _, rfl, rfl, Drawn.refl _⟩
    case round =>
      obtain ⟨k, hk, rfl, HT, hd⟩ := hrel
      have h1 := h1.fresh hd.fresh
      have h2 := h2.fresh hd.fresh
      by_cases hlt : k < n1
      · obtain ⟨a1, rfl, hc1⟩ := h1.int hlt
        obtain ⟨a2, rfl, hc2⟩ := h2.int hlt
        have hi0 : (0 : Int) ≤ (k : Int) := Int.natCast_nonneg _
        have hi1 : (k : Int) < (n1 : Int) := by omega
        go_wp2
        go_quiet (fail)
        go_wp2
        · go_ret
          exact ⟨ret_bool (same_no E1.out E2.out hlt (by assumption)), hd.step _⟩
        · go_roundw
          case rel => exact ⟨k + 1, by omega, by go_num, same_step E1.out E2.out hlt HT.out (by assumption), hd.step _⟩
          case measure => simp [intOf]; omega
      · go_wp2
        go_ret
        exact ⟨ret_bool (same_yes E1.out E2.out (by omega) HT.out), hd⟩
  · have hb : ((n1 : Int) == (n2 : Int)) = false := by simp; omega
    have hb' : ((n1 : Int) != (n2 : Int)) = true := by simp; omega
    go_enter Try.func15, Try.ntmps15
    go_wp2
    go_ret
    exact ⟨ret_bool (by simp only [Bool.false_eq, decide_eq_false_iff_not]; rintro rfl; exact hne (e1.symm.trans e2)), Drawn.refl _⟩
/-! ### lists of byte slices -/
def RdB (w : World) (v : Value) (l : List Int) : Prop := ∃ A n c, v = .slice A n c ∧ n ≤ c ∧ Rd w 1 A n (iv .u8 l)
def RdL (w : World) (n : Nat) (vs : List Value) (ls : List (List Int)) : Prop := vs.length = n ∧ ls.length = n ∧ ∀ i, i < n → RdB w (vs.getD i undef) (ls.getD i [])

theorem RdB.fresh {w w' : World} {v : Value} {l : List Int} (h : RdB w v l) (hk : Fresh w w') : RdB w' v l := by
  obtain ⟨A, n, c, e, hc, h⟩ := h
  exact ⟨A, n, c, e, hc, h.fresh hk⟩
theorem RdB.keep {S : Nat → Prop} {w w' : World} {v : Value} {l : List Int} (h : RdB w v l) (hk : Keep S w w') (hS : ∀ k, v.ownBlock = some k → ¬ S k) : RdB w' v l := by
  obtain ⟨A, n, c, rfl, hc, h⟩ := h
  exact ⟨A, n, c, rfl, hc, h.keep hk (fun ad e => hS _ (by subst e; rfl))⟩
theorem RdL.fresh {w w' : World} {n : Nat} {vs : List Value} {ls : List (List Int)} (h : RdL w n vs ls) (hk : Fresh w w') : RdL w' n vs ls :=
  ⟨h.1, h.2.1, fun i hi => (h.2.2 i hi).fresh hk⟩
theorem same_no' {l1 l2 : List (List Int)} {k : Nat} (h : (!decide (l1[k]?.getD [] = l2[k]?.getD [])) = true) : false = decide (l1 = l2) := by
  simp only [Bool.false_eq, decide_eq_false_iff_not, Bool.not_eq_true'] at *
  rintro rfl
  exact h rfl
theorem same_step' {l1 l2 : List (List Int)} {n k : Nat} (e1 : l1.length = n) (e2 : l2.length = n) (hk : k < n) (ht : l1.take k = l2.take k) (h : (!decide (l1[k]?.getD [] = l2[k]?.getD [])) = false) : l1.take (k + 1) = l2.take (k + 1) := by
  have h1 : k < l1.length := by omega
  have h2 : k < l2.length := by omega
  rw [List.take_succ_eq_append_getElem h1, List.take_succ_eq_append_getElem h2, ht]
  simp [List.getElem?_eq_getElem h1, List.getElem?_eq_getElem h2] at h
  rw [h]
theorem same_yes' {l1 l2 : List (List Int)} {n k : Nat} (e1 : l1.length = n) (e2 : l2.length = n) (hk : n ≤ k) (ht : l1.take k = l2.take k) : true = decide (l1 = l2) := by
  rw [List.take_of_length_le (by omega), List.take_of_length_le (by omega)] at ht
  simp [ht]
/-! ### slices.Clone -/
def FreshV (w : World) (v : Value) : Prop := ∀ k, v.ownBlock = some k → w.heap.size ≤ k

theorem app_u8 {ops : Array Oper} {rest : List Oper} {o : Oper} {a : Act} {Q : Exit → Act → World → Prop} {w : World} (hgd : o.guard = none) (s x : Operand)
    (ho : o.op = .call { callee := .builtin .append, args := #[s, x], argTypes := #[24, 24] })
    {v : Value} {n : Nat} {l : List Int} (hown : Own w 5 1 v n (iv .u8 l)) (hs : a.eval s = v)
    {A : Option Addr} {m c : Nat} {news : List Int} (hr : Rd w 1 A m (iv .u8 news)) (hx : a.eval x = .slice A m c) (hb : n + m ≤ 140737488355328)
    (h : ∀ v' w', Own w' 5 1 v' (n + m) (iv .u8 (l ++ news)) → w.grownBy w' v.ownBlock → (v'.ownBlock = v.ownBlock ∨ v'.ownBlock = some w.heap.size) → wpList Try.prog ops Q rest (a.put o.dst v') w') : wpList Try.prog ops Q (o :: rest) a w :=
  wpList_app w hgd s x 24 ho 5 _ 1 1 Try.underlying24 info_u8 rfl (by decide) hown hs hr hx (iv_one _ _) (by omega) (by omega) fun v' w' h2 h3 h4 => h v' w' (by simpa [iv] using h2) h3 h4
theorem app_int {ops : Array Oper} {rest : List Oper} {o : Oper} {a : Act} {Q : Exit → Act → World → Prop} {w : World} (hgd : o.guard = none) (s x : Operand)
    (ho : o.op = .call { callee := .builtin .append, args := #[s, x], argTypes := #[50, 50] })
    {v : Value} {n : Nat} {l : List Int} (hown : Own w 3 1 v n (iv .i64 l)) (hs : a.eval s = v)
    {A : Option Addr} {m c : Nat} {news : List Int} (hr : Rd w 1 A m (iv .i64 news)) (hx : a.eval x = .slice A m c) (hb : n + m ≤ 17592186044416)
    (h : ∀ v' w', Own w' 3 1 v' (n + m) (iv .i64 (l ++ news)) → w.grownBy w' v.ownBlock → (v'.ownBlock = v.ownBlock ∨ v'.ownBlock = some w.heap.size) → wpList Try.prog ops Q rest (a.put o.dst v') w') : wpList Try.prog ops Q (o :: rest) a w :=
  wpList_app w hgd s x 50 ho 3 _ 1 8 Try.underlying50 info_int rfl (by decide) hown hs hr hx (iv_one _ _) (by omega) (by omega) fun v' w' h2 h3 h4 => h v' w' (by simpa [iv] using h2) h3 h4
/-- What a fresh row of the call's own is for the caller. -/
def NewB (w w' : World) (e : TypeId) (ki : IntKind) (v : Value) (n : Nat) (l : List Int) : Prop := Own w' e 1 v n (iv ki l) ∧ Fresh w w' ∧ FreshV w v
def Ret (v : Value) (e : Ending) : Prop := e = .returned v


theorem newB_app {w W w1 : World} {e : TypeId} {ki : IntKind} {v0 v1 : Value} {n : Nat} {l : List Int} (hW : Fresh w W) (h0 : FreshV w v0) (ho1 : Own w1 e 1 v1 n (iv ki l)) (hg1 : W.grownBy w1 v0.ownBlock)
    (hb1 : v1.ownBlock = v0.ownBlock ∨ v1.ownBlock = some W.heap.size) : NewB w w1 e ki v1 n l :=
  ⟨ho1, hW.grown hg1 (fun k hk hlt => by have := h0 k hk; omega), fun k hk => by
    rcases hb1 with hb1 | hb1
    · exact h0 k (hb1 ▸ hk)
    · have := hW.size
      rw [hb1] at hk
      injection hk with hk
      omega⟩
theorem freshV_new (w : World) (i : Nat) (s : Option Nat) (n c : Nat) : FreshV w (.slice (some ⟨w.heap.size, i, s⟩) n c) := fun k hk => by
  have : w.heap.size = k := by simpa [Value.ownBlock] using hk
  omega
theorem freshV_none (w : World) (n c : Nat) : FreshV w (.slice none n c) := fun k hk => by simp [Value.ownBlock] at hk
theorem Rd.nil_zero {w : World} {size n : Nat} {xs : List Value} (h : Rd w size none n xs) : n = 0 := by
  rcases Nat.eq_zero_or_pos n with h0 | h0
  · exact h0
  · obtain ⟨ad, h, _⟩ := h.2.2 h0; cases h
theorem Rd.zero_nil {w : World} {A : Option Addr} {ki : IntKind} {l : List Int} (h : Rd w 1 A 0 (iv ki l)) : l = [] := List.eq_nil_of_length_eq_zero h.len

set_option maxHeartbeats 400000 in
theorem CloneB_calls (w : World) {A : Option Addr} {n c : Nat} {l : List Int} (h1 : Rd w 1 A n (iv .u8 l)) (hn : n ≤ 140737488355328) :
    Calls Try.prog 49 #[.slice A n c] w fun e w' => ∃ v, e = .returned v ∧ NewB w w' 5 .u8 v n l := by
  rcases A with _ | ad
  · have h0 := h1.nil_zero
    subst h0
    obtain rfl := h1.zero_nil
    have hq := fun (w : World) (a : Option Addr) (n c : Nat) => Lib.run_eql_slice_nil (P := Try.prog) w 24 5 a n c 0 0 Try.underlying24
    go_enter Try.func49, Try.ntmps49
    go_wp2
    go_ret
    exact ⟨_, rfl, Own.nil _ _ _, Keep.refl _ _, freshV_none _ _ _⟩
  · have hq := fun (w : World) (a : Option Addr) (n c : Nat) => Lib.run_eql_slice_nil (P := Try.prog) w 24 5 a n c 0 0 Try.underlying24
    go_enter Try.func49, Try.ntmps49
    go_wp2_with (first | (at_builtin; refine app_u8 (l := []) rfl _ _ rfl (World.ownsRow_made w #[] 0 (Nat.zero_le _) (by simp [maxLen]) (by simp)) rfl (h1.alloc _) rfl (by omega) ?_; intro v1 w1 ho1 hg1 hb1))
    go_ret
    simp only [Nat.zero_add, List.nil_append] at ho1
    exact ⟨v1, rfl, newB_app ((Keep.refl _ w).alloc _) (freshV_new _ _ _ _ _) ho1 hg1 hb1⟩
end Go.Proofs.Ytcjackjoonijnaa
