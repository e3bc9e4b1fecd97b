/-
  Bytes lent with marked room behind them, and looked at again: walked.
-/
import Derived.Laws.CopyOwn
import Derived.Test.YtcjackjoonijnaaLeaf2
namespace Go.Proofs.Ytcjackjoonijnaa
open Go.RowKit

theorem Own.fewer {w : World} {e : TypeId} {g n N c : Nat} {xs : List Value} (h : Own w e 1 (.slice (some ⟨g, 0, none⟩) N c) N xs) (hn : n ≤ N) : Own w e 1 (.slice (some ⟨g, 0, none⟩) n c) n (xs.take n) := by
  have hl := h.1
  rcases h.2 with ⟨e1, _⟩ | ⟨g', cap, cur, e1, hb, hg, h1, h2, h3, h4⟩
  · cases e1
  · cases e1
    exact ⟨by rw [List.length_take]; omega, .inr ⟨g, c, cur, rfl, hb, hg, by omega, h2, h3, by rw [← h4, List.take_take, Nat.min_eq_left (by omega), Nat.mul_one]⟩⟩
theorem splice_cons {α : Type} (xs : List α) (o : Nat) (v : α) (r : List α) (h : o + (r.length + 1) ≤ xs.length) : splice (xs.set o v) (o + 1) r = splice xs o (v :: r) := by
  have hlt : o < xs.length := by omega
  unfold splice
  rw [List.take_succ_eq_append_getElem (by simpa using hlt), List.take_set_of_le (Nat.le_refl _), List.getElem_set_self, List.drop_set_of_lt (by omega), List.length_cons, show o + 1 + r.length = o + (r.length + 1) from by omega]
  simp
theorem Own.setCells {e : TypeId} {g N c : Nat} : ∀ (vs : List Value) (o : Nat) {w : World} {xs : List Value}, Own w e 1 (.slice (some ⟨g, 0, none⟩) N c) N xs → o + vs.length ≤ N → Own (w.setCells g o vs) e 1 (.slice (some ⟨g, 0, none⟩) N c) N (splice xs o vs) ∧ Keep (fun b => b = g) w (w.setCells g o vs) := by
  intro vs
  induction vs with
  | nil => intro o w xs h _; exact ⟨by simpa [splice, World.setCells] using h, Keep.refl _ _⟩
  | cons v r ih =>
    intro o w xs h hl
    simp only [List.length_cons] at hl
    have h1 : Own (w.setCell ⟨g, o, none⟩ v) e 1 (.slice (some ⟨g, 0, none⟩) N c) N (xs.set o v) := by simpa using (h.stored o v).1
    obtain ⟨q1, q2⟩ := ih (o + 1) h1 (by omega)
    have hx := h.1
    rw [splice_cons xs o v r (by omega)] at q1
    exact ⟨q1, ((Keep.refl (fun b => b = g) w).setCell (p := ⟨g, o, none⟩) (fun _ => rfl) v).trans q2 (fun _ _ e => e)⟩

/-- An append that has room, into a row that is known whole. -/
theorem wpList_room {w : World} {ops : Array Oper} {rest : List Oper} {o : Oper} {a : Act} {Q : Exit → Act → World → Prop} (hgd : o.guard = none) (s x : Operand) (t : TypeId)
    (ho : o.op = .call { callee := .builtin .append, args := #[s, x], argTypes := #[t, t] }) (e : TypeId) {z : Value} {bytes : Nat} (ht : Try.prog.underlying t = some (.slice e)) (hinfo : (Try.prog.info? e).map (fun i => (i.zero, i.size, i.bytes)) = some (some z, 1, bytes))
    {g k N : Nat} {xs : List Value} (h : Own w e 1 (.slice (some ⟨g, 0, none⟩) N N) N xs) (hs : a.eval s = .slice (some ⟨g, 0, none⟩) k N) {A : Option Addr} {m c : Nat} {news : List Value} (hr : Rd w 1 A m news) (hx : a.eval x = .slice A m c) (h1 : ∀ u ∈ news, u.oneCell' = true) (hkm : k + m ≤ N)
    (hK : ∀ w', Hid (Own w' e 1 (.slice (some ⟨g, 0, none⟩) N N) N (splice xs k news)) → Keep (fun b => b = g) w w' → wpList Try.prog ops Q rest (a.put o.dst (.slice (some ⟨g, 0, none⟩) (k + m) N)) w') : wpList Try.prog ops Q (o :: rest) a w := by
  obtain ⟨i, hi, hz, hsz, hb⟩ := info_parts hinfo
  have hnl : news.length = m := by have := hr.1; omega
  have hxl : xs.length = N := by have := h.1; omega
  rcases A with _ | ad
  · obtain rfl := hr.nil_zero
    obtain rfl : news = [] := List.eq_nil_of_length_eq_zero hnl
    have hrun := run_append_of_nil (P := Try.prog) w t o.type e i 1 ht hi (.slice (some ⟨g, 0, none⟩) k N) k _ (h.fewer (show k ≤ N by omega)) c
    refine wpList_plain hgd fun K hK' => ?_
    unfold Oper.wp
    simp [execOp, ho, resolve, invoke, builtin, hs, hx, hrun, Result.andThen]
    exact hK' _ _ (by simpa using hK w (show Own _ _ _ _ _ _ by simpa [splice] using h) (Keep.refl _ _))
  · have hc : ∀ j u, news[j]? = some u → w.cell? (ad.add j) = some u := fun j u hu => by
      obtain ⟨ad', e1, hc⟩ := hr.2.2 (by have := (List.getElem?_eq_some_iff.1 hu).1; omega)
      cases e1
      exact hc j u hu
    have hrun := run_append_room_cells (P := Try.prog) w t o.type e i ht hi g 0 k N ad m c news (by rw [hsz, hnl, Nat.mul_one]) hc h1 hkm
      (fun j hj => by
        rw [hsz, Nat.mul_one, Nat.zero_add, h.cellAt (k + j) (by omega)]
        rw [List.getElem?_eq_getElem (by omega)]
        rfl)
      (fun j hj => by rw [hsz, Nat.mul_one, Nat.zero_add]; exact h.frozenAt (k + j))
    rw [hsz, Nat.mul_one, Nat.zero_add] at hrun
    obtain ⟨q1, q2⟩ := Own.setCells news k h (by omega)
    refine wpList_plain hgd fun K hK' => ?_
    unfold Oper.wp
    simp [execOp, ho, resolve, invoke, builtin, hs, hx, hrun, Result.andThen]
    exact hK' _ _ (hK _ q1 q2)

theorem make_room (n : Nat) (hn : n ≤ 1000000) (w : World) : (Instr.makeSlice 24 (.int .i64 0) (.int .i64 ((n : Int) + 3))).run Try.prog w = .ok (.slice (some ⟨w.heap.size, 0, none⟩) 0 (n + 3)) (w.alloc (.cells (madeCells #[.int .u8 0] (n + 3)) 5)) := by
  obtain ⟨i, hi, hz, hs, hb⟩ := info_parts info_u8
  have := run_make (P := Try.prog) w 24 5 i (.int .u8 0) Try.underlying24 hi hz .i64 .i64 0 ((n : Int) + 3) (by omega) (by omega) (by rw [hb]; omega) (by omega)
  rw [hs, show ((n : Int) + 3).toNat = n + 3 from by omega, Nat.mul_one] at this
  simpa [Value.cells] using this
theorem made_row (w : World) (n : Nat) (hn : n ≤ maxLen) : Own (w.alloc (.cells (madeCells #[.int .u8 0] n) 5)) 5 1 (.slice (some ⟨w.heap.size, 0, none⟩) n n) n (iv .u8 (List.replicate n 0)) := by
  have h := World.ownsRow_lit (size := 1) (base := 0) (e := 5) w (madeCells #[.int .u8 0] n) n (Nat.zero_le _) hn (by simp [madeCells])
  rw [toList_madeCells_one] at h
  simpa [iv] using h

/-- What is lent: a row with three marked cells behind. -/
def LentAt (w : World) (g n : Nat) (l : List Int) : Prop := Own w 5 1 (.slice (some ⟨g, 0, none⟩) (n + 3) (n + 3)) (n + 3) (iv .u8 (l ++ [119, 119, 119])) ∧ l.length = n
theorem LentAt.rd {w : World} {g n : Nat} {l : List Int} (h : LentAt w g n l) : Rd w 1 (some ⟨g, 0, none⟩) n (iv .u8 l) := by
  have := (Rd.of_own h.1).take (k := n) (by omega)
  rw [Nat.mul_one] at this
  have e : (iv .u8 (l ++ [119, 119, 119])).take n = iv .u8 l := by simp [iv, ← h.2]
  rw [e] at this
  exact this
theorem LentAt.own {w : World} {g n : Nat} {l : List Int} (h : LentAt w g n l) : Own w 5 1 (.slice (some ⟨g, 0, none⟩) n (n + 3)) n (iv .u8 l) := by
  have := Own.fewer h.1 (show n ≤ n + 3 by omega)
  have e : (iv .u8 (l ++ [119, 119, 119])).take n = iv .u8 l := by simp [iv, ← h.2]
  rw [e] at this
  exact this
theorem LentAt.keep {S : Nat → Prop} {w w' : World} {g n : Nat} {l : List Int} (h : LentAt w g n l) (hk : Keep S w w') (hS : ¬ S g) : LentAt w' g n l := ⟨own_keep h.1 hk (fun k e => by simp [Value.ownBlock] at e; subst e; exact hS), h.2⟩
theorem LentAt.fresh {w w' : World} {g n : Nat} {l : List Int} (h : LentAt w g n l) (hk : Fresh w w') : LentAt w' g n l := h.keep hk (fun f => f)
def LendPost (n : Nat) (l : List Int) (w : World) (e : Ending) (w' : World) : Prop := ∃ g, e = .returned (.slice (some ⟨g, 0, none⟩) n (n + 3)) ∧ w.heap.size ≤ g ∧ LentAt w' g n l ∧ Fresh w w'

theorem marks_set (l : List Int) (k n : Nat) (hl : l.length = n) (hk : k < 3) : (l ++ (List.replicate k 119 ++ List.replicate (3 - k) 0)).set (n + k) 119 = l ++ (List.replicate (k + 1) 119 ++ List.replicate (3 - (k + 1)) 0) := by
  subst hl
  rw [List.set_append_right _ _ (by omega), Nat.add_sub_cancel_left, List.set_append_right _ _ (by simp), List.length_replicate, Nat.sub_self]
  obtain ⟨m, hm⟩ : ∃ m, 3 - k = m + 1 := ⟨3 - k - 1, by omega⟩
  rw [hm, show 3 - (k + 1) = m from by omega, List.replicate_succ, List.set_cons_zero, List.replicate_succ']
  simp

set_option maxRecDepth 100000 in
set_option maxHeartbeats 400000 in
theorem LendBytes_calls (w : World) {A : Option Addr} {n c : Nat} {l : List Int} (hr : Rd w 1 A n (iv .u8 l)) (hn : n ≤ 1000000) :
    Calls Try.prog 10 #[.slice A n c] w (LendPost n l w) := by
  have hl := hr.len
  have hmk := make_room n hn
  have hn0 : (0 : Int) ≤ (n : Int) := Int.natCast_nonneg _
  have HL := Lib.hid hl; clear hl
  go_enter Try.func10, Try.ntmps10
  go_wp2_with (first | (refine wpList_room rfl (.tmp 10) (.tmp 11) 24 rfl 5 Try.underlying24 info_u8 (made_row w (n + 3) (by simp [maxLen]; omega)) rfl (hr.alloc _) rfl (iv_one _ _) (by omega) ?_; intro w1 ho1 hk1; rw [Nat.zero_add]))
  have hO := ho1.out
  have hsp : splice (iv .u8 (List.replicate (n + 3) 0)) 0 (iv .u8 l) = iv .u8 (l ++ (List.replicate 0 119 ++ List.replicate (3 - 0) 0)) := by
    have := HL.out
    simp [splice, iv, this]
  rw [hsp] at hO
  have hF : Fresh w w1 := ((Keep.refl _ w).alloc _).trans hk1 (fun b hb e => by omega)
  clear hsp ho1 hk1 hmk
  obtain ⟨B, hB⟩ : ∃ B, B = w.heap.size := ⟨_, rfl⟩
  have hB0 : w.heap.size ≤ B := by omega
  rw [← hB] at hO ⊢
  clear hB
  go_loopw [5] (fun i wr => ∃ k : Nat, k ≤ 3 ∧ i = .int .i64 k ∧ Own wr 5 1 (.slice (some ⟨B, 0, none⟩) (n + 3) (n + 3)) (n + 3) (iv .u8 (l ++ (List.replicate k 119 ++ List.replicate (3 - k) 0))) ∧ Fresh w wr) (fun i _ => 3 - (intOf i).toNat)
  case atStart => exact ⟨0, by omega, rfl, hO, hF⟩
  case round =>
    clear hO hF
    obtain ⟨k, hk, rfl, hO, hF⟩ := hrel
    by_cases hlt : k < 3
    · have hcs : ∃ u, wr.cell? ⟨B, n + k, none⟩ = some u := by
        rw [hO.cellAt (n + k) (by omega)]
        exact ⟨_, List.getElem?_eq_getElem (by have := hO.1; omega)⟩
      obtain ⟨u, hc⟩ := hcs
      have hf := hO.frozenAt (n + k)
      have hi0 : (0 : Int) ≤ (k : Int) := Int.natCast_nonneg _
      have hi1 : (k : Int) < 3 := by omega
      have hst := (hO.stored (n + k) (.int .u8 119)).1
      have e : (iv .u8 (l ++ (List.replicate k 119 ++ List.replicate (3 - k) 0))).set (n + k) (.int .u8 119) = iv .u8 (l ++ (List.replicate (k + 1) 119 ++ List.replicate (3 - (k + 1)) 0)) := by
        rw [← marks_set l k n HL.out hlt]
        simp [iv, List.map_set]
      rw [e] at hst
      have HST := Lib.hid hst
      clear e hst
      go_wp2
      go_roundw
      case rel => exact ⟨k + 1, by omega, by go_num, HST.out, hF.setCell (p := ⟨B, n + k, none⟩) (fun h => by simp at h; omega) _⟩
      case measure => simp [intOf]; omega
    · obtain rfl : k = 3 := by omega
      go_wp2
      go_ret
      exact ⟨B, rfl, hB0, ⟨by simpa using hO, HL.out⟩, hF⟩

set_option maxRecDepth 100000 in
set_option maxHeartbeats 400000 in
theorem KeptBytes_calls (w : World) {g n : Nat} {l : List Int} (h : LentAt w g n l) {A : Option Addr} {m c : Nat} {l' : List Int} (hr : Rd w 1 A m (iv .u8 l')) (hn : n ≤ 1000000) :
    Calls Try.prog 19 #[.slice (some ⟨g, 0, none⟩) n (n + 3), .slice A m c] w fun e w' => e = .returned (.bool (decide (l = l'))) ∧ Drawn w w' := by
  have hl := h.2
  have hrd := h.rd
  have hn0 : (0 : Int) ≤ (n : Int) := Int.natCast_nonneg _
  have HL := Lib.hid hl; clear hl
  have hO := h.1
  go_enter Try.func19, Try.ntmps19
  go_wp2
  go_loopw [6] (fun i wr => ∃ k : Nat, k ≤ 3 ∧ i = .int .i64 k ∧ Drawn w wr) (fun i _ => 3 - (intOf i).toNat)
  case atStart => exact ⟨0, by omega, rfl, Drawn.refl _⟩
  case round =>
    obtain ⟨k, hk, rfl, hd⟩ := hrel
    have hrd := hrd.fresh hd.fresh
    have hr := hr.fresh hd.fresh
    have hO := own_keep hO hd.fresh (fun _ _ f => f)
    by_cases hlt : k < 3
    · have hc : wr.cell? ⟨g, n + k, none⟩ = some (.int .u8 119) := by
        rw [hO.cellAt (n + k) (by omega)]
        have : l.length = n := HL.out
        have h3 : ([119, 119, 119] : List Int)[k]? = some 119 := by
          rcases k with _ | _ | _ | k
          · rfl
          · rfl
          · rfl
          · omega
        rw [List.getElem?_map, List.getElem?_append_right (by omega), this, Nat.add_sub_cancel_left, h3]
        rfl
      have hi0 : (0 : Int) ≤ (k : Int) := Int.natCast_nonneg _
      have hi1 : (k : Int) < 3 := by omega
      go_wp2
      go_roundw
      case rel => exact ⟨k + 1, by omega, by go_num, hd⟩
      case measure => simp [intOf]; omega
    · obtain rfl : k = 3 := by omega
      go_wp2_with (first | (go_at_call 15; refine (SameBytes_calls _ hrd hr).mono ?_; rintro e w1 ⟨rfl, hd1⟩))
      go_ret
      exact ⟨rfl, hd.trans hd1⟩
end Go.Proofs.Ytcjackjoonijnaa
