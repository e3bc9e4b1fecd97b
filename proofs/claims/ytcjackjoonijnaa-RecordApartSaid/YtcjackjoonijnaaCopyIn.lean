/-
  A copy into a row that nobody shares.
-/
import Derived.Laws.CopyOwn
import Derived.Test.YtcjackjoonijnaaBase
import Derived.Test.YtcjackjoonijnaaRows
namespace Go.Proofs.Ytcjackjoonijnaa
open Go.RowKit

/-! ### a copy into a row that nobody shares -/
theorem take_splice {α : Type} (cur : List α) (N off : Nat) (cs : List α) (h : off + cs.length ≤ N) (hN : N ≤ cur.length) : (splice cur off cs).take N = splice (cur.take N) off cs := by
  unfold splice
  rw [List.take_append, List.take_append, List.length_take, List.take_take, List.take_take, List.drop_take, Nat.min_eq_left (show off ≤ cur.length by omega), Nat.min_eq_right (show off ≤ N by omega), Nat.min_eq_left (show off ≤ N by omega), List.take_of_length_le (show cs.length ≤ N - off by omega), Nat.sub_sub]
theorem run_copy_in {w : World} {e dT sT ty : TypeId} (hu : Try.prog.underlying dT = some (.slice e)) (hsz : (Try.prog.info? e).map (·.size) = some 1) {g c N off dn dc : Nat} {L : List Value}
    (h : Own w e 1 (.slice (some ⟨g, 0, none⟩) N c) N L) {dp : Option Addr} (hdp : 0 < dn → dp = some ⟨g, off, none⟩) (hfit : off + dn ≤ N) {A : Option Addr} {n c' : Nat} {xs : List Value} (hr : Rd w 1 A n xs) (h1 : ∀ v ∈ xs, v.oneCell' = true) :
    ∃ w', (Builtin.copy_ #[dT, sT] ty #[.slice dp dn dc, .slice A n c']).run Try.prog w = .ok (goInt (min n dn : Nat)) w' ∧ Own w' e 1 (.slice (some ⟨g, 0, none⟩) N c) N (splice L off (xs.take (min n dn))) ∧ Keep (fun b => b = g) w w' := by
  have hxl : xs.length = n := by have := hr.1; omega
  by_cases h0 : min n dn = 0
  · refine ⟨w, ?_, ?_, Keep.refl _ _⟩
    · rw [h0]; exact run_copy_none (P := Try.prog) w dT sT ty e dp A dn dc n c' hu hsz h0
    · rw [h0]; simpa [splice] using h
  · have hdn : 0 < dn := by omega
    have hn : 0 < n := by omega
    obtain rfl := hdp hdn
    obtain ⟨ad, rfl, hc⟩ := hr.2.2 hn
    rcases h.2 with ⟨e1, -⟩ | ⟨g', cap, cur, e1, hb, hg, h2, h3, h4, h5⟩
    · cases e1
    · cases e1
      have hln : (xs.take (min n dn)).length = min n dn := by rw [List.length_take]; omega
      have hin : ∀ j v, (xs.take (min n dn))[j]? = some v → w.cell? (ad.add j) = some v := fun j v hv => hc j v (by
        rw [List.getElem?_take] at hv
        split at hv
        · exact hv
        · cases hv)
      have h1' : ∀ v ∈ xs.take (min n dn), v.oneCell' = true := fun v hv => h1 v (List.mem_of_mem_take hv)
      generalize xs.take (min n dn) = cs at *
      have hrun := run_copy_row Try.prog w dT sT ty e g off dn dc ad n c' cur e cs hu hsz hg (by rw [hln]) hin (by rw [hln]; omega) h1'
      refine ⟨_, by rw [hrun, hln], ⟨?_, .inr ⟨g, c, _, rfl, hb, setRow_heap w g _ _ _ _ hg, h2, h3, ?_, ?_⟩⟩, ⟨rfl, rfl, rfl, by simp [World.setRow], fun k _ hk => setRow_other w g k _ hk⟩⟩
      · rw [length_splice _ _ _ (by rw [hln, h.1]; omega)]; exact h.1
      · have := length_splice cur.toList off cs (by rw [hln]; simp; omega)
        simp only [splice] at this
        rw [hln] at this
        rw [List.size_toArray, List.append_assoc, this]
        simpa using h4
      · have := take_splice cur.toList (N * 1) off cs (by rw [hln]; omega) (by simp; omega)
        rw [h5] at this
        rw [← this]
        simp [splice, hln]
theorem wpList_copy_in {w : World} {ops : Array Oper} {rest : List Oper} {o : Oper} {a : Act} {Q : Exit → Act → World → Prop} (hgd : o.guard = none) (d s : Operand) {dT sT e : TypeId}
    (ho : o.op = .call { callee := .builtin .copy, args := #[d, s], argTypes := #[dT, sT] }) (hu : Try.prog.underlying dT = some (.slice e)) (hsz : (Try.prog.info? e).map (·.size) = some 1) {g c N off dn dc : Nat} {L : List Value}
    (h : Own w e 1 (.slice (some ⟨g, 0, none⟩) N c) N L) {dp : Option Addr} (hd : a.eval d = .slice dp dn dc) (hdp : 0 < dn → dp = some ⟨g, off, none⟩) (hfit : off + dn ≤ N) {A : Option Addr} {n c' : Nat} {xs : List Value} (hr : Rd w 1 A n xs) (hs : a.eval s = .slice A n c') (h1 : ∀ v ∈ xs, v.oneCell' = true)
    (hK : ∀ w', Hid (Own w' e 1 (.slice (some ⟨g, 0, none⟩) N c) N (splice L off (xs.take (min n dn)))) → Keep (fun b => b = g) w w' → wpList Try.prog ops Q rest (a.put o.dst (goInt (min n dn : Nat))) w') : wpList Try.prog ops Q (o :: rest) a w := by
  obtain ⟨w', hrun, ho', hk'⟩ := run_copy_in (ty := o.type) (sT := sT) hu hsz h hdp hfit (dc := dc) (c' := c') hr h1
  refine wpList_plain hgd fun K hK' => ?_
  unfold Oper.wp
  simp [execOp, ho, resolve, invoke, builtin, hd, hs, hrun, Result.andThen]
  exact hK' _ _ (by simpa using hK w' ho' hk')
theorem step_copy_in {w : World} {ops : Array Oper} {o : Oper} {a : Act} {K : Act → World → Prop} {Q : Exit → Act → World → Prop} {E : Prop} (hgd : o.guard = none) (d s : Operand) {dT sT e : TypeId}
    (ho : o.op = .call { callee := .builtin .copy, args := #[d, s], argTypes := #[dT, sT] }) (hu : Try.prog.underlying dT = some (.slice e)) (hsz : (Try.prog.info? e).map (·.size) = some 1) {g c N off dn dc : Nat} {L : List Value}
    (h : Own w e 1 (.slice (some ⟨g, 0, none⟩) N c) N L) {dp : Option Addr} (hd : a.eval d = .slice dp dn dc) (hdp : 0 < dn → dp = some ⟨g, off, none⟩) (hfit : off + dn ≤ N) {A : Option Addr} {n c' : Nat} {xs : List Value} (hr : Rd w 1 A n xs) (hs : a.eval s = .slice A n c') (h1 : ∀ v ∈ xs, v.oneCell' = true)
    (hK : ∀ w', Hid (Own w' e 1 (.slice (some ⟨g, 0, none⟩) N c) N (splice L off (xs.take (min n dn)))) → Keep (fun b => b = g) w w' → K (a.put o.dst (goInt (min n dn : Nat))) w') :
    if Region.wanted o (yielded ops a.tmps) = true then Oper.wp Try.prog o a w K Q else E := by
  have hw : Region.wanted o (yielded ops a.tmps) = true := by simp [Region.wanted, hgd]
  rw [if_pos hw]
  obtain ⟨w', hrun, ho', hk'⟩ := run_copy_in (ty := o.type) (sT := sT) hu hsz h hdp hfit (dc := dc) (c' := c') hr h1
  unfold Oper.wp
  simp [execOp, ho, resolve, invoke, builtin, hd, hs, hrun, Result.andThen]
  exact hK w' ho' hk'
end Go.Proofs.Ytcjackjoonijnaa
