/-
  The disk read: the writes that wait are ranged over from behind.
-/
import Derived.RangeFuncNested
import Derived.RangeFuncBound
import Derived.RangeFuncCalls
import Derived.RangeFuncLeaves
import Derived.RangeFuncBox
import Derived.Shelf.Abstract
import Derived.Shelf.RegionOpen
import Derived.OwnWalkIn
import Derived.TacticsInMore
import Derived.LoopNIn
import Derived.LoopIn
import Derived.Test.YtfmfedfalljokaaDisk5
namespace Go.Proofs.Ytfmfedfalljokaa
open Go.RowKit Go.Shelf

attribute [local go_sem] Oper.semAt_some

/-! ### what has come when k rounds are over -/
def upto {α : Type} (f : Nat → α) (k : Nat) : List α := (List.range k).map f
theorem upto_succ {α : Type} (f : Nat → α) (k : Nat) : upto f (k + 1) = upto f k ++ [f k] := by simp [upto, List.range_succ]
theorem upto_length {α : Type} (f : Nat → α) (k : Nat) : (upto f k).length = k := by simp [upto]

/-- A write that waits, as it lies: its sector; its bytes' address, length, capacity. -/
abbrev Row : Type := Int × (Option Addr × (Nat × Nat))
def Row.val (r : Row) : Int × Value := (r.1, .slice r.2.1 r.2.2.1 r.2.2.2)
abbrev encW (x : Nat × Row) : Array Value := #[.int .i64 (x.1 : Int), .agg #[.int .i64 x.2.1, .slice x.2.2.1 x.2.2.2.1 x.2.2.2.2]]
abbrev encR (rs : List Row) (j : Nat) : Array Value := encW (j, rs.getD j (0, (none, (0, 0))))
def fromBehind (rs : List Row) (j : Nat) : Nat := rs.length - 1 - j

theorem Backward_calls (w : World) (A : Option Addr) (n c : Nat) :
    Calls Try.prog 54 #[.slice A n c] w fun e w' => e = .returned (.func (.func 76) #[] #[.pointer (some ⟨w.heap.size, 0, none⟩)]) ∧ w' = w.alloc (.cells #[.slice A n c] 80) := by
  go_enter Try.func54, Try.ntmps54
  go_wp2
  go_ret
  exact ⟨rfl, rfl⟩

set_option maxRecDepth 100000 in
set_option maxHeartbeats 2000000 in
theorem back1_in (F : Fence) (n : Nat) (hf : F.fn 76) (hro : F.round = none) (hn : 1 ≤ n) (l Bs n₀ gw cap : Nat) (rs : List Row) (hreach : rs.length ≤ 1000000) (hBs0 : Bs < n₀) (hb : gw < n₀) (J Jx : List Nat → World → Prop)
    (hY : ∀ pre x W, J pre W → pre.length < rs.length → YieldAt F (n - 1) Try.prog l (encR rs x) W fun e W' =>
      (e = .returned (.bool true) ∧ J (pre ++ [x]) W' ∧ Below n₀ W W') ∨ (e = .returned (.bool false) ∧ Jx (pre ++ [x]) W'))
    (W : World) (hBs : W.cell? ⟨Bs, 0, none⟩ = some (.slice (some ⟨gw, 0, none⟩) rs.length cap))
    (hc : ∀ j, j < rs.length → W.cell? ⟨gw, j * 2, none⟩ = some (.int .i64 (rs.getD j (0, (none, (0, 0)))).1) ∧ W.cell? ⟨gw, j * 2 + 1, none⟩ = some (.slice (rs.getD j (0, (none, (0, 0)))).2.1 (rs.getD j (0, (none, (0, 0)))).2.2.1 (rs.getD j (0, (none, (0, 0)))).2.2.2)) (h0 : J [] W) :
    CallsIn F n Try.prog 76 #[.func (.yield l) #[] #[], .pointer (some ⟨Bs, 0, none⟩)] W fun e W' => (∃ v, e = .returned v) ∧
      ((∃ ys, ys = upto (fromBehind rs) rs.length ∧ J ys W') ∨ (∃ pre, (∃ k, k ≤ rs.length ∧ pre = upto (fromBehind rs) k) ∧ Jx pre W')) := by
  refine callsIn_of_wp Try.func76 rfl hf ?_ hro
  simp only [Try.ntmps76, List.size_toArray, List.length_cons, List.length_nil, Nat.reduceAdd, Nat.reduceSub, Array.replicate_succ, Array.replicate_zero, List.push_toArray, List.append_toArray, List.nil_append, List.cons_append]
  gi_wp2
  gi_loopw [3] (fun i wr => ∃ k : Nat, k ≤ rs.length ∧ i = .int .i64 ((rs.length : Int) - 1 - k) ∧ J (upto (fromBehind rs) k) wr ∧ Below n₀ W wr)
    (fun i _ => (intOf i + 1).toNat)
  case atStart => exact ⟨0, Nat.zero_le _, by simp, h0, Below.refl _ _⟩
  case round =>
    obtain ⟨k, hk, rfl, hJs, hnx⟩ := hrel
    have hBs' := (hnx.cell (p := ⟨Bs, 0, none⟩) hBs0).trans hBs
    by_cases hlt : k < rs.length
    · obtain ⟨j, hj⟩ : ∃ j, j = rs.length - 1 - k := ⟨_, rfl⟩
      have hjl : j < rs.length := by omega
      have ej : (rs.length : Int) - 1 - k = (j : Int) := by omega
      obtain ⟨c0, c1⟩ := hc j hjl
      have c0' := (hnx.cell (p := ⟨gw, j * 2, none⟩) hb).trans c0
      have c1' := (hnx.cell (p := ⟨gw, j * 2 + 1, none⟩) hb).trans c1
      have hfb : fromBehind rs k = j := by unfold fromBehind; rw [← hj]
      obtain ⟨r, hr⟩ : ∃ r, r = rs.getD j (0, (none, (0, 0))) := ⟨_, rfl⟩
      obtain ⟨fn, tmps, assign, body, hy, hR⟩ := hY _ j wr hJs (by rw [upto_length]; exact hlt)
      dsimp only [encR, encW] at hy
      rw [← hr] at c0' c1' hy
      clear c0 c1 hr
      rw [ej]
      have HJ := Lib.hid hj; clear hj
      have HFB := Lib.hid hfb; clear hfb
      have hi0 : (0 : Int) ≤ (j : Int) := Int.natCast_nonneg _
      have hi1 : (j : Int) < (rs.length : Int) := by omega
      have EJ := Lib.hid ej; clear ej
      gi_wp2
      refine hR.mono ?_
      rintro e W3 (⟨rfl, hJ3, hk3⟩ | ⟨rfl, hJx3⟩)
      · gi_wp2
        go_roundw
        case rel => exact ⟨k + 1, by omega, by rw [← EJ.out]; first | done | (congr 1; omega), by rw [upto_succ, HFB.out]; exact hJ3, hnx.trans hk3⟩
        case measure => simp [intOf]
      · gi_wp2
        refine bodyPost_ret (results_none rfl _ _ _) rfl ?_
        exact ⟨⟨_, rfl⟩, .inr ⟨_, ⟨k + 1, by omega, by rw [upto_succ, HFB.out]⟩, hJx3⟩⟩
    · obtain rfl : k = rs.length := by omega
      rw [show (rs.length : Int) - 1 - (rs.length : Int) = -1 from by omega]
      gi_wp2
      go_end0
      exact ⟨⟨_, rfl⟩, .inl ⟨_, rfl, hJs⟩⟩

set_option maxRecDepth 100000 in
set_option maxHeartbeats 1000000 in
theorem back1_nil_in (F : Fence) (n : Nat) (hf : F.fn 76) (hro : F.round = none) (l Bs : Nat) (J : List Nat → World → Prop) (W : World) {A : Option Addr} {c : Nat} (hBs : W.cell? ⟨Bs, 0, none⟩ = some (.slice A 0 c)) (h0 : J [] W) :
    CallsIn F n Try.prog 76 #[.func (.yield l) #[] #[], .pointer (some ⟨Bs, 0, none⟩)] W fun e W' => (∃ v, e = .returned v) ∧ J [] W' := by
  refine callsIn_of_wp Try.func76 rfl hf ?_ hro
  simp only [Try.ntmps76, List.size_toArray, List.length_cons, List.length_nil, Nat.reduceAdd, Nat.reduceSub, Array.replicate_succ, Array.replicate_zero, List.push_toArray, List.append_toArray, List.nil_append, List.cons_append]
  gi_wp2
  gi_loopw [3] (fun i wr => i = .int .i64 (-1) ∧ J [] wr) (fun _ _ => 0)
  case atStart => exact ⟨rfl, h0⟩
  case round =>
    obtain ⟨rfl, hJs⟩ := hrel
    gi_wp2
    go_end0
    exact ⟨⟨_, rfl⟩, hJs⟩

/-- The writes that wait, as they lie in memory below n₀. -/
def RowsAt (n₀ : Nat) (W : World) (A : Option Addr) (rs : List Row) : Prop :=
  rs.length = 0 ∨ ∃ gw, A = some ⟨gw, 0, none⟩ ∧ gw < n₀ ∧ ∀ j, j < rs.length → W.cell? ⟨gw, j * 2, none⟩ = some (.int .i64 (rs.getD j (0, (none, (0, 0)))).1) ∧ W.cell? ⟨gw, j * 2 + 1, none⟩ = some (.slice (rs.getD j (0, (none, (0, 0)))).2.1 (rs.getD j (0, (none, (0, 0)))).2.2.1 (rs.getD j (0, (none, (0, 0)))).2.2.2)
theorem RowsAt.below {n₀ : Nat} {W W' : World} {A : Option Addr} {rs : List Row} (h : RowsAt n₀ W A rs) (hb : Below n₀ W W') : RowsAt n₀ W' A rs := by
  rcases h with h | ⟨gw, e, hg, hc⟩
  · exact .inl h
  · exact .inr ⟨gw, e, hg, fun j hj => ⟨(hb.cell (p := ⟨gw, j * 2, none⟩) hg).trans (hc j hj).1, (hb.cell (p := ⟨gw, j * 2 + 1, none⟩) hg).trans (hc j hj).2⟩⟩

theorem back_stops (F : Fence) (n : Nat) (hf : F.fn 76) (hro : F.round = none) (hn : 1 ≤ n) (Bs n₀ cap : Nat) (A : Option Addr) (rs : List Row) (hreach : rs.length ≤ 1000000) (w : World) (hBs : Bs < n₀) (hn₀ : n₀ ≤ w.heap.size)
    (hc : w.cell? ⟨Bs, 0, none⟩ = some (.slice A rs.length cap)) (hI : RowsAt n₀ w A rs) :
    SeqStopsK F n Try.prog 76 #[.pointer (some ⟨Bs, 0, none⟩)] (encR rs) (Below n₀) (fun ys => ys = upto (fromBehind rs) rs.length)
      (fun pre => ∃ k, k ≤ rs.length ∧ pre = upto (fromBehind rs) k) rs.length w := fun l J Jx W hW _ _ hY h0 => by
  have hc' := (hW.cell (p := ⟨Bs, 0, none⟩) (Nat.lt_of_lt_of_le hBs hn₀)).trans hc
  rcases hI.below (hW.mono hn₀) with h | ⟨gw, rfl, hb, hcs⟩
  · rw [h] at hc'
    exact (back1_nil_in F n hf hro l Bs J W hc' h0).mono fun e W' ⟨he, hj⟩ => ⟨he, .inl ⟨[], by rw [h]; rfl, hj⟩⟩
  · exact back1_in F n hf hro hn l Bs n₀ gw cap rs hreach hBs hb J Jx hY W hc' hcs h0

/-! ### what is read is what was written last -/
theorem last_none (ws : List (Int × List Int)) (x : Int) : ∀ (o : List Int), (∀ p ∈ ws, p.1 ≠ x) → DiskS.last ws x o = o := by
  induction ws with
  | nil => intro o _; rfl
  | cons p ws ih =>
    intro o h
    simp only [DiskS.last, List.foldl_cons]
    rw [if_neg (h p (by simp))]
    exact ih o (fun q hq => h q (by simp [hq]))
theorem last_some (ws : List (Int × List Int)) (x : Int) (o : List Int) {i : Nat} {p : Int × List Int} (hp : ws[i]? = some p) (hx : p.1 = x) (hno : ∀ j q, i < j → ws[j]? = some q → q.1 ≠ x) : DiskS.last ws x o = p.2 := by
  obtain ⟨hi, hpi⟩ := List.getElem?_eq_some_iff.1 hp
  have e : ws = ws.take i ++ p :: ws.drop (i + 1) := by rw [← hpi, ← List.drop_eq_getElem_cons hi, List.take_append_drop]
  rw [e]
  simp only [DiskS.last, List.foldl_append, List.foldl_cons]
  rw [if_pos hx]
  refine last_none _ x _ (fun q hq => ?_)
  obtain ⟨j, hq⟩ := List.getElem?_of_mem hq
  rw [List.getElem?_drop] at hq
  exact hno _ q (by omega) hq

/-! ### Read -/
theorem Read_no {F : Nat → Prop} {w : World} {g : Nat} {d : DiskS} (h : DiskAt F w g d) (x : Int) (hno : d.asked (d.there x) ≠ 0) :
    Calls Try.prog 22 #[ptr g, .int .i64 x] w fun e w' => e = .returned (.tuple #[.slice none 0 0, .int .i64 (d.asked (d.there x))]) ∧ Fresh w w' := by
  have hne : (d.asked (d.there x) != 0) = true := by rw [bne_iff_ne]; exact hno
  clear hno
  have h1 := fun o => h.fresh ((Keep.refl (fun _ => False) w).alloc o)
  have h2 := fun o p => (h1 o).fresh ((Keep.refl (fun _ => False) _).alloc p)
  have h3 := fun o p q => (h2 o p).fresh ((Keep.refl (fun _ => False) _).alloc q)
  go_enter Try.func22, Try.ntmps22
  go_wp2_with (first | (go_at_call 50; refine (there_calls (h3 _ _ _) x).mono ?_; rintro e w' ⟨rfl, rfl⟩) | (go_at_call 49; refine (asked_calls (h3 _ _ _) _).mono ?_; rintro e w' ⟨rfl, rfl⟩))
  refine bodyPost_ret (v := .tuple #[.slice none 0 0, .int .i64 (d.asked (d.there x))]) (by simp [results, Try.results22, go_sem]) rfl ⟨rfl, ?_⟩
  exact (((Keep.refl _ w).alloc _).alloc _).alloc _
end Go.Proofs.Ytfmfedfalljokaa
