/-
  DiskPrefix: the plain law.
-/
import Derived.Test.YtfmfedfalljokaaTab
namespace Go.Proofs.Ytfmfedfalljokaa
open Go.RowKit
namespace DiskS

/-- The writes of a row, the k first: sector and bytes. -/
def rowW (m : Int) (ns : List Int) (k : Nat) : List (Int × List Int) := (List.range k).map fun j => (lowI (ns.getD j 0) m, fillL j 128)
theorem rowW_succ (m : Int) (ns : List Int) (k : Nat) : rowW m ns (k + 1) = rowW m ns k ++ [(lowI (ns.getD k 0) m, fillL k 128)] := by simp [rowW, List.range_succ]
theorem rowW_len (m : Int) (ns : List Int) (k : Nat) : (rowW m ns k).length = k := by simp [rowW]
theorem fillL_len (n : Int) (k : Nat) : (fillL n k).length = k := by simp [fillL]
theorem rowW_mem {m : Int} (hm : 1 ≤ m) {ns : List Int} {k : Nat} {p : Int × List Int} (h : p ∈ rowW m ns k) : 0 ≤ p.1 ∧ p.1 < m ∧ p.2.length = 128 := by
  simp only [rowW, List.mem_map, List.mem_range] at h
  obtain ⟨j, -, rfl⟩ := h
  exact ⟨lowI_nn _ _ hm, lowI_lt _ _ hm, fillL_len _ _⟩
/-- A disk of n sectors of zeros behind k writes of the row. -/
def behind (n : Nat) (ns : List Int) (k : Nat) : DiskS := { firm := List.replicate n (zeros 128), waits := rowW n ns k, on := true, armed := none, writes := (rowW n ns k).map (·.1), flushes := 0 }
theorem behind_zero (n : Nat) (ns : List Int) : behind n ns 0 = new n := rfl
theorem behind_ok (n : Nat) (hn : 1 ≤ n) (ns : List Int) (k : Nat) : (behind n ns k).Ok :=
  ⟨fun p hp => by have := rowW_mem (by omega) hp; simp [behind]; omega, fun l k h => by simp [behind] at h, fun h => by simp [behind] at h⟩
theorem behind_write (n : Nat) (hn : 1 ≤ n) (ns : List Int) (k : Nat) : (behind n ns k).write (lowI (ns.getD k 0) n) (fillL k 128) = (0, behind n ns (k + 1)) := by
  have h1 := lowI_nn (ns.getD k 0) n (by omega)
  have h2 := lowI_lt (ns.getD k 0) n (by omega)
  have ht : (behind n ns k).there (lowI (ns.getD k 0) n) = true := by
    unfold there
    rw [Bool.and_eq_true, decide_eq_true_eq, decide_eq_true_eq]
    refine ⟨h1, ?_⟩
    rw [show (behind n ns k).firm.length = n from by simp [behind]]
    exact h2
  have ha : (behind n ns k).asked ((behind n ns k).there (lowI (ns.getD k 0) n) && decide ((fillL k 128).length = 128)) = 0 := by rw [ht]; simp [asked, behind, fillL_len]
  have hf : (behind n ns k).falls = (false, behind n ns k) := rfl
  unfold write
  rw [if_pos ha, hf]
  simp [behind, rowW_succ]
/-- The table of what is wanted: of k writes the first 'many' last. -/
def wantT (n many : Nat) (ns : List Int) (k : Nat) : List (List Int) := layAll (rowW n ns (min k many)) (List.replicate n (zeros 128))
theorem wantT_yes (n many : Nat) (ns : List Int) (k : Nat) (h : k < many) : (wantT n many ns k).set (lowI (ns.getD k 0) n).toNat (fillL k 128) = wantT n many ns (k + 1) := by
  unfold wantT
  rw [Nat.min_eq_left (by omega), Nat.min_eq_left (by omega), rowW_succ]
  simp [layAll, layOne]
theorem wantT_no (n many : Nat) (ns : List Int) (k : Nat) (h : ¬ k < many) : wantT n many ns k = wantT n many ns (k + 1) := by
  unfold wantT
  rw [Nat.min_eq_right (by omega), Nat.min_eq_right (by omega)]
def keepL (many k : Nat) : List Bool := (List.range k).map fun j => decide (j < many)
theorem keepL_succ (many k : Nat) : keepL many k ++ [decide (k < many)] = keepL many (k + 1) := by simp [keepL, List.range_succ]
theorem lasts_keepL (many k j : Nat) (hj : j < k) : lasts (keepL many k) j = decide (j < many) := by
  have hl : (keepL many k).length = k := by simp [keepL]
  unfold lasts
  rw [hl, Nat.mod_eq_of_lt hj]
  simp [keepL, List.getD_eq_getElem?_getD, hj, show 0 < k by omega]
theorem layAll_append (ws : List (Int × List Int)) (p : Int × List Int) (firm : List (List Int)) : layAll (ws ++ [p]) firm = layOne (layAll ws firm) p := by simp [layAll]
theorem kept_want (n many : Nat) (ns : List Int) (k : Nat) : ∀ j, j ≤ k → layKept (keepL many k) 0 (rowW n ns j) (List.replicate n (zeros 128)) = wantT n many ns j := by
  intro j
  induction j with
  | zero => intro _; simp [rowW, layKept, wantT, layAll]
  | succ j ih =>
    intro hj
    rw [rowW_succ, layKept_append, rowW_len, Nat.zero_add, lasts_keepL _ _ _ (by omega), ih (by omega)]
    by_cases h : j < many
    · rw [if_pos (by simpa using h)]
      rw [← wantT_yes n many ns j h]
      rfl
    · rw [if_neg (by simpa using h), wantT_no n many ns j h]
theorem crash_want (n many : Nat) (ns : List Int) (k : Nat) : ((behind n ns k).crash (keepL many k)).firm = wantT n many ns k := kept_want n many ns k k (Nat.le_refl _)
theorem wantT_len (n many : Nat) (ns : List Int) (k : Nat) : (wantT n many ns k).length = n := by
  rw [← crash_want]
  simp [crash, layKept_length, behind]
theorem wantT_row (n many : Nat) (ns : List Int) (k : Nat) : ∀ p ∈ wantT n many ns k, p.length = 128 := by
  unfold wantT
  generalize min k many = m
  induction m with
  | zero =>
    intro p hp
    simp only [rowW, layAll, List.range_zero, List.map_nil, List.foldl_nil, List.mem_replicate] at hp
    rw [hp.2]
    simp [zeros]
  | succ m ih =>
    intro p hp
    rw [rowW_succ, layAll_append] at hp
    rcases List.mem_or_eq_of_mem_set hp with h | h
    · exact ih p h
    · rw [h]
      exact fillL_len _ _
theorem behind_sec (n : Nat) (hn : 1 ≤ n) (ns : List Int) (k : Nat) : Sec (behind n ns k) :=
  ⟨fun p hp => by simp only [behind, List.mem_replicate] at hp; rw [hp.2]; simp [zeros], fun p hp => (rowW_mem (by omega) hp).2.2⟩
/-- What is left when the power is back. -/
def back (n many : Nat) (ns : List Int) (k : Nat) : DiskS := { firm := wantT n many ns k, waits := [], on := true, armed := none, writes := (rowW n ns k).map (·.1), flushes := 0 }
theorem crash_boot (n many : Nat) (ns : List Int) (k : Nat) : ((behind n ns k).crash (keepL many k)).boot = (0, back n many ns k) := by
  have h := crash_want n many ns k
  simp only [crash] at h
  simp only [boot, crash, back, h]
  rfl
theorem back_sec (n many : Nat) (ns : List Int) (k : Nat) : Sec (back n many ns k) := ⟨wantT_row n many ns k, fun p hp => by simp [back] at hp⟩
theorem back_read (n many : Nat) (ns : List Int) (k j : Nat) (hj : j < n) : (back n many ns k).read j = (0, (wantT n many ns k).getD j []) := by
  have ht : (back n many ns k).there j = true := by
    unfold there
    rw [Bool.and_eq_true, decide_eq_true_eq, decide_eq_true_eq]
    refine ⟨by omega, ?_⟩
    rw [show (back n many ns k).firm.length = n from wantT_len n many ns k]
    omega
  have ha : (back n many ns k).asked ((back n many ns k).there j) = 0 := by rw [ht]; rfl
  unfold read
  rw [if_pos ha]
  simp [back, last]
end DiskS
end Go.Proofs.Ytfmfedfalljokaa
