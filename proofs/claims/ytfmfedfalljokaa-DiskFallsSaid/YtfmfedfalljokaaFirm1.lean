/-
  DiskFirm: the plain law.
-/
import Derived.Test.YtfmfedfalljokaaPrefix1
namespace Go.Proofs.Ytfmfedfalljokaa
open Go.RowKit
namespace DiskS

/-- A row's disk: f flushes have gone by; firm and last are the two tables. -/
structure Firm (n k : Nat) (d : DiskS) (fm lt : List (List Int)) (f : Nat) : Prop where
  firmE : d.firm = fm
  onE : d.on = true
  armedE : d.armed = none
  flushesE : d.flushes = f
  writesE : d.writes.length = k
  waitsE : d.waits.length ≤ k
  lastE : lt = layAll d.waits d.firm
  mem : ∀ p ∈ d.waits, 0 ≤ p.1 ∧ p.1 < n ∧ p.2.length = 128
  len : fm.length = n
  row : ∀ p ∈ fm, p.length = 128
  le : f ≤ k

theorem layAll_len (ws : List (Int × List Int)) : ∀ firm, (layAll ws firm).length = firm.length := by
  induction ws with
  | nil => intro firm; rfl
  | cons q ws ih => intro firm; simp only [layAll, List.foldl_cons] at *; rw [ih]; simp [layOne]
theorem layAll_row (ws : List (Int × List Int)) (hw : ∀ p ∈ ws, p.2.length = 128) : ∀ firm, (∀ p ∈ firm, p.length = 128) → ∀ p ∈ layAll ws firm, p.length = 128 := by
  induction ws with
  | nil => intro firm h; exact h
  | cons q ws ih =>
    intro firm h
    simp only [layAll, List.foldl_cons] at *
    refine ih (fun p hp => hw p (by simp [hp])) _ (fun p hp => ?_)
    rcases List.mem_or_eq_of_mem_set hp with h' | h'
    · exact h p h'
    · rw [h']; exact hw q (by simp)
theorem last_lay (ws : List (Int × List Int)) (x : Nat) : ∀ firm : List (List Int), x < firm.length → (∀ p ∈ ws, 0 ≤ p.1) → last ws x (firm.getD x []) = (layAll ws firm).getD x [] := by
  induction ws with
  | nil => intro firm _ _; rfl
  | cons q ws ih =>
    intro firm hx hq
    have hq0 := hq q (by simp)
    simp only [last, layAll, List.foldl_cons]
    have := ih (layOne firm q) (by simpa [layOne] using hx) (fun p hp => hq p (by simp [hp]))
    simp only [last, layAll] at this
    rw [← this]
    congr 1
    by_cases h : q.1 = x
    · rw [if_pos h]
      have : q.1.toNat = x := by omega
      simp [layOne, this, List.getD_eq_getElem?_getD, hx]
    · rw [if_neg h]
      have : q.1.toNat ≠ x := by omega
      simp [layOne, List.getD_eq_getElem?_getD, List.getElem?_set, this]
theorem layKept_nil (ws : List (Int × List Int)) : ∀ (k : Nat) firm, layKept [] k ws firm = firm := by
  induction ws with
  | nil => intro k firm; rfl
  | cons q ws ih => intro k firm; simp [layKept, lasts, ih]

variable {n k f : Nat} {d : DiskS} {fm lt : List (List Int)}
theorem Firm.ok (h : Firm n k d fm lt f) : d.Ok :=
  ⟨fun p hp => ⟨(h.mem p hp).1, by have := (h.mem p hp).2.1; have e := h.len; rw [← h.firmE] at e; omega⟩, (fun l k e => by rw [h.armedE] at e; cases e), (fun e => by rw [h.onE] at e; cases e)⟩
theorem Firm.sec (h : Firm n k d fm lt f) : Sec d := ⟨by rw [h.firmE]; exact h.row, fun p hp => (h.mem p hp).2.2⟩
theorem Firm.start (n : Nat) : Firm n 0 (new n) (List.replicate n (zeros 128)) (List.replicate n (zeros 128)) 0 :=
  ⟨rfl, rfl, rfl, rfl, rfl, Nat.le_refl _, rfl, fun p hp => by simp [new] at hp, by simp, fun p hp => by simp only [List.mem_replicate] at hp; rw [hp.2]; simp [zeros], Nat.le_refl _⟩
theorem Firm.there (h : Firm n k d fm lt f) {s : Nat} (hs : s < n) : d.there s = true := by
  unfold DiskS.there
  rw [Bool.and_eq_true, decide_eq_true_eq, decide_eq_true_eq, h.firmE, h.len]
  exact ⟨by omega, by omega⟩
theorem Firm.write (h : Firm n k d fm lt f) {s : Nat} (hs : s < n) {b : List Int} (hb : b.length = 128) :
    (d.write s b).1 = 0 ∧ Firm n (k + 1) (d.write s b).2 fm (lt.set s b) f := by
  have ha : d.asked (d.there s && decide (b.length = 128)) = 0 := by rw [h.there hs]; simp [asked, h.onE, hb]
  have hf : d.falls = (false, d) := by unfold falls; rw [h.armedE]
  have e : d.write s b = (0, { d with waits := d.waits ++ [((s : Int), b)], writes := d.writes ++ [(s : Int)] }) := by
    unfold DiskS.write
    rw [if_pos ha, hf]
    rfl
  rw [e]
  refine ⟨rfl, h.firmE, h.onE, h.armedE, h.flushesE, by simp [h.writesE], by simp; exact h.waitsE, ?_, fun p hp => ?_, h.len, h.row, Nat.le_succ_of_le h.le⟩
  · dsimp only
    rw [layAll_append, ← h.lastE]
    simp [layOne]
  · simp only [List.mem_append, List.mem_singleton] at hp
    rcases hp with hp | rfl
    · exact h.mem p hp
    · exact ⟨Int.natCast_nonneg _, by simp; omega, hb⟩
theorem Firm.flush (h : Firm n k d fm lt f) (hf : f < k) : d.flush.1 = 0 ∧ d.flush.2.waits = [] ∧ Firm n k d.flush.2 lt lt (f + 1) := by
  have ha : d.asked true = 0 := by simp [asked, h.onE]
  have hfa : d.falls = (false, d) := by unfold falls; rw [h.armedE]
  have e : d.flush = (0, { d with firm := layAll d.waits d.firm, waits := [], flushes := d.flushes + 1 }) := by
    unfold DiskS.flush
    rw [if_pos ha, hfa]
    rfl
  rw [e]
  refine ⟨rfl, rfl, h.lastE.symm, h.onE, h.armedE, by simp [h.flushesE], h.writesE, Nat.zero_le _, ?_, fun p hp => by simp at hp, ?_, ?_, hf⟩
  · dsimp only
    rw [← h.lastE]
    rfl
  · rw [h.lastE, layAll_len, h.firmE, h.len]
  · rw [h.lastE, h.firmE]
    exact layAll_row _ (fun p hp => (h.mem p hp).2.2) _ h.row
theorem Firm.lastLen (h : Firm n k d fm lt f) : lt.length = n := by rw [h.lastE, layAll_len, h.firmE, h.len]
theorem Firm.lastRow (h : Firm n k d fm lt f) : ∀ p ∈ lt, p.length = 128 := by
  rw [h.lastE, h.firmE]
  exact layAll_row _ (fun p hp => (h.mem p hp).2.2) _ h.row
theorem Firm.read (h : Firm n k d fm lt f) {s : Nat} (hs : s < n) : d.read s = (0, lt.getD s []) := by
  have ha : d.asked (d.there s) = 0 := by rw [h.there hs]; simp [asked, h.onE]
  unfold DiskS.read
  rw [if_pos ha, Int.toNat_natCast, last_lay _ _ _ (by rw [h.firmE, h.len]; exact hs) (fun p hp => (h.mem p hp).1), ← h.lastE]
theorem Firm.crash (h : Firm n k d fm lt f) : (d.crash []).firm = fm ∧ (d.crash []).on = false ∧ (d.crash []).writes.length = k ∧ (d.crash []).flushes = f ∧ (d.crash []).boot.1 = 0 ∧ (d.crash []).boot.2.boot.1 = 19 ∧ (d.crash []).boot.2.on = true := by
  refine ⟨?_, rfl, h.writesE, h.flushesE, rfl, rfl, rfl⟩
  simp only [DiskS.crash, layKept_nil]
  exact h.firmE
end DiskS
end Go.Proofs.Ytfmfedfalljokaa
