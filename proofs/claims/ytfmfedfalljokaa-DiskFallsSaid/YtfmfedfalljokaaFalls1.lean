/-
  DiskFalls: the plain law.
-/
import Derived.Test.YtfmfedfalljokaaFirm1
namespace Go.Proofs.Ytfmfedfalljokaa
open Go.RowKit
namespace DiskS

/-- The row's disk while the power is on: cnt writes and flushes have gone well. -/
structure Falls (n after cnt k : Nat) (keep : List Bool) (d : DiskS) (fm : List (List Int)) (ats : List Int) (bss : List (List Int)) : Prop where
  firmE : d.firm = fm
  onE : d.on = true
  armedE : d.armed = some (((after - cnt : Nat) : Int), keep)
  le : cnt ≤ after
  waitsE : d.waits = ats.zip bss
  pair : ats.length = bss.length
  few : ats.length ≤ k
  mem : ∀ p ∈ d.waits, 0 ≤ p.1 ∧ p.1 < n ∧ p.2.length = 128
  len : fm.length = n
  row : ∀ p ∈ fm, p.length = 128
  writesE : d.writes.length ≤ k
  fl0 : 0 ≤ d.flushes
  fl1 : d.flushes ≤ k
/-- The power has gone. -/
structure Dark (n k : Nat) (keep : List Bool) (d : DiskS) (fm : List (List Int)) (ats : List Int) (bss : List (List Int)) : Prop where
  firmE : d.firm = layKept keep 0 (ats.zip bss) fm
  waitsE : d.waits = []
  onE : d.on = false
  armedE : d.armed = none
  pair : ats.length = bss.length
  few : ats.length ≤ k
  mem : ∀ p ∈ ats.zip bss, 0 ≤ p.1 ∧ p.1 < n ∧ p.2.length = 128
  len : fm.length = n
  row : ∀ p ∈ fm, p.length = 128
  writesE : d.writes.length ≤ k

variable {n after cnt k : Nat} {keep : List Bool} {d : DiskS} {fm : List (List Int)} {ats : List Int} {bss : List (List Int)}
theorem Falls.there (h : Falls n after cnt k keep d fm ats bss) {s : Nat} (hs : s < n) : d.there s = true := by
  unfold DiskS.there
  rw [Bool.and_eq_true, decide_eq_true_eq, decide_eq_true_eq, h.firmE, h.len]
  exact ⟨by omega, by omega⟩
theorem Falls.ok (h : Falls n after cnt k keep d fm ats bss) (ha : after ≤ 1000) : d.Ok :=
  ⟨fun p hp => ⟨(h.mem p hp).1, by have := (h.mem p hp).2.1; have e := h.len; rw [← h.firmE] at e; omega⟩, (fun l k e => by rw [h.armedE] at e; cases e; omega), (fun e => by rw [h.onE] at e; cases e)⟩
theorem Falls.dark (h : Falls n after cnt k keep d fm ats bss) : Dark n k keep (d.crash keep) fm ats bss :=
  ⟨by simp only [DiskS.crash]; rw [h.waitsE, h.firmE], rfl, rfl, rfl, h.pair, h.few, by rw [← h.waitsE]; exact h.mem, h.len, h.row, h.writesE⟩
theorem Falls.gone (h : Falls n after cnt k keep d fm ats bss) (hc : ¬ cnt < after) : d.falls = (true, d.crash keep) := by
  unfold DiskS.falls
  rw [h.armedE]
  dsimp only
  rw [if_neg (by omega)]
theorem Falls.stays (h : Falls n after cnt k keep d fm ats bss) (hc : cnt < after) : d.falls = (false, { d with armed := some (((after - (cnt + 1) : Nat) : Int), keep) }) := by
  unfold DiskS.falls
  rw [h.armedE]
  dsimp only
  rw [if_pos (by omega)]
  have : ((after - cnt : Nat) : Int) - 1 = ((after - (cnt + 1) : Nat) : Int) := by omega
  rw [this]
theorem Falls.write (h : Falls n after cnt k keep d fm ats bss) {s : Nat} (hs : s < n) {b : List Int} (hb : b.length = 128) (hc : cnt < after) :
    (d.write s b).1 = 0 ∧ Falls n after (cnt + 1) (k + 1) keep (d.write s b).2 fm (ats ++ [(s : Int)]) (bss ++ [b]) := by
  have ha : d.asked (d.there s && decide (b.length = 128)) = 0 := by rw [h.there hs]; simp [asked, h.onE, hb]
  have e : d.write s b = (0, { d with armed := some (((after - (cnt + 1) : Nat) : Int), keep), waits := d.waits ++ [((s : Int), b)], writes := d.writes ++ [(s : Int)] }) := by
    unfold DiskS.write
    rw [if_pos ha, h.stays hc]
    rfl
  rw [e]
  refine ⟨rfl, h.firmE, h.onE, rfl, hc, ?_, by simp [h.pair], by simp; exact h.few, fun p hp => ?_, h.len, h.row, by simp; exact h.writesE, h.fl0, by have := h.fl1; dsimp only; omega⟩
  · dsimp only
    rw [h.waitsE, List.zip_append h.pair]
    rfl
  · simp only [List.mem_append, List.mem_singleton] at hp
    rcases hp with hp | rfl
    · exact h.mem p hp
    · exact ⟨Int.natCast_nonneg _, by simp; omega, hb⟩
theorem Falls.writeGone (h : Falls n after cnt k keep d fm ats bss) {s : Nat} (hs : s < n) {b : List Int} (hb : b.length = 128) (hc : ¬ cnt < after) :
    (d.write s b).1 = 4 ∧ Dark n k keep (d.write s b).2 fm ats bss := by
  have ha : d.asked (d.there s && decide (b.length = 128)) = 0 := by rw [h.there hs]; simp [asked, h.onE, hb]
  have e : d.write s b = (4, d.crash keep) := by
    unfold DiskS.write
    rw [if_pos ha, h.gone hc]
    rfl
  rw [e]
  exact ⟨rfl, h.dark⟩
theorem Falls.flush (h : Falls n after cnt k keep d fm ats bss) (hc : cnt < after) :
    d.flush.1 = 0 ∧ Falls n after (cnt + 1) (k + 1) keep d.flush.2 (layAll (ats.zip bss) fm) [] [] := by
  have ha : d.asked true = 0 := by simp [asked, h.onE]
  have e : d.flush = (0, { d with armed := some (((after - (cnt + 1) : Nat) : Int), keep), firm := layAll d.waits d.firm, waits := [], flushes := d.flushes + 1 }) := by
    unfold DiskS.flush
    rw [if_pos ha, h.stays hc]
    rfl
  rw [e]
  refine ⟨rfl, by dsimp only; rw [h.waitsE, h.firmE], h.onE, rfl, hc, rfl, rfl, Nat.zero_le _, fun p hp => by simp at hp, by rw [layAll_len, h.len], ?_, Nat.le_succ_of_le h.writesE, by have := h.fl0; dsimp only; omega, by have := h.fl1; dsimp only; omega⟩
  exact layAll_row _ (fun p hp => (h.mem p (by rw [h.waitsE]; exact hp)).2.2) _ h.row
theorem Falls.flushGone (h : Falls n after cnt k keep d fm ats bss) (hc : ¬ cnt < after) : d.flush.1 = 4 ∧ Dark n k keep d.flush.2 fm ats bss := by
  have ha : d.asked true = 0 := by simp [asked, h.onE]
  have e : d.flush = (4, d.crash keep) := by
    unfold DiskS.flush
    rw [if_pos ha, h.gone hc]
    rfl
  rw [e]
  exact ⟨rfl, h.dark⟩
theorem Falls.start (n after : Nat) (keep : List Bool) : ((new n).arm after keep).1 = 0 ∧ Falls n after 0 0 keep ((new n).arm after keep).2 (List.replicate n (zeros 128)) [] [] := by
  have e : (new n).arm after keep = (0, { new n with armed := some ((after : Int), keep) }) := by
    unfold DiskS.arm
    rw [if_pos (by simp [asked, new])]
  rw [e]
  exact ⟨rfl, rfl, rfl, rfl, Nat.zero_le _, rfl, rfl, Nat.le_refl _, fun p hp => by simp [new] at hp, by simp, fun p hp => by simp only [List.mem_replicate] at hp; rw [hp.2]; simp [zeros], Nat.le_refl _, Int.le_refl _, Int.le_refl _⟩
theorem Falls.more {k' : Nat} (h : Falls n after cnt k keep d fm ats bss) (hk : k ≤ k') : Falls n after cnt k' keep d fm ats bss :=
  ⟨h.firmE, h.onE, h.armedE, h.le, h.waitsE, h.pair, Nat.le_trans h.few hk, h.mem, h.len, h.row, Nat.le_trans h.writesE hk, h.fl0, by have := h.fl1; omega⟩
theorem Dark.more {k' : Nat} (h : Dark n k keep d fm ats bss) (hk : k ≤ k') : Dark n k' keep d fm ats bss :=
  ⟨h.firmE, h.waitsE, h.onE, h.armedE, h.pair, Nat.le_trans h.few hk, h.mem, h.len, h.row, Nat.le_trans h.writesE hk⟩
/-- One write more has been laid over the table. -/
theorem layAll_step {ws : List (Int × List Int)} {j : Nat} {p : Int × List Int} (h : ws[j]? = some p) (fm : List (List Int)) : (layAll (ws.take j) fm).set p.1.toNat p.2 = layAll (ws.take (j + 1)) fm := by
  obtain ⟨hj, rfl⟩ := List.getElem?_eq_some_iff.1 h
  rw [List.take_succ_eq_append_getElem hj, layAll_append]
  rfl
theorem layKept_yes {ws : List (Int × List Int)} {j : Nat} {p : Int × List Int} (h : ws[j]? = some p) (keep : List Bool) (fm : List (List Int)) (hl : lasts keep j = true) : (layKept keep 0 (ws.take j) fm).set p.1.toNat p.2 = layKept keep 0 (ws.take (j + 1)) fm := by
  obtain ⟨hj, rfl⟩ := List.getElem?_eq_some_iff.1 h
  rw [layKept_take _ _ _ _ hj, if_pos hl]
  rfl
theorem layKept_not {ws : List (Int × List Int)} {j : Nat} (hj : j < ws.length) (keep : List Bool) (fm : List (List Int)) (hl : lasts keep j = false) : layKept keep 0 (ws.take j) fm = layKept keep 0 (ws.take (j + 1)) fm := by
  rw [layKept_take _ _ _ _ hj, if_neg (by rw [hl]; decide)]
theorem layKept_row (keep : List Bool) (ws : List (Int × List Int)) : ∀ (k : Nat) (fm : List (List Int)), (∀ p ∈ ws, p.2.length = 128) → (∀ p ∈ fm, p.length = 128) → ∀ p ∈ layKept keep k ws fm, p.length = 128 := by
  induction ws with
  | nil => intro k fm _ h; exact h
  | cons q ws ih =>
    intro k fm hw h
    simp only [layKept]
    refine ih _ _ (fun p hp => hw p (by simp [hp])) ?_
    split
    · intro p hp
      rcases List.mem_or_eq_of_mem_set hp with h' | h'
      · exact h p h'
      · rw [h']; exact hw q (by simp)
    · exact h
theorem Dark.row_ (h : Dark n k keep d fm ats bss) : d.firm.length = n ∧ ∀ p ∈ d.firm, p.length = 128 := by
  rw [h.firmE]
  exact ⟨by rw [layKept_length, h.len], layKept_row _ _ _ _ (fun p hp => (h.mem p hp).2.2) h.row⟩
/-- The power is back: a write goes well. -/
theorem Dark.back (h : Dark n k keep d fm ats bss) (hn : 1 ≤ n) {b : List Int} (hb : b.length = 128) : d.boot.1 = 0 ∧ d.boot.2.Ok ∧ d.boot.2.waits = [] ∧ d.boot.2.writes.length ≤ k ∧ (d.boot.2.write 0 b).1 = 0 := by
  have e : d.boot = (0, { d with on := true }) := by unfold DiskS.boot; rw [if_neg (by rw [h.onE]; decide)]
  have hl := h.row_.1
  rw [e]
  refine ⟨rfl, ⟨(fun p hp => by rw [show ({ d with on := true } : DiskS).waits = d.waits from rfl, h.waitsE] at hp; simp at hp), (fun l k e => by rw [show ({ d with on := true } : DiskS).armed = d.armed from rfl, h.armedE] at e; cases e), (fun e => by cases e)⟩, h.waitsE, h.writesE, ?_⟩
  have ht : ({ d with on := true } : DiskS).there 0 = true := by
    unfold DiskS.there
    rw [Bool.and_eq_true, decide_eq_true_eq, decide_eq_true_eq]
    exact ⟨by omega, by dsimp only; omega⟩
  have ha : ({ d with on := true } : DiskS).asked (({ d with on := true } : DiskS).there 0 && decide (b.length = 128)) = 0 := by rw [ht]; simp [asked, hb]
  have hf : ({ d with on := true } : DiskS).falls = (false, { d with on := true }) := by unfold DiskS.falls; dsimp only; rw [h.armedE]
  unfold DiskS.write
  rw [if_pos ha, hf]
  rfl
end DiskS
end Go.Proofs.Ytfmfedfalljokaa
