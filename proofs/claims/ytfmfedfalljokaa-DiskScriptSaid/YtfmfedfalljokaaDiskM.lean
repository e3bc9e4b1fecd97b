/-
  The disk as a plain thing: what is firm, what waits, the power. No program in sight.
-/
import Derived.Test.YtfmfedfalljokaaMem
namespace Go.Proofs.Ytfmfedfalljokaa

structure DiskS where
  firm : List (List Int)
  waits : List (Int × List Int)
  on : Bool
  armed : Option (Int × List Bool)
  writes : List Int
  flushes : Int

namespace DiskS
/-- The bytes that a keep lets last, of the writes from the k-th on. -/
def lasts (keep : List Bool) (k : Nat) : Bool := decide (0 < keep.length) && keep.getD (k % keep.length) false
def layOne (firm : List (List Int)) (p : Int × List Int) : List (List Int) := firm.set p.1.toNat p.2
def layKept (keep : List Bool) : Nat → List (Int × List Int) → List (List Int) → List (List Int)
  | _, [], firm => firm
  | k, p :: ps, firm => layKept keep (k + 1) ps (if lasts keep k then layOne firm p else firm)
def layAll (ws : List (Int × List Int)) (firm : List (List Int)) : List (List Int) := ws.foldl layOne firm
def new (n : Nat) : DiskS := { firm := List.replicate n (List.replicate 128 0), waits := [], on := true, armed := none, writes := [], flushes := 0 }
def crash (d : DiskS) (keep : List Bool) : DiskS := { d with firm := layKept keep 0 d.waits d.firm, waits := [], armed := none, on := false }
/-- The power at a write or flush that would go well. -/
def falls (d : DiskS) : Bool × DiskS :=
  match d.armed with
  | none => (false, d)
  | some (left, keep) => if 0 < left then (false, { d with armed := some (left - 1, keep) }) else (true, d.crash keep)
def there (d : DiskS) (at_ : Int) : Bool := decide (0 ≤ at_) && decide (at_ < d.firm.length)
def asked (d : DiskS) (good : Bool) : Int := if d.on then (if good then 0 else 2) else 4
def write (d : DiskS) (at_ : Int) (b : List Int) : Int × DiskS :=
  if d.asked (d.there at_ && decide (b.length = 128)) = 0 then
    (if d.falls.1 then (4, d.falls.2) else (0, { d.falls.2 with waits := d.falls.2.waits ++ [(at_, b)], writes := d.falls.2.writes ++ [at_] }))
  else (d.asked (d.there at_ && decide (b.length = 128)), d)
def flush (d : DiskS) : Int × DiskS :=
  if d.asked true = 0 then
    (if d.falls.1 then (4, d.falls.2) else (0, { d.falls.2 with firm := layAll d.falls.2.waits d.falls.2.firm, waits := [], flushes := d.falls.2.flushes + 1 }))
  else (d.asked true, d)
def arm (d : DiskS) (after : Int) (keep : List Bool) : Int × DiskS :=
  if d.asked (decide (0 ≤ after)) = 0 then (0, { d with armed := some (after, keep) }) else (d.asked (decide (0 ≤ after)), d)
def boot (d : DiskS) : Int × DiskS := if d.on then (19, d) else (0, { d with on := true })
def last (ws : List (Int × List Int)) (at_ : Int) (old : List Int) : List Int := ws.foldl (fun o p => if p.1 = at_ then p.2 else o) old
def read (d : DiskS) (at_ : Int) : Int × List Int :=
  if d.asked (d.there at_) = 0 then (0, last d.waits at_ (d.firm.getD at_.toNat [])) else (d.asked (d.there at_), [])
theorem layKept_append (keep : List Bool) (ws : List (Int × List Int)) (p : Int × List Int) : ∀ (k : Nat) (firm : List (List Int)),
    layKept keep k (ws ++ [p]) firm = if lasts keep (k + ws.length) then layOne (layKept keep k ws firm) p else layKept keep k ws firm := by
  induction ws with
  | nil => intro k firm; simp [layKept]
  | cons q ws ih => intro k firm; simp only [List.cons_append, layKept, ih, List.length_cons]; rw [show k + 1 + ws.length = k + (ws.length + 1) from by omega]
theorem layKept_take (keep : List Bool) (ws : List (Int × List Int)) (firm : List (List Int)) (k : Nat) (hk : k < ws.length) :
    layKept keep 0 (ws.take (k + 1)) firm = if lasts keep k then layOne (layKept keep 0 (ws.take k) firm) ws[k] else layKept keep 0 (ws.take k) firm := by
  rw [List.take_succ_eq_append_getElem hk, layKept_append]
  simp [Nat.min_eq_left (Nat.le_of_lt hk)]
theorem layKept_length (keep : List Bool) (ws : List (Int × List Int)) : ∀ (k : Nat) (firm : List (List Int)), (layKept keep k ws firm).length = firm.length := by
  induction ws with
  | nil => intro k firm; rfl
  | cons q ws ih => intro k firm; simp only [layKept, ih]; split <;> simp [layOne]
/-- What waits is of sectors that are there. -/
def Fit (d : DiskS) : Prop := ∀ p ∈ d.waits, 0 ≤ p.1 ∧ p.1 < d.firm.length
/-- What a disk is between two calls. -/
structure Ok (d : DiskS) : Prop where
  fit : d.Fit
  left : ∀ l k, d.armed = some (l, k) → 0 ≤ l ∧ l ≤ 9223372036854775807
  off : d.on = false → d.armed = none
theorem falls_same (d : DiskS) (h : d.falls.1 = false) : d.falls.2.firm = d.firm ∧ d.falls.2.waits = d.waits ∧ d.falls.2.on = d.on ∧ d.falls.2.writes = d.writes ∧ d.falls.2.flushes = d.flushes := by
  unfold falls at *
  split
  · exact ⟨rfl, rfl, rfl, rfl, rfl⟩
  · rename_i l k e
    rw [e] at h
    by_cases hl : 0 < l
    · rw [if_pos hl]; exact ⟨rfl, rfl, rfl, rfl, rfl⟩
    · simp [hl] at h
theorem crash_fit (d : DiskS) (k : List Bool) : (d.crash k).Fit := fun p hp => by simp [crash] at hp
theorem crash_ok (d : DiskS) (k : List Bool) : (d.crash k).Ok := ⟨crash_fit d k, fun l k h => by simp [crash] at h, fun _ => rfl⟩
theorem falls_ok (d : DiskS) (h : d.Ok) : d.falls.2.Ok := by
  unfold falls
  split
  · exact h
  · rename_i l k e
    have := h.left l k e
    by_cases hl : 0 < l
    · rw [if_pos hl]
      exact ⟨h.fit, fun l' k' e' => by simp at e'; omega, fun ho => by have := h.off ho; rw [e] at this; cases this⟩
    · rw [if_neg hl]; exact crash_ok d k
end DiskS
end Go.Proofs.Ytfmfedfalljokaa
