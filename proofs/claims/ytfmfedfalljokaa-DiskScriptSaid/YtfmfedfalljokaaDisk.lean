/-
  The disk in memory, and its methods walked.
-/
import Derived.Test.YtfmfedfalljokaaDiskM
namespace Go.Proofs.Ytfmfedfalljokaa
open Go.RowKit

theorem info_bytes : (Try.prog.info? 28).map (fun i => (i.zero, i.size, i.bytes)) = some (some (.slice none 0 0), 1, 24) := by kernel_rfl
theorem info_write : (Try.prog.info? 88).map (fun i => (i.zero, i.size, i.bytes)) = some (some (.agg #[.int .i64 0, .slice none 0 0]), 2, 32) := by kernel_rfl

abbrev ptr (g : Nat) : Value := .pointer (some ⟨g, 0, none⟩)
def bv (l : List Bool) : List Value := l.map Value.bool
def wcells (ws : List (Int × Value)) : List Value := ws.flatMap fun p => [.int .i64 p.1, p.2]

def ArmIs (F : Nat → Prop) (w : World) (av : Value) : Option (Int × List Bool) → Prop
  | none => av = .pointer none
  | some (left, keep) => ∃ ga kv, av = ptr ga ∧ F ga ∧ Blk w ga 95 #[.int .i64 left, kv] ∧ Own w 4 1 kv keep.length (bv keep) ∧ In F kv

structure DiskIn (F : Nat → Prop) (w : World) (g : Nat) (d : DiskS) (fv wv av rv : Value) (fvs : List Value) (ws : List (Int × Value)) : Prop where
  blk : Blk w g 83 #[fv, wv, .bool d.on, av, rv, .int .i64 d.flushes]
  fg : F g
  inf : In F fv
  inw : In F wv
  inr : In F rv
  firm : Own w 28 1 fv d.firm.length fvs
  firms : All2 (ByteIn F w) fvs d.firm
  waits : Own w 88 2 wv d.waits.length (wcells ws)
  waitss : All2 (fun (p : Int × Value) (q : Int × List Int) => p.1 = q.1 ∧ ByteIn F w p.2 q.2) ws d.waits
  armed : ArmIs F w av d.armed
  writes : Own w 3 1 rv d.writes.length (iv .i64 d.writes)
  low : ∀ b, F b → b < w.heap.size

def DiskAt (F : Nat → Prop) (w : World) (g : Nat) (d : DiskS) : Prop := ∃ fv wv av rv fvs ws, DiskIn F w g d fv wv av rv fvs ws

theorem ArmIs.keep {F S : Nat → Prop} {w w' : World} {av : Value} {o : Option (Int × List Bool)} (h : ArmIs F w av o) (hk : Keep S w w') (hS : ∀ b, F b → ¬ S b) : ArmIs F w' av o := by
  rcases o with _ | ⟨left, keep⟩
  · exact h
  · obtain ⟨ga, kv, e, hf, hb, ho, hi⟩ := h
    exact ⟨ga, kv, e, hf, hb.keep hk (hS _ hf), own_keep ho hk (fun k e => hS k (hi k e)), hi⟩
theorem ArmIs.mono {F G : Nat → Prop} {w : World} {av : Value} {o : Option (Int × List Bool)} (h : ArmIs F w av o) (hk : ∀ b, F b → G b) : ArmIs G w av o := by
  rcases o with _ | ⟨left, keep⟩
  · exact h
  · obtain ⟨ga, kv, e, hf, hb, ho, hi⟩ := h
    exact ⟨ga, kv, e, hk _ hf, hb, ho, hi.mono hk⟩
theorem ArmIs.ty {F : Nat → Prop} {w w' : World} {t : TypeId} {av : Value} {o : Option (Int × List Bool)} (h : ArmIs F w av o) (hk : Keep (OfType w t) w w') (h1 : 95 ≠ t) (h2 : 4 ≠ t) : ArmIs F w' av o := by
  rcases o with _ | ⟨left, keep⟩
  · exact h
  · obtain ⟨ga, kv, e, hf, hb, ho, hi⟩ := h
    exact ⟨ga, kv, e, hf, hb.ty hk h1, own_ty ho hk h2, hi⟩
theorem DiskIn.keep {F S : Nat → Prop} {w w' : World} {g : Nat} {d : DiskS} {fv wv av rv : Value} {fvs : List Value} {ws : List (Int × Value)} (h : DiskIn F w g d fv wv av rv fvs ws) (hk : Keep S w w') (hS : ∀ b, F b → ¬ S b) :
    DiskIn F w' g d fv wv av rv fvs ws :=
  { blk := h.blk.keep hk (hS _ h.fg), fg := h.fg, inf := h.inf, inw := h.inw, inr := h.inr
    firm := own_keep h.firm hk (fun k e => hS k (h.inf k e)), firms := h.firms.imp fun _ _ _ _ r => r.keep hk hS
    waits := own_keep h.waits hk (fun k e => hS k (h.inw k e)), waitss := h.waitss.imp fun _ _ _ _ r => ⟨r.1, r.2.keep hk hS⟩
    armed := h.armed.keep hk hS, writes := own_keep h.writes hk (fun k e => hS k (h.inr k e)), low := fun b hb => Nat.lt_of_lt_of_le (h.low b hb) hk.size }
theorem DiskAt.keep {F S : Nat → Prop} {w w' : World} {g : Nat} {d : DiskS} (h : DiskAt F w g d) (hk : Keep S w w') (hS : ∀ b, F b → ¬ S b) : DiskAt F w' g d := by
  obtain ⟨fv, wv, av, rv, fvs, ws, h⟩ := h
  exact ⟨fv, wv, av, rv, fvs, ws, h.keep hk hS⟩
theorem DiskAt.fresh {F : Nat → Prop} {w w' : World} {g : Nat} {d : DiskS} (h : DiskAt F w g d) (hk : Fresh w w') : DiskAt F w' g d := h.keep hk (fun _ _ f => f)
theorem DiskIn.mono {F G : Nat → Prop} {w : World} {g : Nat} {d : DiskS} {fv wv av rv : Value} {fvs : List Value} {ws : List (Int × Value)} (h : DiskIn F w g d fv wv av rv fvs ws) (hk : ∀ b, F b → G b) (hl : ∀ b, G b → b < w.heap.size) :
    DiskIn G w g d fv wv av rv fvs ws :=
  { blk := h.blk, fg := hk _ h.fg, inf := h.inf.mono hk, inw := h.inw.mono hk, inr := h.inr.mono hk, firm := h.firm, firms := h.firms.imp fun _ _ _ _ r => r.mono hk
    waits := h.waits, waitss := h.waitss.imp fun _ _ _ _ r => ⟨r.1, r.2.mono hk⟩, armed := h.armed.mono hk, writes := h.writes, low := hl }
theorem DiskIn.cells {F : Nat → Prop} {w : World} {g : Nat} {d : DiskS} {fv wv av rv : Value} {fvs : List Value} {ws : List (Int × Value)} (h : DiskIn F w g d fv wv av rv fvs ws) :
    w.cell? ⟨g, 0, none⟩ = some fv ∧ w.cell? ⟨g, 1, none⟩ = some wv ∧ w.cell? ⟨g, 2, none⟩ = some (.bool d.on) ∧ w.cell? ⟨g, 3, none⟩ = some av ∧ w.cell? ⟨g, 4, none⟩ = some rv ∧ w.cell? ⟨g, 5, none⟩ = some (.int .i64 d.flushes) :=
  ⟨h.blk.cell 0, h.blk.cell 1, h.blk.cell 2, h.blk.cell 3, h.blk.cell 4, h.blk.cell 5⟩

/-- A block of the disk's own kind has been written. -/
theorem DiskIn.self {F : Nat → Prop} {w w' : World} {g : Nat} {d : DiskS} {fv wv av rv : Value} {fvs : List Value} {ws : List (Int × Value)} (h : DiskIn F w g d fv wv av rv fvs ws)
    (hk : Keep (OfType w 83) w w') {on : Bool} {fl : Int} (hb : Blk w' g 83 #[fv, wv, .bool on, av, rv, .int .i64 fl]) :
    DiskIn F w' g { d with on := on, flushes := fl } fv wv av rv fvs ws :=
  { blk := hb, fg := h.fg, inf := h.inf, inw := h.inw, inr := h.inr
    firm := own_ty h.firm hk (by decide), firms := h.firms.imp fun _ _ _ _ r => r.ty hk (by decide)
    waits := own_ty h.waits hk (by decide), waitss := h.waitss.imp fun _ _ _ _ r => ⟨r.1, r.2.ty hk (by decide)⟩
    armed := h.armed.ty hk (by decide) (by decide)
    writes := own_ty h.writes hk (by decide), low := fun b hb => Nat.lt_of_lt_of_le (h.low b hb) hk.size }

/-! ### the small methods -/
theorem Sectors_calls {F : Nat → Prop} {w : World} {g : Nat} {d : DiskS} (h : DiskAt F w g d) :
    Calls Try.prog 30 #[ptr g] w fun e w' => e = .returned (.int .i64 d.firm.length) ∧ w = w' := by
  obtain ⟨fv, wv, av, rv, fvs, ws, h⟩ := h
  obtain ⟨c0, -, -, -, -, -⟩ := h.cells
  obtain ⟨A, c, rfl, hc, hr⟩ := Own.rd h.firm
  go_enter Try.func30, Try.ntmps30
  go_wp2
  go_ret
  exact ⟨rfl, rfl⟩
theorem Sectors_nil (w : World) : Calls Try.prog 30 #[.pointer none] w fun e w' => e = .returned (.int .i64 0) ∧ w = w' := by
  go_enter Try.func30, Try.ntmps30
  go_wp2
  go_ret
  exact ⟨rfl, rfl⟩
theorem there_calls {F : Nat → Prop} {w : World} {g : Nat} {d : DiskS} (h : DiskAt F w g d) (x : Int) :
    Calls Try.prog 50 #[ptr g, .int .i64 x] w fun e w' => e = .returned (.bool (d.there x)) ∧ w = w' := by
  by_cases h0 : 0 ≤ x
  · go_enter Try.func50, Try.ntmps50
    go_wp2_with (go_at_call 30; refine (Sectors_calls h).mono ?_; rintro e w' ⟨rfl, rfl⟩)
    go_ret
    exact ⟨ret_bool (by simp [DiskS.there, h0]), rfl⟩
  · go_enter Try.func50, Try.ntmps50
    go_wp2_with (go_at_call 30; refine (Sectors_calls h).mono ?_; rintro e w' ⟨rfl, rfl⟩)
    go_ret
    exact ⟨ret_bool (by simp [DiskS.there]; omega), rfl⟩
theorem asked_calls {F : Nat → Prop} {w : World} {g : Nat} {d : DiskS} (h : DiskAt F w g d) (good : Bool) :
    Calls Try.prog 49 #[ptr g, .bool good] w fun e w' => e = .returned (.int .i64 (d.asked good)) ∧ w = w' := by
  obtain ⟨fv, wv, av, rv, fvs, ws, h⟩ := h
  obtain ⟨-, -, c2, -, -, -⟩ := h.cells
  cases hon : d.on with
  | false =>
    rw [hon] at c2
    go_enter Try.func49, Try.ntmps49
    go_wp2
    go_ret
    exact ⟨ret_int (by simp [DiskS.asked, hon]), rfl⟩
  | true =>
    rw [hon] at c2
    cases good with
    | false =>
      go_enter Try.func49, Try.ntmps49
      go_wp2
      go_ret
      exact ⟨ret_int (by simp [DiskS.asked, hon]), rfl⟩
    | true =>
      go_enter Try.func49, Try.ntmps49
      go_wp2
      go_ret
      exact ⟨ret_int (by simp [DiskS.asked, hon]), rfl⟩
theorem asked_nil (w : World) (good : Bool) :
    Calls Try.prog 49 #[.pointer none, .bool good] w fun e w' => e = .returned (.int .i64 1) ∧ w = w' := by
  go_enter Try.func49, Try.ntmps49
  go_wp2
  go_ret
  exact ⟨rfl, rfl⟩
theorem On_calls {F : Nat → Prop} {w : World} {g : Nat} {d : DiskS} (h : DiskAt F w g d) :
    Calls Try.prog 26 #[ptr g] w fun e w' => e = .returned (.bool d.on) ∧ w = w' := by
  obtain ⟨fv, wv, av, rv, fvs, ws, h⟩ := h
  obtain ⟨-, -, c2, -, -, -⟩ := h.cells
  go_enter Try.func26, Try.ntmps26
  go_wp2
  go_ret
  exact ⟨rfl, rfl⟩
theorem Flushes_calls {F : Nat → Prop} {w : World} {g : Nat} {d : DiskS} (h : DiskAt F w g d) :
    Calls Try.prog 28 #[ptr g] w fun e w' => e = .returned (.int .i64 d.flushes) ∧ w = w' := by
  obtain ⟨fv, wv, av, rv, fvs, ws, h⟩ := h
  obtain ⟨-, -, -, -, -, c5⟩ := h.cells
  go_enter Try.func28, Try.ntmps28
  go_wp2
  go_ret
  exact ⟨rfl, rfl⟩
theorem Boot_calls {F : Nat → Prop} {w : World} {g : Nat} {d : DiskS} (h : DiskAt F w g d) :
    Calls Try.prog 21 #[ptr g] w fun e w' => e = .returned (.int .i64 d.boot.1) ∧ DiskAt F w' g d.boot.2 ∧ Keep F w w' := by
  have h' := h
  obtain ⟨fv, wv, av, rv, fvs, ws, h⟩ := h
  obtain ⟨-, -, c2, -, -, -⟩ := h.cells
  have fz := h.blk.frozen 2
  cases hon : d.on with
  | false =>
    rw [hon] at c2
    go_enter Try.func21, Try.ntmps21
    go_wp2
    go_ret
    refine ⟨ret_int (by simp [DiskS.boot, hon]), ?_, (Keep.refl F w).setCell (p := ⟨g, 2, none⟩) (fun _ => h.fg) _⟩
    have hs := h.self (on := true) (fl := d.flushes) ((Keep.refl _ w).setCell (p := ⟨g, 2, none⟩) (fun _ => h.blk.ofType) (.bool true)) (by simpa using h.blk.set_ 2 (.bool true))
    exact ⟨_, _, _, _, _, _, by simpa [DiskS.boot, hon] using hs⟩
  | true =>
    rw [hon] at c2
    go_enter Try.func21, Try.ntmps21
    go_wp2
    go_ret
    exact ⟨ret_int (by simp [DiskS.boot, hon]), by simpa [DiskS.boot, hon] using h', Keep.refl _ _⟩
theorem Writes_calls {F : Nat → Prop} {w : World} {g : Nat} {d : DiskS} (h : DiskAt F w g d) (hn : d.writes.length ≤ 1000000) :
    Calls Try.prog 20 #[ptr g] w fun e w' => ∃ v, e = .returned v ∧ NewB w w' 3 .i64 v d.writes.length d.writes := by
  obtain ⟨fv, wv, av, rv, fvs, ws, h⟩ := h
  obtain ⟨-, -, -, -, c4, -⟩ := h.cells
  obtain ⟨A, c, rfl, hc, hr⟩ := Own.rd h.writes
  go_enter Try.func20, Try.ntmps20
  go_wp2_with (go_at_call 53; refine (CloneI_calls w hr (by omega)).mono ?_; rintro e w' ⟨v, rfl, hnew⟩)
  go_ret
  exact ⟨v, rfl, hnew⟩
end Go.Proofs.Ytfmfedfalljokaa
