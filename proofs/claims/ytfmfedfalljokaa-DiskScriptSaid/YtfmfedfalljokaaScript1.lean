/-
  DiskScript: acts, what a disk is throughout a script, and an image whose rows lie apart.
-/
import Derived.Test.YtfmfedfalljokaaRefD
import Derived.Test.YtfmfedfalljokaaLend
namespace Go.Proofs.Ytfmfedfalljokaa
open Go.RowKit

/-- An act, as it lies: its keep is a slice that came in. -/
structure ActS where
  do_ : Int
  at_ : Int
  n : Int
  short : Bool
  kA : Option Addr
  kn : Nat
  kc : Nat
  keep : List Bool
def ActS.cells (x : ActS) : List Value := [.int .i64 x.do_, .int .i64 x.at_, .int .i64 x.n, .bool x.short, .slice x.kA x.kn x.kc]
structure ActS.Ok (x : ActS) (w : World) : Prop where
  keep : Rd w 1 x.kA x.kn (bv x.keep)
  n : x.n ≤ 9223372036854775807
theorem ActS.Ok.fresh {x : ActS} {w w' : World} (h : x.Ok w) (hk : Fresh w w') : x.Ok w' := ⟨h.keep.fresh hk, h.n⟩
/-- Acts that came in. -/
structure IsActs (w : World) (a : Option Addr) (len : Nat) (l : List ActS) : Prop where
  lenE : l.length = len
  leE : len ≤ 9223372036854775807
  cells : 0 < len → ∃ ad, a = some ad ∧ ∀ (i : Nat) (x : ActS), l[i]? = some x → ∀ (j : Nat) (u : Value), x.cells[j]? = some u → w.cell? (ad.add (i * 5 + j)) = some u
  ok : ∀ x ∈ l, x.Ok w
theorem IsActs.fresh {w w' : World} {a : Option Addr} {len : Nat} {l : List ActS} (h : IsActs w a len l) (hk : Fresh w w') : IsActs w' a len l :=
  ⟨h.lenE, h.leE, (fun hl => by
    obtain ⟨ad, e, hc⟩ := h.cells hl
    exact ⟨ad, e, fun i x hx j u hu => hk.cell_some (hc i x hx j u hu) (fun f => f)⟩), fun x hx => (h.ok x hx).fresh hk⟩

namespace DiskS
def act (d : DiskS) (x : ActS) : DiskS :=
  if x.do_ = 0 then d else if x.do_ = 1 then (d.write x.at_ (fillL x.n (if x.short then 127 else 128))).2 else if x.do_ = 2 then d.flush.2 else if x.do_ = 3 then (d.arm x.n x.keep).2
  else if x.do_ = 4 then d.crash x.keep else if x.do_ = 5 then d.boot.2 else d
structure Inv (n k : Nat) (d : DiskS) : Prop where
  ok : d.Ok
  sec : Sec d
  len : d.firm.length = n
  waits : d.waits.length ≤ k
  writes : d.writes.length ≤ k
  fl0 : 0 ≤ d.flushes
  fl1 : d.flushes ≤ k
theorem Inv.new (n : Nat) : Inv n 0 (DiskS.new n) :=
  ⟨⟨(fun p hp => by simp [DiskS.new] at hp), (fun l k h => by simp [DiskS.new] at h), fun h => by simp [DiskS.new] at h⟩, ⟨fun p hp => by simp [DiskS.new] at hp; rw [hp.2]; simp, fun p hp => by simp [DiskS.new] at hp⟩, by simp [DiskS.new], by simp [DiskS.new], by simp [DiskS.new], by simp [DiskS.new], by simp [DiskS.new]⟩
theorem Inv.more {n k k' : Nat} {d : DiskS} (h : Inv n k d) (hk : k ≤ k') : Inv n k' d := ⟨h.ok, h.sec, h.len, by have := h.waits; omega, by have := h.writes; omega, h.fl0, by have := h.fl1; omega⟩
theorem layOne_row {fm : List (List Int)} {p : Int × List Int} (h : ∀ l ∈ fm, l.length = 128) (hp : p.2.length = 128) : ∀ l ∈ layOne fm p, l.length = 128 := fun l hl => by
  rcases List.mem_or_eq_of_mem_set hl with hl | rfl
  · exact h l hl
  · exact hp
theorem layKept_row (keep : List Bool) (ws : List (Int × List Int)) : ∀ (k : Nat) (fm : List (List Int)), (∀ l ∈ fm, l.length = 128) → (∀ p ∈ ws, p.2.length = 128) → ∀ l ∈ layKept keep k ws fm, l.length = 128 := by
  induction ws with
  | nil => intro k fm h _; exact h
  | cons p ws ih =>
    intro k fm h hp
    simp only [layKept]
    refine ih (k + 1) _ ?_ (fun q hq => hp q (by simp [hq]))
    split
    · exact layOne_row h (hp p (by simp))
    · exact h
theorem layAll_row (ws : List (Int × List Int)) : ∀ (fm : List (List Int)), (∀ l ∈ fm, l.length = 128) → (∀ p ∈ ws, p.2.length = 128) → ∀ l ∈ layAll ws fm, l.length = 128 := by
  induction ws with
  | nil => intro fm h _; exact h
  | cons p ws ih =>
    intro fm h hp
    simp only [layAll, List.foldl_cons]
    exact ih _ (layOne_row h (hp p (by simp))) (fun q hq => hp q (by simp [hq]))
theorem Inv.crash {n k : Nat} {d : DiskS} (h : Inv n k d) (keep : List Bool) : Inv n k (d.crash keep) :=
  ⟨crash_ok d keep, ⟨layKept_row keep d.waits 0 d.firm h.sec.1 h.sec.2, fun p hp => by simp [DiskS.crash] at hp⟩, by simp [DiskS.crash, layKept_length, h.len], by simp [DiskS.crash], h.writes, h.fl0, h.fl1⟩
theorem Inv.falls {n k : Nat} {d : DiskS} (h : Inv n k d) : Inv n k d.falls.2 := by
  have hok := falls_ok d h.ok
  unfold DiskS.falls at hok ⊢
  split
  · exact h
  · split
    · rename_i l kp e hl
      simp only [e, hl, if_true] at hok
      exact ⟨hok, h.sec, h.len, h.waits, h.writes, h.fl0, h.fl1⟩
    · exact h.crash _
theorem asked_zero {d : DiskS} {b : Bool} (h : d.asked b = 0) : d.on = true ∧ b = true := by
  unfold asked at h
  cases ho : d.on <;> cases b <;> simp [ho] at h <;> simp
theorem falls_on {d : DiskS} (h : d.falls.1 = false) : d.falls.2.on = d.on := (falls_same d h).2.2.1
theorem Inv.write {n k : Nat} {d : DiskS} (h : Inv n k d) (x : Int) (b : List Int) : Inv n (k + 1) (d.write x b).2 := by
  unfold DiskS.write
  split
  · rename_i ha
    obtain ⟨hon, hg⟩ := asked_zero ha
    simp only [Bool.and_eq_true, decide_eq_true_eq] at hg
    obtain ⟨ht, hb⟩ := hg
    obtain ⟨hx0, hx1⟩ : 0 ≤ x ∧ x < d.firm.length := by simpa [there] using ht
    have hf := h.falls
    split
    · exact hf.more (by omega)
    · rename_i hfa
      have hfa : d.falls.1 = false := by simpa using hfa
      have hs := falls_same d hfa
      have ho := falls_on hfa
      refine ⟨⟨fun p hp => ?_, hf.ok.left, hf.ok.off⟩, ⟨hf.sec.1, fun p hp => ?_⟩, hf.len, ?_, ?_, hf.fl0, ?_⟩
      · simp only [List.mem_append, List.mem_singleton] at hp
        rcases hp with hp | rfl
        · exact hf.ok.fit p hp
        · exact ⟨hx0, by show x < (d.falls.2.firm.length : Int); rw [hs.1]; exact hx1⟩
      · simp only [List.mem_append, List.mem_singleton] at hp
        rcases hp with hp | rfl
        · exact hf.sec.2 p hp
        · exact hb
      · have := hf.waits; simp; omega
      · have := hf.writes; simp; omega
      · have := hf.fl1; simp only; omega
  · exact h.more (by omega)
theorem Inv.flush {n k : Nat} {d : DiskS} (h : Inv n k d) : Inv n (k + 1) d.flush.2 := by
  unfold DiskS.flush
  split
  · have hf := h.falls
    split
    · exact hf.more (by omega)
    · exact ⟨⟨(fun p hp => by simp at hp), hf.ok.left, hf.ok.off⟩, ⟨layAll_row _ _ hf.sec.1 hf.sec.2, fun p hp => by simp at hp⟩, by rw [← hf.len]; exact layAll_length _ _, by simp, by have := hf.writes; simp only; omega, by have := hf.fl0; simp only; omega, by have := hf.fl1; simp only; omega⟩
  · exact h.more (by omega)
theorem Inv.arm {n k : Nat} {d : DiskS} (h : Inv n k d) (x : Int) (keep : List Bool) (hx : x ≤ 9223372036854775807) : Inv n k (d.arm x keep).2 := by
  unfold DiskS.arm
  split
  · rename_i ha
    obtain ⟨hon, hg⟩ := asked_zero ha
    have hx0 : 0 ≤ x := by simpa using hg
    exact ⟨⟨h.ok.fit, (fun l k e => by simp at e; obtain ⟨rfl, -⟩ := e; exact ⟨hx0, hx⟩), fun ho => by rw [show d.on = false from ho] at hon; cases hon⟩, h.sec, h.len, h.waits, h.writes, h.fl0, h.fl1⟩
  · exact h
theorem Inv.boot {n k : Nat} {d : DiskS} (h : Inv n k d) : Inv n k d.boot.2 := by
  unfold DiskS.boot
  split
  · exact h
  · exact ⟨⟨h.ok.fit, h.ok.left, fun ho => by simp at ho⟩, h.sec, h.len, h.waits, h.writes, h.fl0, h.fl1⟩
theorem Inv.act {n k : Nat} {d : DiskS} (h : Inv n k d) (x : ActS) (hx : x.n ≤ 9223372036854775807) : Inv n (k + 1) (d.act x) := by
  unfold DiskS.act
  split
  · exact h.more (by omega)
  · split
    · exact h.write _ _
    · split
      · exact h.flush
      · split
        · exact (h.arm _ _ hx).more (by omega)
        · split
          · exact (h.crash _).more (by omega)
          · split
            · exact h.boot.more (by omega)
            · exact h.more (by omega)
end DiskS

/-! ### an image whose rows lie apart -/
def ImgPost (w : World) (ls : List (List Int)) (e : Ending) (w' : World) : Prop := ∃ v vs, e = .returned v ∧ NewL w w' v vs ls ∧ ApartL vs
theorem NewL.lows {w w' : World} {v : Value} {vs : List Value} {ls : List (List Int)} (h : NewL w w' v vs ls) : ∀ x ∈ vs, ∀ b, x.ownBlock = some b → b < w'.heap.size := fun x hx b hb => by
  obtain ⟨i, hi, rfl⟩ := List.mem_iff_getElem.1 hx
  have hi2 : i < ls.length := by rw [← h.2.1.1]; exact hi
  exact own_lt (h.2.1.2 i _ _ (List.getElem?_eq_getElem hi) (List.getElem?_eq_getElem hi2)).1 hb
set_option maxHeartbeats 1000000 in
theorem Image_apart {F : Nat → Prop} {w : World} {g : Nat} {d : DiskS} (h : DiskAt F w g d) (hn : d.firm.length ≤ 1000000) (hb : ∀ l ∈ d.firm, l.length ≤ 1000000) :
    Calls Try.prog 19 #[ptr g] w (ImgPost w d.firm) := by
  obtain ⟨fv, wv, av, rv, fvs, ws, h⟩ := h
  obtain ⟨c0, -, -, -, -, -⟩ := h.cells
  obtain ⟨A, c, rfl, hc, hr⟩ := Own.rd h.firm
  go_enter Try.func19, Try.ntmps19
  go_wp2
  go_loopw [3, 13] (fun v i wr => ∃ (k : Nat) (vs : List Value), k ≤ d.firm.length ∧ i = .int .i64 k ∧ NewL w wr v vs (d.firm.take k) ∧ ApartL vs) (fun _ i _ => d.firm.length - (intOf i).toNat)
  case atStart => exact ⟨0, [], Nat.zero_le _, rfl, ⟨Own.nil _ _ _, All2.nil, Keep.refl _ _, freshV_none _ _ _⟩, ApartL.nil⟩
  case round =>
    obtain ⟨k, vs, hk, rfl, hnew, hap⟩ := hrel
    by_cases hlt : k < d.firm.length
    · have hrr := hr.fresh hnew.2.2.1
      obtain ⟨ad, rfl, u, hu, hcu⟩ := hrr.at_ hlt
      obtain ⟨x, l, hx, hl, hbx⟩ := h.firms.get hlt
      rw [hu] at hx
      injection hx with hx
      subst hx
      have hbx' := hbx.fresh hnew.2.2.1
      obtain ⟨B, cb, rfl, _, hrb⟩ := Own.rd hbx'.1
      have hll := hb l (List.mem_of_getElem? hl)
      have hi0 : (0 : Int) ≤ (k : Int) := Int.natCast_nonneg _
      have hi1 : (k : Int) < (d.firm.length : Int) := by omega
      have HL := Lib.hid hl; clear hl
      have hlk : (d.firm.take k).length = k := by simp; omega
      have HLK := Lib.hid hlk; clear hlk
      have hlows := hnew.lows
      go_wp2_with (first | (go_at_call 52; refine (shape_of (CloneB_calls _ hrb (by omega))).mono ?_; rintro e w2 ⟨B2, k2, rfl, hn2⟩) | (at_builtin; refine app_bytes rfl _ _ rfl ((own_keep hnew.1 hn2.2.1 (fun _ _ f => f)).alloc _) rfl (Rd.lit _ [.slice B2 l.length k2] _ 1 1 rfl (by omega)) rfl (by simp [Value.oneCell']) (by rw [HLK.out]; omega) ?_; intro v3 w3 ho3 hg3 hb3))
      have hmore := hnew.more hn2 ho3 hg3 hb3
      have hap' := hap.snoc (v := .slice B2 l.length k2) hlows (fun b hb => hn2.2.2 b hb)
      rw [take_succ_get HL.out] at hmore
      go_roundw
      case rel => exact ⟨k + 1, _, by omega, by go_num, hmore, hap'⟩
      case measure => simp [intOf]; omega
    · go_wp2
      go_ret
      obtain rfl : k = d.firm.length := by omega
      rw [List.take_length] at hnew
      exact ⟨_, _, rfl, hnew, hap⟩

/-! ### a disk and the document's, of the same -/
structure Twin (w0 w : World) (F G : Nat → Prop) (g : Nat) (d : DiskS) (g' : Nat) : Prop where
  disk : DiskAt F w g d
  ref : RefAt G w g' d
  apart : ∀ b, F b → ¬ G b
  newF : ∀ b, F b → w0.heap.size ≤ b
  newG : ∀ b, G b → w0.heap.size ≤ b
  kept : Fresh w0 w
/-- The one has gone on, the other not yet. -/
structure Half (w0 w : World) (F G : Nat → Prop) (g : Nat) (d1 : DiskS) (g' : Nat) (d2 : DiskS) : Prop where
  disk : DiskAt F w g d1
  ref : RefAt G w g' d2
  apart : ∀ b, F b → ¬ G b
  newF : ∀ b, F b → w0.heap.size ≤ b
  newG : ∀ b, G b → w0.heap.size ≤ b
  kept : Fresh w0 w
section
variable {w0 w w' : World} {F G S : Nat → Prop} {g g' : Nat} {d d1 d2 d' : DiskS}
theorem Half.same (h : Half w0 w F G g d g' d) : Twin w0 w F G g d g' := ⟨h.disk, h.ref, h.apart, h.newF, h.newG, h.kept⟩
theorem Twin.half (h : Twin w0 w F G g d g') : Half w0 w F G g d g' d := ⟨h.disk, h.ref, h.apart, h.newF, h.newG, h.kept⟩
theorem Half.fresh (h : Half w0 w F G g d1 g' d2) (hk : Fresh w w') : Half w0 w' F G g d1 g' d2 := ⟨h.disk.fresh hk, h.ref.fresh hk, h.apart, h.newF, h.newG, h.kept.trans hk (fun _ _ f => f)⟩
theorem Twin.fresh (h : Twin w0 w F G g d g') (hk : Fresh w w') : Twin w0 w' F G g d g' := (h.half.fresh hk).same
/-- Something else that is new has changed. -/
theorem Half.other (h : Half w0 w F G g d1 g' d2) (hk : Keep S w w') (h1 : ∀ b, S b → ¬ F b ∧ ¬ G b ∧ w0.heap.size ≤ b) : Half w0 w' F G g d1 g' d2 :=
  ⟨h.disk.keep hk (fun b hb hs => (h1 b hs).1 hb), h.ref.keep hk (fun b hb hs => (h1 b hs).2.1 hb), h.apart, h.newF, h.newG, h.kept.trans hk (fun b hb hs => by have := (h1 b hs).2.2; omega)⟩
theorem Twin.other (h : Twin w0 w F G g d g') (hk : Keep S w w') (h1 : ∀ b, S b → ¬ F b ∧ ¬ G b ∧ w0.heap.size ≤ b) : Twin w0 w' F G g d g' := (h.half.other hk h1).same
theorem Half.opF (h : Half w0 w F G g d1 g' d2) (ha : DiskAt (Grow F w w') w' g d') (hk : Keep F w w') : Half w0 w' (Grow F w w') G g d' g' d2 :=
  ⟨ha, h.ref.keep hk (fun b hG hF => h.apart b hF hG), fun b hb hG => hb.elim (fun hb => h.apart b hb hG) (fun hb => by have := h.ref.low b hG; omega), fun b hb => hb.elim (h.newF b) (fun hb => Nat.le_trans h.kept.size hb.1), h.newG, h.kept.trans hk (fun b hb hf => by have := h.newF b hf; omega)⟩
theorem Half.sameF (h : Half w0 w F G g d1 g' d2) (ha : DiskAt F w' g d') (hk : Keep F w w') : Half w0 w' F G g d' g' d2 :=
  ⟨ha, h.ref.keep hk (fun b hG hF => h.apart b hF hG), h.apart, h.newF, h.newG, h.kept.trans hk (fun b hb hf => by have := h.newF b hf; omega)⟩
theorem Half.opG (h : Half w0 w F G g d1 g' d2) (ha : RefAt (Grow G w w') w' g' d') (hk : Keep G w w') : Half w0 w' F (Grow G w w') g d1 g' d' :=
  ⟨h.disk.keep hk (fun b hF hG => h.apart b hF hG), ha, fun b hF hb => hb.elim (h.apart b hF) (fun hb => by have := h.disk.low b hF; omega), h.newF, fun b hb => hb.elim (h.newG b) (fun hb => Nat.le_trans h.kept.size hb.1), h.kept.trans hk (fun b hb hf => by have := h.newG b hf; omega)⟩
theorem Half.sameG (h : Half w0 w F G g d1 g' d2) (ha : RefAt G w' g' d') (hk : Keep G w w') : Half w0 w' F G g d1 g' d' :=
  ⟨h.disk.keep hk (fun b hF hG => h.apart b hF hG), ha, h.apart, h.newF, h.newG, h.kept.trans hk (fun b hb hf => by have := h.newG b hf; omega)⟩
/-- What is new now belongs to neither. -/
theorem Half.far (h : Half w0 w F G g d1 g' d2) {b : Nat} (hb : w.heap.size ≤ b) : ¬ F b ∧ ¬ G b ∧ w0.heap.size ≤ b :=
  ⟨fun hf => by have := h.disk.low b hf; omega, fun hg => by have := h.ref.low b hg; omega, Nat.le_trans h.kept.size hb⟩
theorem Twin.far (h : Twin w0 w F G g d g') {b : Nat} (hb : w.heap.size ≤ b) : ¬ F b ∧ ¬ G b ∧ w0.heap.size ≤ b := h.half.far hb
end
end Go.Proofs.Ytfmfedfalljokaa
