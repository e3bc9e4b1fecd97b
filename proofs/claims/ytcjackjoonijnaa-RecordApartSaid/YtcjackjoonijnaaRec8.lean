/-
  Records: what is laid is read again; the law's own awake; walked.
-/
import Derived.Test.YtcjackjoonijnaaRec7
namespace Go.Proofs.Ytcjackjoonijnaa
open Go.RowKit

theorem mayR_bounds {r : Rcd} (h : mayR r = true) : (0 ≤ r.fr ∧ r.fr ≤ 65535) ∧ (0 ≤ r.td ∧ r.td ≤ 65535) ∧ (0 ≤ r.ino ∧ r.ino ≤ 65535) ∧ (0 ≤ r.old ∧ r.old ≤ 65535) ∧ r.fn.size ≤ 24 ∧ r.tn.size ≤ 24 := by
  obtain ⟨s1, s2⟩ := mayR_sizes h
  refine ⟨?_, ?_, ?_, ?_, s1, s2⟩ <;>
  · unfold mayR at h
    rcases Bool.or_eq_true_iff.1 h with h | h
    · rw [eqRB_iff] at h
      subst h
      decide
    · simp only [wordB, restB, Bool.and_eq_true, decide_eq_true_eq] at h
      omega
theorem word_back {x : Int} (h : 0 ≤ x ∧ x ≤ 65535) : wordI (x / 256 % 256) (x % 256) = x := by unfold wordI; omega
theorem decR_back {r : Rcd} (h : mayR r = true) (post : List Int) : decR (bodyRL r ++ post) = r := by
  obtain ⟨h1, h2, h3, h4, h5, h6⟩ := mayR_bounds h
  obtain ⟨on, fr, td, ino, old, fn, tn⟩ := r
  dsimp only at h1 h2 h3 h4 h5 h6
  have e : bodyRL ⟨on, fr, td, ino, old, fn, tn⟩ ++ post = onI on :: (fr / 256 % 256) :: (fr % 256) :: (td / 256 % 256) :: (td % 256) :: (ino / 256 % 256) :: (ino % 256) :: (old / 256 % 256) :: (old % 256) :: ((namedL fn ++ namedL tn) ++ post) := by
    simp [bodyRL, numL, be2]
  have hs1 := sb_len fn
  have hs2 := sb_len tn
  have hnl := namedL_len fn h5
  have a1 : ((fn.size : Int) :: (sb fn ++ List.replicate (24 - fn.size) 0) ++ namedL tn ++ post) = (namedL fn ++ namedL tn) ++ post := rfl
  have d10 : ((onI on :: (fr / 256 % 256) :: (fr % 256) :: (td / 256 % 256) :: (td % 256) :: (ino / 256 % 256) :: (ino % 256) :: (old / 256 % 256) :: (old % 256) :: ((namedL fn ++ namedL tn) ++ post)).drop 10).take (min (fn.size : Int).toNat 24) = sb fn := by
    show (((sb fn ++ List.replicate (24 - fn.size) 0) ++ namedL tn) ++ post).take _ = _
    rw [List.append_assoc, List.append_assoc, List.take_append_of_le_length (by omega), List.take_of_length_le (by omega)]
  have d34 : (onI on :: (fr / 256 % 256) :: (fr % 256) :: (td / 256 % 256) :: (td % 256) :: (ino / 256 % 256) :: (ino % 256) :: (old / 256 % 256) :: (old % 256) :: ((namedL fn ++ namedL tn) ++ post)).drop 34 = namedL tn ++ post := by
    show (((namedL fn ++ namedL tn) ++ post)).drop 25 = _
    rw [List.append_assoc, ← hnl, List.drop_left]
  have g34 : (onI on :: (fr / 256 % 256) :: (fr % 256) :: (td / 256 % 256) :: (td % 256) :: (ino / 256 % 256) :: (ino % 256) :: (old / 256 % 256) :: (old % 256) :: ((namedL fn ++ namedL tn) ++ post)).getD 34 0 = (tn.size : Int) := by
    have : (onI on :: (fr / 256 % 256) :: (fr % 256) :: (td / 256 % 256) :: (td % 256) :: (ino / 256 % 256) :: (ino % 256) :: (old / 256 % 256) :: (old % 256) :: ((namedL fn ++ namedL tn) ++ post)).getD 34 0 = (namedL tn ++ post).getD 0 0 := by
      rw [← d34, List.getD_eq_getElem?_getD, List.getD_eq_getElem?_getD, List.getElem?_drop]
    rw [this]; rfl
  have d35 : ((onI on :: (fr / 256 % 256) :: (fr % 256) :: (td / 256 % 256) :: (td % 256) :: (ino / 256 % 256) :: (ino % 256) :: (old / 256 % 256) :: (old % 256) :: ((namedL fn ++ namedL tn) ++ post)).drop 35).take (min (tn.size : Int).toNat 24) = sb tn := by
    rw [show 35 = 34 + 1 from rfl, ← List.drop_drop, d34]
    show ((sb tn ++ List.replicate (24 - tn.size) 0) ++ post).take _ = _
    rw [List.append_assoc, List.take_append_of_le_length (by omega), List.take_of_length_le (by omega)]
  rw [e]
  unfold decR
  rw [g34, d35]
  rw [show (onI on :: (fr / 256 % 256) :: (fr % 256) :: (td / 256 % 256) :: (td % 256) :: (ino / 256 % 256) :: (ino % 256) :: (old / 256 % 256) :: (old % 256) :: ((namedL fn ++ namedL tn) ++ post)).getD 9 0 = (fn.size : Int) from rfl, d10]
  show (⟨onI on == 1, wordI (fr / 256 % 256) (fr % 256), wordI (td / 256 % 256) (td % 256), wordI (ino / 256 % 256) (ino % 256), wordI (old / 256 % 256) (old % 256), strOf (sb fn), strOf (sb tn)⟩ : Rcd) = _
  rw [word_back h1, word_back h2, word_back h3, word_back h4, strOf_sb, strOf_sb]
  cases on <;> rfl
theorem rback {r : Rcd} (h : mayR r = true) : goodR (sealL 82 (bodyRL r)) ∧ decR (bodyOf (sealL 82 (bodyRL r))) = r := by
  have hl := bodyRL_len h
  have hB := bodyOf_seal 82 (body := bodyRL r) (by omega)
  have e := decR_back h (List.replicate (123 - (bodyRL r).length) 0)
  rw [← hB] at e
  exact ⟨⟨kindL_seal (by decide) (by omega), by rw [e]; exact h, by rw [e]⟩, e⟩
theorem rlay_bytes {r : Rcd} (h : mayR r = true) : Bytes8 (sealL 82 (bodyRL r)) := by
  obtain ⟨s1, s2⟩ := mayR_sizes h
  exact seal_bytes (by omega) (bodyRL_bytes s1 s2)
theorem RcRead_back (w : World) {A : Option Addr} {n c : Nat} {r : Rcd} (ho : mayR r = true) (hr : Rd w 1 A n (iv .u8 (sealL 82 (bodyRL r)))) (hc : n ≤ c) :
    Calls Try.prog 13 #[.slice A n c] w fun e w' => e = .returned (.tuple #[r.val, .int .i64 0]) ∧ Fresh w w' := by
  obtain ⟨hg, e0⟩ := rback ho
  refine (RcRead_calls w hr (rlay_bytes ho) hc).mono ?_
  rintro e w' (⟨-, he, hf⟩ | ⟨hn, -, -⟩)
  · rw [e0] at he
    exact ⟨he, hf⟩
  · exact absurd hg hn
theorem RcLay_yes (r : Rcd) (w : World) (h : mayR r = true) : Calls Try.prog 11 #[r.val] w (SealPost w (sealL 82 (bodyRL r))) := by
  obtain ⟨s1, s2⟩ := mayR_sizes h
  refine (RcLay_calls r w (by omega) (by omega)).mono ?_
  rintro e w' (⟨hn, -, -⟩ | ⟨-, hy⟩)
  · rw [h] at hn; exact absurd hn (by decide)
  · exact hy
theorem aw10_may : mayR ⟨true, 1, 2, 3, 0, ⟨#[97]⟩, ⟨#[98]⟩⟩ = true := by decide +kernel
theorem aw10_zero : mayR ⟨false, 0, 0, 0, 0, ⟨#[]⟩, ⟨#[]⟩⟩ = true := by decide +kernel
theorem aw10_bad : mayR ⟨true, 0, 0, 0, 0, ⟨#[]⟩, ⟨#[]⟩⟩ = false := by decide +kernel
theorem aw10_kind : kindL [] ≠ 82 := by decide
theorem rcd_self (on : Bool) (fr td ino old : Int) (fn tn : ByteArray) (w : World) : (Op.equalIn 10000 23 (.agg #[.bool on, .int .i64 fr, .int .i64 td, .int .i64 ino, .int .i64 old, .string fn, .string tn]) (.agg #[.bool on, .int .i64 fr, .int .i64 td, .int .i64 ino, .int .i64 old, .string fn, .string tn])).run Try.prog w = .ok true w := by
  rw [eq_rcd, eqRB_self]

set_option maxRecDepth 100000 in
set_option maxHeartbeats 4000000 in
theorem awake10_calls (w : World) : Calls Try.prog 9 #[] w fun e w' => e = .returned (.bool true) ∧ Fresh w w' := by
  have HB1 := Lib.hid (Blk.new w 23 #[.bool true, .int .i64 1, .int .i64 2, .int .i64 3, .int .i64 0, .string ⟨#[97]⟩, .string ⟨#[98]⟩])
  have HF1 := Lib.hid ((Keep.refl (fun _ => False) w).alloc (.cells #[.bool true, .int .i64 1, .int .i64 2, .int .i64 3, .int .i64 0, .string ⟨#[97]⟩, .string ⟨#[98]⟩] 23))
  have hEQ := rcd_self true 1 2 3 0 ⟨#[97]⟩ ⟨#[98]⟩
  go_enter Try.func9, Try.ntmps9
  go_wp2_with (first
    | (go_at_call 11; refine (RcLay_yes ⟨true, 1, 2, 3, 0, ⟨#[97]⟩, ⟨#[98]⟩⟩ _ aw10_may).mono ?_; rintro e w2 ⟨v2, rfl, h2⟩; obtain ⟨A2, c2, hv, hc2, hr2⟩ := h2.1.rd; subst hv; have HB2 := Lib.hid (HB1.out.fresh h2.2.1); have HF2 := Lib.hid (HF1.out.trans h2.2.1 (fun _ _ f => f)); clear h2)
    | (go_at_call 13; have _t := HB3; refine (RcRead_no _ Rd.none_ (Nat.le_refl 0) aw10_kind).mono ?_; rintro e w4 ⟨rfl, k4⟩; dsimp only [Rcd.val, Rcd.cells, Rcd.zero]; have k4' := k4.alloc (.cells #[.bool false, .int .i64 0, .int .i64 0, .int .i64 0, .int .i64 0, .string ⟨#[]⟩, .string ⟨#[]⟩] 23); have HF4 := Lib.hid (HF3.out.trans k4' (fun _ _ f => f)); have HB4 := Lib.hid (HB3.out.fresh k4'); have HC4 := Lib.hid (HC3.out.fresh k4'); clear k4'; obtain ⟨a0, a1, a2, a3, a4, a5, a6⟩ := Blk.c7 HB4.out; obtain ⟨b0, b1, b2, b3, b4, b5, b6⟩ := Blk.c7 HC4.out)
    | (go_at_call 13; refine (RcRead_back _ aw10_may hr2 hc2).mono ?_; rintro e w3 ⟨rfl, k3⟩; dsimp only [Rcd.val, Rcd.cells]; have k3' := k3.alloc (.cells #[.bool true, .int .i64 1, .int .i64 2, .int .i64 3, .int .i64 0, .string ⟨#[97]⟩, .string ⟨#[98]⟩] 23); have HF3 := Lib.hid (HF2.out.trans k3' (fun _ _ f => f)); have HB3 := Lib.hid (HB2.out.fresh k3'); have HC3 := Lib.hid (Blk.new w3 23 #[.bool true, .int .i64 1, .int .i64 2, .int .i64 3, .int .i64 0, .string ⟨#[97]⟩, .string ⟨#[98]⟩]); clear k3')
    | (go_at_call 16; have _t := HM5; refine (RcMay_calls ⟨true, 0, 0, 0, 0, ⟨#[]⟩, ⟨#[]⟩⟩ _ (by decide) (by decide)).mono ?_; rintro e w6 ⟨rfl, k6⟩; rw [aw10_bad]; have HF6 := Lib.hid (HF5.out.trans k6 (fun _ _ f => f)))
    | (go_at_call 16; refine (RcMay_calls ⟨false, 0, 0, 0, 0, ⟨#[]⟩, ⟨#[]⟩⟩ _ (by decide) (by decide)).mono ?_; rintro e w5 ⟨rfl, k5⟩; rw [aw10_zero]; have HM5 : Hid True := trivial; have HF5 := Lib.hid (HF4.out.trans k5 (fun _ _ f => f))))
  go_ret
  exact ⟨rfl, HF6.out⟩

/-! ### the answers, in one form -/
def layRL (r : Rcd) : List Int := if mayR r = true then sealL 82 (bodyRL r) else []
def layRN (r : Rcd) : Nat := if mayR r = true then 128 else 0
def layRE (r : Rcd) : Int := if mayR r = true then 0 else 2
theorem layR_of {r : Rcd} {w w' : World} {e : Ending} (h : LayRPost r w e w') : ∃ v, e = .returned (.tuple #[v, .int .i64 (layRE r)]) ∧ NewB w w' 5 .u8 v (layRN r) (layRL r) := by
  unfold layRL layRN layRE
  rcases h with ⟨hm, rfl, hf⟩ | ⟨hm, v, rfl, hv⟩
  · rw [hm]
    exact ⟨_, rfl, Own.nil _ _ _, hf, freshV_none _ _ _⟩
  · rw [hm]
    exact ⟨_, rfl, hv⟩
open Classical in
noncomputable def rdR (l : List Int) : Rcd := if goodR l then decR (bodyOf l) else Rcd.zero
open Classical in
noncomputable def rdRE (l : List Int) : Int := if goodR l then 0 else 3
theorem readR_of {l : List Int} {w w' : World} {e : Ending} (h : RcReadPost w l e w') : e = .returned (.tuple #[(rdR l).val, .int .i64 (rdRE l)]) ∧ Fresh w w' := by
  unfold rdR rdRE
  rcases h with ⟨hg, he, hf⟩ | ⟨hg, he, hf⟩
  · rw [if_pos hg, if_pos hg]; exact ⟨he, hf⟩
  · rw [if_neg hg, if_neg hg]; exact ⟨he, hf⟩
end Go.Proofs.Ytcjackjoonijnaa
