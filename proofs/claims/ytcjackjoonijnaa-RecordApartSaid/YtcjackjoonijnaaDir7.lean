/-
  Slots: what is laid reads as what it was. No program in sight, but for the last lemma.
-/
import Derived.Test.YtcjackjoonijnaaDir6
namespace Go.Proofs.Ytcjackjoonijnaa
open Go.RowKit

theorem bodyOf_seal (k : Int) {body : List Int} (h : body.length ≤ 123) : bodyOf (sealL k body) = body ++ List.replicate (123 - body.length) 0 := by
  have : (body ++ List.replicate (123 - body.length) (0 : Int)).length = 123 := by simp; omega
  unfold bodyOf sealL bodyL
  rw [List.cons_append, List.drop_succ_cons, List.drop_zero, List.take_append_of_le_length (by omega), List.take_of_length_le (by omega)]
theorem bodyL_pad (k : Int) {body : List Int} (h : body.length ≤ 123) : bodyL k (body ++ List.replicate (123 - body.length) 0) = bodyL k body := by
  unfold bodyL
  have : (body ++ List.replicate (123 - body.length) (0 : Int)).length = 123 := by simp; omega
  rw [this]
  simp
theorem sealL_pad (k : Int) {body : List Int} (h : body.length ≤ 123) : sealL k (body ++ List.replicate (123 - body.length) 0) = sealL k body := by
  unfold sealL
  rw [bodyL_pad k h]
theorem kindL_seal {k : Int} (hk : k ≠ 0) {body : List Int} (h : body.length ≤ 123) : kindL (sealL k body) = k := by
  have h0 : (sealL k body).getD 0 0 = k := rfl
  unfold kindL
  rw [h0, bodyOf_seal k h, sealL_pad k h, if_pos ⟨sealL_len k body h, hk, rfl⟩]

def decAt (l : List Int) : Slt := ⟨wordI (l.getD 0 0) (l.getD 1 0), l.getD 2 0, strOf ((l.drop 4).take (min (l.getD 3 0).toNat 24))⟩
theorem decD_at (bd : List Int) (k : Nat) : decD bd k = decAt (bd.drop (28 * k)) := by
  have e : ∀ j, (bd.drop (28 * k)).getD j 0 = bd.getD (28 * k + j) 0 := fun j => by
    rw [List.getD_eq_getElem?_getD, List.getD_eq_getElem?_getD, List.getElem?_drop]
  unfold decD decAt
  rw [e, e, e, e, List.drop_drop]
  rfl
theorem laidL_len {x : Slt} (h : x.name.size ≤ 24) : (laidL x).length = 28 := by
  simp [laidL, headL, sb_len]
  omega
theorem mayB_bounds {x : Slt} (h : mayB x = true) : 0 ≤ x.ino ∧ x.ino ≤ 65535 ∧ 0 ≤ x.kind ∧ x.kind ≤ 3 ∧ x.name.size ≤ 24 := by
  refine ⟨mayB_ino h, ?_, ?_, ?_, mayB_size h⟩ <;>
  · unfold mayB at h
    rcases Bool.or_eq_true_iff.1 h with h | h
    · simp only [zeroB, Bool.and_eq_true, beq_iff_eq] at h
      omega
    · simp only [Bool.and_eq_true, decide_eq_true_eq] at h
      omega
theorem decAt_laid {x : Slt} (h : mayB x = true) (post : List Int) : decAt (laidL x ++ post) = x := by
  obtain ⟨h1, h2, h3, h4, h5⟩ := mayB_bounds h
  obtain ⟨i, k, n⟩ := x
  dsimp only at h1 h2 h3 h4 h5
  have hs := sb_len n
  have e3 : ((laidL ⟨i, k, n⟩ ++ post).drop 4).take (min (n.size : Int).toNat 24) = sb n := by
    show ((sb n ++ List.replicate (24 - n.size) 0) ++ post).take _ = _
    rw [List.append_assoc, List.take_append_of_le_length (by omega), List.take_of_length_le (by omega)]
  show (⟨wordI (i / 256 % 256) (i % 256), k % 256, strOf (((laidL ⟨i, k, n⟩ ++ post).drop 4).take (min (n.size : Int).toNat 24))⟩ : Slt) = _
  rw [e3, strOf_sb, show k % 256 = k from by omega, show wordI (i / 256 % 256) (i % 256) = i from by unfold wordI; omega]
theorem layOkB_may {a b c d : Slt} (h : layOkB a b c d = true) : mayB a = true ∧ mayB b = true ∧ mayB c = true ∧ mayB d = true := by
  unfold layOkB okB at h
  simp only [Bool.and_eq_true] at h
  exact ⟨h.1.1.1.1, h.1.1.2.1, h.1.2.1, h.2.1⟩
section
variable {a b c d : Slt}
theorem bodyD_len (ha : a.name.size ≤ 24) (hb : b.name.size ≤ 24) (hc : c.name.size ≤ 24) (hd : d.name.size ≤ 24) : (bodyD a b c d).length = 112 := by
  unfold bodyD
  rw [List.length_append, List.length_append, List.length_append, laidL_len ha, laidL_len hb, laidL_len hc, laidL_len hd]
theorem decD_body (ha : mayB a = true) (hb : mayB b = true) (hc : mayB c = true) (hd : mayB d = true) (post : List Int) :
    decD (bodyD a b c d ++ post) 0 = a ∧ decD (bodyD a b c d ++ post) 1 = b ∧ decD (bodyD a b c d ++ post) 2 = c ∧ decD (bodyD a b c d ++ post) 3 = d := by
  have la := laidL_len (mayB_size ha)
  have lb := laidL_len (mayB_size hb)
  have lc := laidL_len (mayB_size hc)
  have e : bodyD a b c d ++ post = laidL a ++ (laidL b ++ (laidL c ++ (laidL d ++ post))) := by simp [bodyD]
  rw [decD_at, decD_at, decD_at, decD_at, e]
  have e1 : (laidL a ++ (laidL b ++ (laidL c ++ (laidL d ++ post)))).drop 28 = laidL b ++ (laidL c ++ (laidL d ++ post)) := by
    rw [List.drop_append_of_le_length (by omega), List.drop_of_length_le (by omega), List.nil_append]
  have e2 : (laidL a ++ (laidL b ++ (laidL c ++ (laidL d ++ post)))).drop 56 = laidL c ++ (laidL d ++ post) := by
    rw [show 56 = 28 + 28 from rfl, ← List.drop_drop, e1, List.drop_append_of_le_length (by omega), List.drop_of_length_le (by omega), List.nil_append]
  have e3 : (laidL a ++ (laidL b ++ (laidL c ++ (laidL d ++ post)))).drop 84 = laidL d ++ post := by
    rw [show 84 = 56 + 28 from rfl, ← List.drop_drop, e2, List.drop_append_of_le_length (by omega), List.drop_of_length_le (by omega), List.nil_append]
  refine ⟨decAt_laid ha _, ?_, ?_, ?_⟩
  · rw [show 28 * 1 = 28 from rfl, e1]; exact decAt_laid hb _
  · rw [show 28 * 2 = 56 from rfl, e2]; exact decAt_laid hc _
  · rw [show 28 * 3 = 84 from rfl, e3]; exact decAt_laid hd _
/-- What may be is read again. -/
theorem read_back (h : layOkB a b c d = true) : goodD (sealL 68 (bodyD a b c d)) ∧ decD (bodyOf (sealL 68 (bodyD a b c d))) 0 = a ∧ decD (bodyOf (sealL 68 (bodyD a b c d))) 1 = b ∧ decD (bodyOf (sealL 68 (bodyD a b c d))) 2 = c ∧ decD (bodyOf (sealL 68 (bodyD a b c d))) 3 = d := by
  obtain ⟨ha, hb, hc, hd⟩ := layOkB_may h
  have hl := bodyD_len (mayB_size ha) (mayB_size hb) (mayB_size hc) (mayB_size hd)
  have hB := bodyOf_seal 68 (body := bodyD a b c d) (by omega)
  obtain ⟨e0, e1, e2, e3⟩ := decD_body ha hb hc hd (List.replicate (123 - (bodyD a b c d).length) 0)
  rw [← hB] at e0 e1 e2 e3
  refine ⟨⟨kindL_seal (by decide) (by omega), ?_, ?_⟩, e0, e1, e2, e3⟩
  · rw [e0, e1, e2, e3]; exact h
  · rw [e0, e1, e2, e3]
end
theorem lay_bytes {a b c d : Slt} (h : layOkB a b c d = true) : Bytes8 (sealL 68 (bodyD a b c d)) := by
  obtain ⟨ha, hb, hc, hd⟩ := layOkB_may h
  exact seal_bytes (by omega) (bodyD_bytes (mayB_size ha) (mayB_size hb) (mayB_size hc) (mayB_size hd))
theorem Read_calls (w : World) {A : Option Addr} {n c : Nat} {l : List Int} (hr : Rd w 1 A n (iv .u8 l)) (hb8 : Bytes8 l) (hc : n ≤ c) : Calls Try.prog 25 #[.slice A n c] w (ReadPost w l) := by
  by_cases he : kindL l = 68
  · exact Read_yes w hr hb8 hc he
  · exact (Read_no w hr hc he).mono fun e w' h => .inr ⟨fun g => he g.1, h.1, h.2⟩
/-- What was laid is read. -/
theorem Read_back (w : World) {A : Option Addr} {n c : Nat} {p q r t : Slt} (ho : layOkB p q r t = true) (hr : Rd w 1 A n (iv .u8 (sealL 68 (bodyD p q r t)))) (hc : n ≤ c) :
    Calls Try.prog 25 #[.slice A n c] w fun e w' => e = .returned (.tuple #[sltsV p q r t, .int .i64 0]) ∧ Fresh w w' := by
  obtain ⟨hg, e0, e1, e2, e3⟩ := read_back ho
  refine (Read_calls w hr (lay_bytes ho) hc).mono ?_
  rintro e w' (⟨-, he, hf⟩ | ⟨hn, -, -⟩)
  · rw [e0, e1, e2, e3] at he
    exact ⟨he, hf⟩
  · exact absurd hg hn
end Go.Proofs.Ytcjackjoonijnaa
