/-
  A block of slots: laid; walked.
-/
import Derived.Test.YtcjackjoonijnaaDir3
namespace Go.Proofs.Ytcjackjoonijnaa
open Go.RowKit

/-- The cells of four slots. -/
def sltsC (p q r s : Slt) : Array Value := #[.int .i64 p.ino, .int .i64 p.kind, .string p.name, .int .i64 q.ino, .int .i64 q.kind, .string q.name, .int .i64 r.ino, .int .i64 r.kind, .string r.name, .int .i64 s.ino, .int .i64 s.kind, .string s.name]
/-- May the slot at k be, beside the others? -/
def okB (k : Int) (x a b c d : Slt) : Bool := mayB x && ((x.ino == 0) || (findI x.name a b c d == k))
def layOkB (a b c d : Slt) : Bool := okB 0 a a b c d && okB 1 b a b c d && okB 2 c a b c d && okB 3 d a b c d
def bodyD (a b c d : Slt) : List Int := laidL a ++ laidL b ++ laidL c ++ laidL d
def goneD (a b c d : Slt) (k : Int) : List Int := if k = 0 then [] else if k = 1 then laidL a else if k = 2 then laidL a ++ laidL b else if k = 3 then laidL a ++ laidL b ++ laidL c else bodyD a b c d
def PastO (a b c d : Slt) (k : Int) : Prop := (1 ≤ k → okB 0 a a b c d = true) ∧ (2 ≤ k → okB 1 b a b c d = true) ∧ (3 ≤ k → okB 2 c a b c d = true) ∧ (4 ≤ k → okB 3 d a b c d = true)
def LayPost (a b c d : Slt) (w : World) (e : Ending) (w' : World) : Prop := (layOkB a b c d = false ∧ e = .returned (.tuple #[.slice none 0 0, .int .i64 2]) ∧ Fresh w w') ∨ (layOkB a b c d = true ∧ SealPost w (sealL 68 (bodyD a b c d)) e w')

theorem Blk.c3 {w : World} {g : Nat} {t : TypeId} {a b c : Value} (h : Blk w g t #[a, b, c]) : w.cell? ⟨g, 0, none⟩ = some a ∧ w.cell? ⟨g, 1, none⟩ = some b ∧ w.cell? ⟨g, 2, none⟩ = some c := ⟨h.cell 0, h.cell 1, h.cell 2⟩
theorem Blk.c12 {w : World} {g : Nat} {t : TypeId} {a0 a1 a2 a3 a4 a5 a6 a7 a8 a9 a10 a11 : Value} (h : Blk w g t #[a0, a1, a2, a3, a4, a5, a6, a7, a8, a9, a10, a11]) : w.cell? ⟨g, 0, none⟩ = some a0 ∧ w.cell? ⟨g, 1, none⟩ = some a1 ∧ w.cell? ⟨g, 2, none⟩ = some a2 ∧ w.cell? ⟨g, 3, none⟩ = some a3 ∧ w.cell? ⟨g, 4, none⟩ = some a4 ∧ w.cell? ⟨g, 5, none⟩ = some a5 ∧ w.cell? ⟨g, 6, none⟩ = some a6 ∧ w.cell? ⟨g, 7, none⟩ = some a7 ∧ w.cell? ⟨g, 8, none⟩ = some a8 ∧ w.cell? ⟨g, 9, none⟩ = some a9 ∧ w.cell? ⟨g, 10, none⟩ = some a10 ∧ w.cell? ⟨g, 11, none⟩ = some a11 := ⟨h.cell 0, h.cell 1, h.cell 2, h.cell 3, h.cell 4, h.cell 5, h.cell 6, h.cell 7, h.cell 8, h.cell 9, h.cell 10, h.cell 11⟩
theorem Blk.raw {w : World} {g : Nat} {t : TypeId} {cs : Array Value} (h : Blk w g t cs) : w.heap[g]? = some (.cells cs t (0, 0)) := h
theorem mayB_size {x : Slt} (h : mayB x = true) : x.name.size ≤ 24 := by
  unfold mayB at h
  rcases Bool.or_eq_true_iff.1 h with h | h
  · simp only [zeroB, Bool.and_eq_true, beq_iff_eq] at h
    have := size_empty h.2
    omega
  · exact (nameB_size (Bool.and_eq_true_iff.1 h).2).2
theorem mayB_ino {x : Slt} (h : mayB x = true) : 0 ≤ x.ino := by
  unfold mayB at h
  rcases Bool.or_eq_true_iff.1 h with h | h
  · simp only [zeroB, Bool.and_eq_true, beq_iff_eq] at h
    omega
  · simp only [Bool.and_eq_true, decide_eq_true_eq] at h
    omega
section
variable {k : Int} {x a b c d : Slt}
theorem okB_no (h : mayB x = false) : okB k x a b c d = false := by simp [okB, h]
theorem okB_lost (hz : 0 < x.ino) (h : findI x.name a b c d ≠ k) : okB k x a b c d = false := by
  have h1 : ¬ x.ino = 0 := by omega
  simp [okB, h1, h]
theorem okB_found (hm : mayB x = true) (h : findI x.name a b c d = k) : okB k x a b c d = true := by simp [okB, hm, h]
theorem okB_zero (hm : mayB x = true) (h : ¬ 0 < x.ino) : okB k x a b c d = true := by
  have := mayB_ino hm
  have h1 : x.ino = 0 := by omega
  simp [okB, hm, h1]
theorem lay_no0 (h : okB 0 a a b c d = false) : layOkB a b c d = false := by simp [layOkB, h]
theorem lay_no1 (h : okB 1 b a b c d = false) : layOkB a b c d = false := by simp [layOkB, h]
theorem lay_no2 (h : okB 2 c a b c d = false) : layOkB a b c d = false := by simp [layOkB, h]
theorem lay_no3 (h : okB 3 d a b c d = false) : layOkB a b c d = false := by simp [layOkB, h]
theorem pasto1 (_ : PastO a b c d 0) (h : okB 0 a a b c d = true) : PastO a b c d 1 := ⟨fun _ => h, fun h => by omega, fun h => by omega, fun h => by omega⟩
theorem pasto2 (p : PastO a b c d 1) (h : okB 1 b a b c d = true) : PastO a b c d 2 := ⟨fun _ => p.1 (by decide), fun _ => h, fun h => by omega, fun h => by omega⟩
theorem pasto3 (p : PastO a b c d 2) (h : okB 2 c a b c d = true) : PastO a b c d 3 := ⟨fun _ => p.1 (by decide), fun _ => p.2.1 (by decide), fun _ => h, fun h => by omega⟩
theorem pasto4 (p : PastO a b c d 3) (h : okB 3 d a b c d = true) : PastO a b c d 4 := ⟨fun _ => p.1 (by decide), fun _ => p.2.1 (by decide), fun _ => p.2.2.1 (by decide), fun _ => h⟩
theorem lay_yes (p : PastO a b c d 4) : layOkB a b c d = true := by simp [layOkB, p.1 (by decide), p.2.1 (by decide), p.2.2.1 (by decide), p.2.2.2 (by decide)]
theorem gone1 {l : List Int} {w w' : World} {v : Value} {n : Nat} (h : goneD a b c d 0 = l) (hn : NewB w w' 5 .u8 v n (l ++ laidL a)) : NewB w w' 5 .u8 v n (goneD a b c d (0 + 1)) := by subst h; simpa [goneD] using hn
theorem gone2 {l : List Int} {w w' : World} {v : Value} {n : Nat} (h : goneD a b c d 1 = l) (hn : NewB w w' 5 .u8 v n (l ++ laidL b)) : NewB w w' 5 .u8 v n (goneD a b c d (1 + 1)) := by subst h; simpa [goneD] using hn
theorem gone3 {l : List Int} {w w' : World} {v : Value} {n : Nat} (h : goneD a b c d 2 = l) (hn : NewB w w' 5 .u8 v n (l ++ laidL c)) : NewB w w' 5 .u8 v n (goneD a b c d (2 + 1)) := by subst h; simpa [goneD] using hn
theorem gone4 {l : List Int} {w w' : World} {v : Value} {n : Nat} (h : goneD a b c d 3 = l) (hn : NewB w w' 5 .u8 v n (l ++ laidL d)) : NewB w w' 5 .u8 v n (goneD a b c d (3 + 1)) := by subst h; simpa [goneD, bodyD] using hn
end

set_option maxRecDepth 100000 in
set_option maxHeartbeats 2000000 in
theorem Lay_calls (p q r t : Slt) (w : World) (hp : p.name.size ≤ 1000000) (hq : q.name.size ≤ 1000000) (hr : r.name.size ≤ 1000000) (ht : t.name.size ≤ 1000000) : Calls Try.prog 23 #[sltsV p q r t] w (LayPost p q r t w) := by
  obtain ⟨pi, pk, pn⟩ := p
  obtain ⟨qi, qk, qn⟩ := q
  obtain ⟨ri, rk, rn⟩ := r
  obtain ⟨ti, tk, tn⟩ := t
  unfold sltsV
  dsimp only at hp hq hr ht ⊢
  have i0 := ix0 pi pk pn qi qk qn ri rk rn ti tk tn
  have i1 := ix1 pi pk pn qi qk qn ri rk rn ti tk tn
  have i2 := ix2 pi pk pn qi qk qn ri rk rn ti tk tn
  have i3 := ix3 pi pk pn qi qk qn ri rk rn ti tk tn
  go_enter Try.func23, Try.ntmps23
  go_wp2
  go_loopw [4, 8] (fun v i wr => ∃ (k : Int) (n : Nat), (k = 0 ∨ k = 1 ∨ k = 2 ∨ k = 3 ∨ k = 4) ∧ i = .int .i64 k ∧ Hid (PastO ⟨pi, pk, pn⟩ ⟨qi, qk, qn⟩ ⟨ri, rk, rn⟩ ⟨ti, tk, tn⟩ k) ∧ Hid ((n : Int) = 28 * k) ∧ NewB (w.alloc (.cells (sltsC ⟨pi, pk, pn⟩ ⟨qi, qk, qn⟩ ⟨ri, rk, rn⟩ ⟨ti, tk, tn⟩) 40)) wr 5 .u8 v n (goneD ⟨pi, pk, pn⟩ ⟨qi, qk, qn⟩ ⟨ri, rk, rn⟩ ⟨ti, tk, tn⟩ k)) (fun _ i _ => 4 - (intOf i).toNat)
  case atStart => exact ⟨0, 0, by omega, rfl, ⟨fun h => by omega, fun h => by omega, fun h => by omega, fun h => by omega⟩, by show ((0:Nat):Int) = 28 * 0; rfl, Own.nil _ _ _, Keep.refl _ _, freshV_none _ _ _⟩
  case round =>
    obtain ⟨k, n, hk, rfl, HP, HN, hnb⟩ := hrel
    have hbox := (Blk.new w 40 (sltsC ⟨pi, pk, pn⟩ ⟨qi, qk, qn⟩ ⟨ri, rk, rn⟩ ⟨ti, tk, tn⟩)).fresh hnb.2.1
    unfold sltsC at hbox
    have hF0 := ((Keep.refl (fun _ => False) w).alloc _).trans hnb.2.1 (fun _ _ f => f)
    obtain ⟨l, hl⟩ : ∃ l, goneD ⟨pi, pk, pn⟩ ⟨qi, qk, qn⟩ ⟨ri, rk, rn⟩ ⟨ti, tk, tn⟩ k = l := ⟨_, rfl⟩
    rw [hl] at hnb
    have HNB := Lib.hid hnb; clear hnb
    have HL := Lib.hid hl; clear hl
    obtain rfl | rfl | rfl | rfl | rfl := hk
    · cases hm : mayB ⟨pi, pk, pn⟩
      · go_wp2_with (first | (go_at_call 29; refine (May_calls ⟨pi, pk, pn⟩ _ hp).mono ?_; rintro e w2 ⟨rfl, k2⟩; rw [hm]))
        go_ret2
        exact .inl ⟨lay_no0 (okB_no hm), rfl, (hF0.trans (((Keep.refl _ wr).alloc _).trans k2 (fun _ _ f => f)) (fun _ _ f => f))⟩
      · have hsz := mayB_size hm
        by_cases hz : 0 < pi
        · obtain ⟨z, hf⟩ : ∃ z, findI pn ⟨pi, pk, pn⟩ ⟨qi, qk, qn⟩ ⟨ri, rk, rn⟩ ⟨ti, tk, tn⟩ = z := ⟨_, rfl⟩
          have HF := Lib.hid hf; clear hf
          cases hne : (z != 0)
          · have hok : okB 0 ⟨pi, pk, pn⟩ ⟨pi, pk, pn⟩ ⟨qi, qk, qn⟩ ⟨ri, rk, rn⟩ ⟨ti, tk, tn⟩ = true := okB_found hm (by rw [HF.out]; exact (by simpa using hne))
            have HOK := Lib.hid hok; clear hok
            have HM := hm
            go_wp2_with (first | (go_at_call 29; refine (May_calls ⟨pi, pk, pn⟩ _ hp).mono ?_; rintro e w2 ⟨rfl, k2⟩; rw [hm]; obtain ⟨b0, b1, b2, b3, b4, b5, b6, b7, b8, b9, b10, b11⟩ := Blk.c12 ((Blk.alloc hbox _).fresh k2); have hx2 := Lib.hid ((Blk.new wr 39 #[.int .i64 pi, .int .i64 pk, .string pn]).fresh k2); obtain ⟨x0, x1, x2⟩ := Blk.c3 hx2.out) | (go_at_call 31; refine (Find_calls ⟨pi, pk, pn⟩ ⟨qi, qk, qn⟩ ⟨ri, rk, rn⟩ ⟨ti, tk, tn⟩ pn _).mono ?_; rintro e w3 ⟨rfl, k3⟩; rw [HF.out]; obtain ⟨x3, x4, x5⟩ := Blk.c3 (Blk.fresh hx2.out k3)) | (go_at_call 44; refine (laid_calls ⟨pi, pk, pn⟩ _ hsz).mono ?_; rintro e w4 ⟨v4, rfl, h4⟩; obtain ⟨A4, c4, rfl⟩ := h4.1.shape) | (at_builtin; have k5 := ((Keep.refl (fun _ => False) wr).alloc _).trans (k2.trans (k3.trans h4.2.1 (fun _ _ f => f)) (fun _ _ f => f)) (fun _ _ f => f); refine app_u8 (l := l) rfl (.tmp 28) (.tmp 30) rfl (own_keep HNB.out.1 k5 (fun _ _ f => f)) rfl (Rd.of_own h4.1) rfl (by have := HN.out; omega) ?_; intro v5 w5 ho5 hg5 hb5))
            go_round
            case rel => exact ⟨_, _, by omega, rfl, pasto1 HP.out HOK.out, by have := HN.out; show ((n + 28 : Nat) : Int) = _; omega, gone1 HL.out (newB_app (HNB.out.2.1.trans k5 (fun _ _ f => f)) HNB.out.2.2 ho5 hg5 hb5)⟩
            case measure => simp [intOf]
          · go_wp2_with (first | (go_at_call 29; refine (May_calls ⟨pi, pk, pn⟩ _ hp).mono ?_; rintro e w2 ⟨rfl, k2⟩; rw [hm]; obtain ⟨b0, b1, b2, b3, b4, b5, b6, b7, b8, b9, b10, b11⟩ := Blk.c12 ((Blk.alloc hbox _).fresh k2); have hx2 := Lib.hid ((Blk.new wr 39 #[.int .i64 pi, .int .i64 pk, .string pn]).fresh k2); obtain ⟨x0, x1, x2⟩ := Blk.c3 hx2.out) | (go_at_call 31; refine (Find_calls ⟨pi, pk, pn⟩ ⟨qi, qk, qn⟩ ⟨ri, rk, rn⟩ ⟨ti, tk, tn⟩ pn _).mono ?_; rintro e w3 ⟨rfl, k3⟩; rw [HF.out]; obtain ⟨x3, x4, x5⟩ := Blk.c3 (Blk.fresh hx2.out k3)))
            go_ret2
            exact .inl ⟨lay_no0 (okB_lost hz (by rw [HF.out]; exact (by simpa using hne))), rfl, hF0.trans (((Keep.refl _ wr).alloc _).trans (k2.trans k3 (fun _ _ f => f)) (fun _ _ f => f)) (fun _ _ f => f)⟩
        · have hok : okB 0 ⟨pi, pk, pn⟩ ⟨pi, pk, pn⟩ ⟨qi, qk, qn⟩ ⟨ri, rk, rn⟩ ⟨ti, tk, tn⟩ = true := okB_zero hm hz
          have HOK := Lib.hid hok; clear hok
          go_wp2_with (first | (go_at_call 29; refine (May_calls ⟨pi, pk, pn⟩ _ hp).mono ?_; rintro e w2 ⟨rfl, k2⟩; rw [hm]; obtain ⟨b0, b1, b2, b3, b4, b5, b6, b7, b8, b9, b10, b11⟩ := Blk.c12 ((Blk.alloc hbox _).fresh k2); have hx2 := Lib.hid ((Blk.new wr 39 #[.int .i64 pi, .int .i64 pk, .string pn]).fresh k2); obtain ⟨x0, x1, x2⟩ := Blk.c3 hx2.out) | (go_at_call 44; refine (laid_calls ⟨pi, pk, pn⟩ _ hsz).mono ?_; rintro e w4 ⟨v4, rfl, h4⟩; obtain ⟨A4, c4, rfl⟩ := h4.1.shape) | (at_builtin; have k5 := ((Keep.refl (fun _ => False) wr).alloc _).trans (k2.trans h4.2.1 (fun _ _ f => f)) (fun _ _ f => f); refine app_u8 (l := l) rfl (.tmp 28) (.tmp 30) rfl (own_keep HNB.out.1 k5 (fun _ _ f => f)) rfl (Rd.of_own h4.1) rfl (by have := HN.out; omega) ?_; intro v5 w5 ho5 hg5 hb5))
          go_round
          case rel => exact ⟨_, _, by omega, rfl, pasto1 HP.out HOK.out, by have := HN.out; show ((n + 28 : Nat) : Int) = _; omega, gone1 HL.out (newB_app (HNB.out.2.1.trans k5 (fun _ _ f => f)) HNB.out.2.2 ho5 hg5 hb5)⟩
          case measure => simp [intOf]
    · cases hm : mayB ⟨qi, qk, qn⟩
      · go_wp2_with (first | (go_at_call 29; refine (May_calls ⟨qi, qk, qn⟩ _ hq).mono ?_; rintro e w2 ⟨rfl, k2⟩; rw [hm]))
        go_ret2
        exact .inl ⟨lay_no1 (okB_no hm), rfl, (hF0.trans (((Keep.refl _ wr).alloc _).trans k2 (fun _ _ f => f)) (fun _ _ f => f))⟩
      · have hsz := mayB_size hm
        by_cases hz : 0 < qi
        · obtain ⟨z, hf⟩ : ∃ z, findI qn ⟨pi, pk, pn⟩ ⟨qi, qk, qn⟩ ⟨ri, rk, rn⟩ ⟨ti, tk, tn⟩ = z := ⟨_, rfl⟩
          have HF := Lib.hid hf; clear hf
          cases hne : (z != 1)
          · have hok : okB 1 ⟨qi, qk, qn⟩ ⟨pi, pk, pn⟩ ⟨qi, qk, qn⟩ ⟨ri, rk, rn⟩ ⟨ti, tk, tn⟩ = true := okB_found hm (by rw [HF.out]; exact (by simpa using hne))
            have HOK := Lib.hid hok; clear hok
            have HM := hm
            go_wp2_with (first | (go_at_call 29; refine (May_calls ⟨qi, qk, qn⟩ _ hq).mono ?_; rintro e w2 ⟨rfl, k2⟩; rw [hm]; obtain ⟨b0, b1, b2, b3, b4, b5, b6, b7, b8, b9, b10, b11⟩ := Blk.c12 ((Blk.alloc hbox _).fresh k2); have hx2 := Lib.hid ((Blk.new wr 39 #[.int .i64 qi, .int .i64 qk, .string qn]).fresh k2); obtain ⟨x0, x1, x2⟩ := Blk.c3 hx2.out) | (go_at_call 31; refine (Find_calls ⟨pi, pk, pn⟩ ⟨qi, qk, qn⟩ ⟨ri, rk, rn⟩ ⟨ti, tk, tn⟩ qn _).mono ?_; rintro e w3 ⟨rfl, k3⟩; rw [HF.out]; obtain ⟨x3, x4, x5⟩ := Blk.c3 (Blk.fresh hx2.out k3)) | (go_at_call 44; refine (laid_calls ⟨qi, qk, qn⟩ _ hsz).mono ?_; rintro e w4 ⟨v4, rfl, h4⟩; obtain ⟨A4, c4, rfl⟩ := h4.1.shape) | (at_builtin; have k5 := ((Keep.refl (fun _ => False) wr).alloc _).trans (k2.trans (k3.trans h4.2.1 (fun _ _ f => f)) (fun _ _ f => f)) (fun _ _ f => f); refine app_u8 (l := l) rfl (.tmp 28) (.tmp 30) rfl (own_keep HNB.out.1 k5 (fun _ _ f => f)) rfl (Rd.of_own h4.1) rfl (by have := HN.out; omega) ?_; intro v5 w5 ho5 hg5 hb5))
            go_round
            case rel => exact ⟨_, _, by omega, rfl, pasto2 HP.out HOK.out, by have := HN.out; show ((n + 28 : Nat) : Int) = _; omega, gone2 HL.out (newB_app (HNB.out.2.1.trans k5 (fun _ _ f => f)) HNB.out.2.2 ho5 hg5 hb5)⟩
            case measure => simp [intOf]
          · go_wp2_with (first | (go_at_call 29; refine (May_calls ⟨qi, qk, qn⟩ _ hq).mono ?_; rintro e w2 ⟨rfl, k2⟩; rw [hm]; obtain ⟨b0, b1, b2, b3, b4, b5, b6, b7, b8, b9, b10, b11⟩ := Blk.c12 ((Blk.alloc hbox _).fresh k2); have hx2 := Lib.hid ((Blk.new wr 39 #[.int .i64 qi, .int .i64 qk, .string qn]).fresh k2); obtain ⟨x0, x1, x2⟩ := Blk.c3 hx2.out) | (go_at_call 31; refine (Find_calls ⟨pi, pk, pn⟩ ⟨qi, qk, qn⟩ ⟨ri, rk, rn⟩ ⟨ti, tk, tn⟩ qn _).mono ?_; rintro e w3 ⟨rfl, k3⟩; rw [HF.out]; obtain ⟨x3, x4, x5⟩ := Blk.c3 (Blk.fresh hx2.out k3)))
            go_ret2
            exact .inl ⟨lay_no1 (okB_lost hz (by rw [HF.out]; exact (by simpa using hne))), rfl, hF0.trans (((Keep.refl _ wr).alloc _).trans (k2.trans k3 (fun _ _ f => f)) (fun _ _ f => f)) (fun _ _ f => f)⟩
        · have hok : okB 1 ⟨qi, qk, qn⟩ ⟨pi, pk, pn⟩ ⟨qi, qk, qn⟩ ⟨ri, rk, rn⟩ ⟨ti, tk, tn⟩ = true := okB_zero hm hz
          have HOK := Lib.hid hok; clear hok
          go_wp2_with (first | (go_at_call 29; refine (May_calls ⟨qi, qk, qn⟩ _ hq).mono ?_; rintro e w2 ⟨rfl, k2⟩; rw [hm]; obtain ⟨b0, b1, b2, b3, b4, b5, b6, b7, b8, b9, b10, b11⟩ := Blk.c12 ((Blk.alloc hbox _).fresh k2); have hx2 := Lib.hid ((Blk.new wr 39 #[.int .i64 qi, .int .i64 qk, .string qn]).fresh k2); obtain ⟨x0, x1, x2⟩ := Blk.c3 hx2.out) | (go_at_call 44; refine (laid_calls ⟨qi, qk, qn⟩ _ hsz).mono ?_; rintro e w4 ⟨v4, rfl, h4⟩; obtain ⟨A4, c4, rfl⟩ := h4.1.shape) | (at_builtin; have k5 := ((Keep.refl (fun _ => False) wr).alloc _).trans (k2.trans h4.2.1 (fun _ _ f => f)) (fun _ _ f => f); refine app_u8 (l := l) rfl (.tmp 28) (.tmp 30) rfl (own_keep HNB.out.1 k5 (fun _ _ f => f)) rfl (Rd.of_own h4.1) rfl (by have := HN.out; omega) ?_; intro v5 w5 ho5 hg5 hb5))
          go_round
          case rel => exact ⟨_, _, by omega, rfl, pasto2 HP.out HOK.out, by have := HN.out; show ((n + 28 : Nat) : Int) = _; omega, gone2 HL.out (newB_app (HNB.out.2.1.trans k5 (fun _ _ f => f)) HNB.out.2.2 ho5 hg5 hb5)⟩
          case measure => simp [intOf]
    · cases hm : mayB ⟨ri, rk, rn⟩
      · go_wp2_with (first | (go_at_call 29; refine (May_calls ⟨ri, rk, rn⟩ _ hr).mono ?_; rintro e w2 ⟨rfl, k2⟩; rw [hm]))
        go_ret2
        exact .inl ⟨lay_no2 (okB_no hm), rfl, (hF0.trans (((Keep.refl _ wr).alloc _).trans k2 (fun _ _ f => f)) (fun _ _ f => f))⟩
      · have hsz := mayB_size hm
        by_cases hz : 0 < ri
        · obtain ⟨z, hf⟩ : ∃ z, findI rn ⟨pi, pk, pn⟩ ⟨qi, qk, qn⟩ ⟨ri, rk, rn⟩ ⟨ti, tk, tn⟩ = z := ⟨_, rfl⟩
          have HF := Lib.hid hf; clear hf
          cases hne : (z != 2)
          · have hok : okB 2 ⟨ri, rk, rn⟩ ⟨pi, pk, pn⟩ ⟨qi, qk, qn⟩ ⟨ri, rk, rn⟩ ⟨ti, tk, tn⟩ = true := okB_found hm (by rw [HF.out]; exact (by simpa using hne))
            have HOK := Lib.hid hok; clear hok
            have HM := hm
            go_wp2_with (first | (go_at_call 29; refine (May_calls ⟨ri, rk, rn⟩ _ hr).mono ?_; rintro e w2 ⟨rfl, k2⟩; rw [hm]; obtain ⟨b0, b1, b2, b3, b4, b5, b6, b7, b8, b9, b10, b11⟩ := Blk.c12 ((Blk.alloc hbox _).fresh k2); have hx2 := Lib.hid ((Blk.new wr 39 #[.int .i64 ri, .int .i64 rk, .string rn]).fresh k2); obtain ⟨x0, x1, x2⟩ := Blk.c3 hx2.out) | (go_at_call 31; refine (Find_calls ⟨pi, pk, pn⟩ ⟨qi, qk, qn⟩ ⟨ri, rk, rn⟩ ⟨ti, tk, tn⟩ rn _).mono ?_; rintro e w3 ⟨rfl, k3⟩; rw [HF.out]; obtain ⟨x3, x4, x5⟩ := Blk.c3 (Blk.fresh hx2.out k3)) | (go_at_call 44; refine (laid_calls ⟨ri, rk, rn⟩ _ hsz).mono ?_; rintro e w4 ⟨v4, rfl, h4⟩; obtain ⟨A4, c4, rfl⟩ := h4.1.shape) | (at_builtin; have k5 := ((Keep.refl (fun _ => False) wr).alloc _).trans (k2.trans (k3.trans h4.2.1 (fun _ _ f => f)) (fun _ _ f => f)) (fun _ _ f => f); refine app_u8 (l := l) rfl (.tmp 28) (.tmp 30) rfl (own_keep HNB.out.1 k5 (fun _ _ f => f)) rfl (Rd.of_own h4.1) rfl (by have := HN.out; omega) ?_; intro v5 w5 ho5 hg5 hb5))
            go_round
            case rel => exact ⟨_, _, by omega, rfl, pasto3 HP.out HOK.out, by have := HN.out; show ((n + 28 : Nat) : Int) = _; omega, gone3 HL.out (newB_app (HNB.out.2.1.trans k5 (fun _ _ f => f)) HNB.out.2.2 ho5 hg5 hb5)⟩
            case measure => simp [intOf]
          · go_wp2_with (first | (go_at_call 29; refine (May_calls ⟨ri, rk, rn⟩ _ hr).mono ?_; rintro e w2 ⟨rfl, k2⟩; rw [hm]; obtain ⟨b0, b1, b2, b3, b4, b5, b6, b7, b8, b9, b10, b11⟩ := Blk.c12 ((Blk.alloc hbox _).fresh k2); have hx2 := Lib.hid ((Blk.new wr 39 #[.int .i64 ri, .int .i64 rk, .string rn]).fresh k2); obtain ⟨x0, x1, x2⟩ := Blk.c3 hx2.out) | (go_at_call 31; refine (Find_calls ⟨pi, pk, pn⟩ ⟨qi, qk, qn⟩ ⟨ri, rk, rn⟩ ⟨ti, tk, tn⟩ rn _).mono ?_; rintro e w3 ⟨rfl, k3⟩; rw [HF.out]; obtain ⟨x3, x4, x5⟩ := Blk.c3 (Blk.fresh hx2.out k3)))
            go_ret2
            exact .inl ⟨lay_no2 (okB_lost hz (by rw [HF.out]; exact (by simpa using hne))), rfl, hF0.trans (((Keep.refl _ wr).alloc _).trans (k2.trans k3 (fun _ _ f => f)) (fun _ _ f => f)) (fun _ _ f => f)⟩
        · have hok : okB 2 ⟨ri, rk, rn⟩ ⟨pi, pk, pn⟩ ⟨qi, qk, qn⟩ ⟨ri, rk, rn⟩ ⟨ti, tk, tn⟩ = true := okB_zero hm hz
          have HOK := Lib.hid hok; clear hok
          go_wp2_with (first | (go_at_call 29; refine (May_calls ⟨ri, rk, rn⟩ _ hr).mono ?_; rintro e w2 ⟨rfl, k2⟩; rw [hm]; obtain ⟨b0, b1, b2, b3, b4, b5, b6, b7, b8, b9, b10, b11⟩ := Blk.c12 ((Blk.alloc hbox _).fresh k2); have hx2 := Lib.hid ((Blk.new wr 39 #[.int .i64 ri, .int .i64 rk, .string rn]).fresh k2); obtain ⟨x0, x1, x2⟩ := Blk.c3 hx2.out) | (go_at_call 44; refine (laid_calls ⟨ri, rk, rn⟩ _ hsz).mono ?_; rintro e w4 ⟨v4, rfl, h4⟩; obtain ⟨A4, c4, rfl⟩ := h4.1.shape) | (at_builtin; have k5 := ((Keep.refl (fun _ => False) wr).alloc _).trans (k2.trans h4.2.1 (fun _ _ f => f)) (fun _ _ f => f); refine app_u8 (l := l) rfl (.tmp 28) (.tmp 30) rfl (own_keep HNB.out.1 k5 (fun _ _ f => f)) rfl (Rd.of_own h4.1) rfl (by have := HN.out; omega) ?_; intro v5 w5 ho5 hg5 hb5))
          go_round
          case rel => exact ⟨_, _, by omega, rfl, pasto3 HP.out HOK.out, by have := HN.out; show ((n + 28 : Nat) : Int) = _; omega, gone3 HL.out (newB_app (HNB.out.2.1.trans k5 (fun _ _ f => f)) HNB.out.2.2 ho5 hg5 hb5)⟩
          case measure => simp [intOf]
    · cases hm : mayB ⟨ti, tk, tn⟩
      · go_wp2_with (first | (go_at_call 29; refine (May_calls ⟨ti, tk, tn⟩ _ ht).mono ?_; rintro e w2 ⟨rfl, k2⟩; rw [hm]))
        go_ret2
        exact .inl ⟨lay_no3 (okB_no hm), rfl, (hF0.trans (((Keep.refl _ wr).alloc _).trans k2 (fun _ _ f => f)) (fun _ _ f => f))⟩
      · have hsz := mayB_size hm
        by_cases hz : 0 < ti
        · obtain ⟨z, hf⟩ : ∃ z, findI tn ⟨pi, pk, pn⟩ ⟨qi, qk, qn⟩ ⟨ri, rk, rn⟩ ⟨ti, tk, tn⟩ = z := ⟨_, rfl⟩
          have HF := Lib.hid hf; clear hf
          cases hne : (z != 3)
          · have hok : okB 3 ⟨ti, tk, tn⟩ ⟨pi, pk, pn⟩ ⟨qi, qk, qn⟩ ⟨ri, rk, rn⟩ ⟨ti, tk, tn⟩ = true := okB_found hm (by rw [HF.out]; exact (by simpa using hne))
            have HOK := Lib.hid hok; clear hok
            have HM := hm
            go_wp2_with (first | (go_at_call 29; refine (May_calls ⟨ti, tk, tn⟩ _ ht).mono ?_; rintro e w2 ⟨rfl, k2⟩; rw [hm]; obtain ⟨b0, b1, b2, b3, b4, b5, b6, b7, b8, b9, b10, b11⟩ := Blk.c12 ((Blk.alloc hbox _).fresh k2); have hx2 := Lib.hid ((Blk.new wr 39 #[.int .i64 ti, .int .i64 tk, .string tn]).fresh k2); obtain ⟨x0, x1, x2⟩ := Blk.c3 hx2.out) | (go_at_call 31; refine (Find_calls ⟨pi, pk, pn⟩ ⟨qi, qk, qn⟩ ⟨ri, rk, rn⟩ ⟨ti, tk, tn⟩ tn _).mono ?_; rintro e w3 ⟨rfl, k3⟩; rw [HF.out]; obtain ⟨x3, x4, x5⟩ := Blk.c3 (Blk.fresh hx2.out k3)) | (go_at_call 44; refine (laid_calls ⟨ti, tk, tn⟩ _ hsz).mono ?_; rintro e w4 ⟨v4, rfl, h4⟩; obtain ⟨A4, c4, rfl⟩ := h4.1.shape) | (at_builtin; have k5 := ((Keep.refl (fun _ => False) wr).alloc _).trans (k2.trans (k3.trans h4.2.1 (fun _ _ f => f)) (fun _ _ f => f)) (fun _ _ f => f); refine app_u8 (l := l) rfl (.tmp 28) (.tmp 30) rfl (own_keep HNB.out.1 k5 (fun _ _ f => f)) rfl (Rd.of_own h4.1) rfl (by have := HN.out; omega) ?_; intro v5 w5 ho5 hg5 hb5))
            go_round
            case rel => exact ⟨_, _, by omega, rfl, pasto4 HP.out HOK.out, by have := HN.out; show ((n + 28 : Nat) : Int) = _; omega, gone4 HL.out (newB_app (HNB.out.2.1.trans k5 (fun _ _ f => f)) HNB.out.2.2 ho5 hg5 hb5)⟩
            case measure => simp [intOf]
          · go_wp2_with (first | (go_at_call 29; refine (May_calls ⟨ti, tk, tn⟩ _ ht).mono ?_; rintro e w2 ⟨rfl, k2⟩; rw [hm]; obtain ⟨b0, b1, b2, b3, b4, b5, b6, b7, b8, b9, b10, b11⟩ := Blk.c12 ((Blk.alloc hbox _).fresh k2); have hx2 := Lib.hid ((Blk.new wr 39 #[.int .i64 ti, .int .i64 tk, .string tn]).fresh k2); obtain ⟨x0, x1, x2⟩ := Blk.c3 hx2.out) | (go_at_call 31; refine (Find_calls ⟨pi, pk, pn⟩ ⟨qi, qk, qn⟩ ⟨ri, rk, rn⟩ ⟨ti, tk, tn⟩ tn _).mono ?_; rintro e w3 ⟨rfl, k3⟩; rw [HF.out]; obtain ⟨x3, x4, x5⟩ := Blk.c3 (Blk.fresh hx2.out k3)))
            go_ret2
            exact .inl ⟨lay_no3 (okB_lost hz (by rw [HF.out]; exact (by simpa using hne))), rfl, hF0.trans (((Keep.refl _ wr).alloc _).trans (k2.trans k3 (fun _ _ f => f)) (fun _ _ f => f)) (fun _ _ f => f)⟩
        · have hok : okB 3 ⟨ti, tk, tn⟩ ⟨pi, pk, pn⟩ ⟨qi, qk, qn⟩ ⟨ri, rk, rn⟩ ⟨ti, tk, tn⟩ = true := okB_zero hm hz
          have HOK := Lib.hid hok; clear hok
          go_wp2_with (first | (go_at_call 29; refine (May_calls ⟨ti, tk, tn⟩ _ ht).mono ?_; rintro e w2 ⟨rfl, k2⟩; rw [hm]; obtain ⟨b0, b1, b2, b3, b4, b5, b6, b7, b8, b9, b10, b11⟩ := Blk.c12 ((Blk.alloc hbox _).fresh k2); have hx2 := Lib.hid ((Blk.new wr 39 #[.int .i64 ti, .int .i64 tk, .string tn]).fresh k2); obtain ⟨x0, x1, x2⟩ := Blk.c3 hx2.out) | (go_at_call 44; refine (laid_calls ⟨ti, tk, tn⟩ _ hsz).mono ?_; rintro e w4 ⟨v4, rfl, h4⟩; obtain ⟨A4, c4, rfl⟩ := h4.1.shape) | (at_builtin; have k5 := ((Keep.refl (fun _ => False) wr).alloc _).trans (k2.trans h4.2.1 (fun _ _ f => f)) (fun _ _ f => f); refine app_u8 (l := l) rfl (.tmp 28) (.tmp 30) rfl (own_keep HNB.out.1 k5 (fun _ _ f => f)) rfl (Rd.of_own h4.1) rfl (by have := HN.out; omega) ?_; intro v5 w5 ho5 hg5 hb5))
          go_round
          case rel => exact ⟨_, _, by omega, rfl, pasto4 HP.out HOK.out, by have := HN.out; show ((n + 28 : Nat) : Int) = _; omega, gone4 HL.out (newB_app (HNB.out.2.1.trans k5 (fun _ _ f => f)) HNB.out.2.2 ho5 hg5 hb5)⟩
          case measure => simp [intOf]
    · obtain rfl : n = 112 := by have := HN.out; omega
      have hno := HNB.out
      rw [← HL.out] at hno
      obtain ⟨A6, c6, rfl⟩ := hno.1.shape
      go_wp2_with (go_at_call 35; refine (Seal_calls _ 68 (Rd.of_own hno.1) (by decide) (by omega)).mono ?_; rintro e w6 ⟨v6, rfl, h6⟩)
      go_ret2
      exact .inr ⟨lay_yes HP.out, _, rfl, h6.1, hF0.trans h6.2.1 (fun _ _ f => f), fun b hb => Nat.le_trans hF0.size (h6.2.2 b hb)⟩
end Go.Proofs.Ytcjackjoonijnaa
