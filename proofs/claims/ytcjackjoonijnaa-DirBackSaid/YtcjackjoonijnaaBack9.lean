/-
  DirBack, walked.
-/
import Derived.Deep.RegionHeld3
import Derived.Test.YtcjackjoonijnaaTells9
namespace Go.Proofs.Ytcjackjoonijnaa
open Go.RowKit

def pr (x y : Slt) : Bool := (x.ino == 0) || ((y.ino == 0) || (y.name.toList != x.name.toList))
section
variable {x y : Slt} {v : Bool}
theorem pr_a (h : (x.ino == 0) = true) : pr x y = true := by simp only [pr, h, Bool.true_or]
theorem pr_b (h1 : (x.ino == 0) = false) (h2 : (y.ino == 0) = true) : pr x y = true := by simp only [pr, h1, h2, Bool.false_or, Bool.true_or]
theorem pr_c (h1 : (x.ino == 0) = false) (h2 : (y.ino == 0) = false) (h3 : (y.name.toList != x.name.toList) = v) : pr x y = v := by simp only [pr, h1, h2, h3, Bool.false_or]
theorem stay_no {a b : Bool} (h : false = a) : false = (a && b) := by rw [← h]; rfl
theorem stay_yes {a b : Bool} (h : true = a) (h2 : b = v) : v = (a && b) := by rw [← h, h2]; rfl
end
def inn0 (p q r t : Slt) : Bool := mayB p
def inn1 (p q r t : Slt) (j : Int) : Bool := if j = 0 then (inn0 p q r t && mayB q) else ((inn0 p q r t && mayB q) && pr q p)
def inn2 (p q r t : Slt) (j : Int) : Bool := if j = 0 then (inn1 p q r t 1 && mayB r) else if j = 1 then ((inn1 p q r t 1 && mayB r) && pr r p) else (((inn1 p q r t 1 && mayB r) && pr r p) && pr r q)
def inn3 (p q r t : Slt) (j : Int) : Bool := if j = 0 then (inn2 p q r t 2 && mayB t) else if j = 1 then ((inn2 p q r t 2 && mayB t) && pr t p) else if j = 2 then (((inn2 p q r t 2 && mayB t) && pr t p) && pr t q) else ((((inn2 p q r t 2 && mayB t) && pr t p) && pr t q) && pr t r)
def preB (p q r t : Slt) (k : Int) : Bool := if k = 0 then true else if k = 1 then inn0 p q r t else if k = 2 then inn1 p q r t 1 else if k = 3 then inn2 p q r t 2 else inn3 p q r t 3

/-! ### the plain law -/
theorem hit_pr {x y : Slt} (hx : ¬ x.ino = 0) : hitB x.name y = !pr x y := by
  have h1 : (x.ino == 0) = false := by rw [beq_eq_false_iff_ne]; exact hx
  unfold hitB pr
  rw [h1, Bool.false_or, Bool.not_or]
  simp only [bne, Bool.not_not]
theorem pr_zero {x y : Slt} (hx : x.ino = 0) : pr x y = true := pr_a (by rw [beq_iff_eq]; exact hx)
theorem hit_self {x : Slt} (hx : ¬ x.ino = 0) : hitB x.name x = true := by simp [hitB, hx]
theorem back_law (p q r t : Slt) : preB p q r t 4 = layOkB p q r t := by
  show ((((((((((mayB p) && mayB q) && pr q p) && mayB r) && pr r p) && pr r q) && mayB t) && pr t p) && pr t q) && pr t r) = _
  have f0 : ((p.ino == 0) || (findI p.name p q r t == 0)) = true := by
    by_cases h : p.ino = 0
    · simp [h]
    · simp [findI, hit_self h]
  have f1 : ((q.ino == 0) || (findI q.name p q r t == 1)) = pr q p := by
    by_cases h : q.ino = 0
    · simp [h, pr_zero h]
    · have e : (q.ino == 0) = false := by rw [beq_eq_false_iff_ne]; exact h
      rw [e, Bool.false_or]
      unfold findI
      rw [hit_pr (y := p) h, hit_self h]
      cases pr q p <;> rfl
  have f2 : ((r.ino == 0) || (findI r.name p q r t == 2)) = (pr r p && pr r q) := by
    by_cases h : r.ino = 0
    · simp [h, pr_zero h]
    · have e : (r.ino == 0) = false := by rw [beq_eq_false_iff_ne]; exact h
      rw [e, Bool.false_or]
      unfold findI
      rw [hit_pr (y := p) h, hit_pr (y := q) h, hit_self h]
      cases pr r p <;> cases pr r q <;> rfl
  have f3 : ((t.ino == 0) || (findI t.name p q r t == 3)) = (pr t p && (pr t q && pr t r)) := by
    by_cases h : t.ino = 0
    · simp [h, pr_zero h]
    · have e : (t.ino == 0) = false := by rw [beq_eq_false_iff_ne]; exact h
      rw [e, Bool.false_or]
      unfold findI
      rw [hit_pr (y := p) h, hit_pr (y := q) h, hit_pr (y := r) h, hit_self h]
      cases pr t p <;> cases pr t q <;> cases pr t r <;> rfl
  unfold layOkB okB
  rw [f0, f1, f2, f3]
  simp only [Bool.and_true, Bool.and_assoc]
theorem ok_find {k : Int} {x a b c d : Slt} (h : okB k x a b c d = true) (hz : (x.ino != 0) = true) : findI x.name a b c d = k := by
  unfold okB at h
  have hz' : (x.ino == 0) = false := by rw [beq_eq_false_iff_ne]; exact bne_iff_ne.1 hz
  rw [hz', Bool.false_or] at h
  exact beq_iff_eq.1 (Bool.and_eq_true_iff.1 h).2

set_option maxRecDepth 100000 in
set_option maxHeartbeats 16000000 in
theorem DirBack_calls (w : World) (p q r t : Slt) : Calls Try.prog 6 #[sltsV p q r t] w fun e w' => e = .returned (.bool true) ∧ Fresh w w' := by
  obtain ⟨pi, pk, pn⟩ := p
  obtain ⟨qi, qk, qn⟩ := q
  obtain ⟨ri, rk, rn⟩ := r
  obtain ⟨ti, tk, tn⟩ := t
  cases hg : greatB ⟨pi, pk, pn⟩ ⟨qi, qk, qn⟩ ⟨ri, rk, rn⟩ ⟨ti, tk, tn⟩
  · obtain ⟨s1, s2, s3, s4⟩ := great_size hg
    have hlaw := back_law ⟨pi, pk, pn⟩ ⟨qi, qk, qn⟩ ⟨ri, rk, rn⟩ ⟨ti, tk, tn⟩
    have HLAW := Lib.hid hlaw; clear hlaw
    have HG := Lib.hid hg; clear hg
    have hEQ : ∀ w, (Op.equalIn 10000 40 (.agg #[.int .i64 pi, .int .i64 pk, .string pn, .int .i64 qi, .int .i64 qk, .string qn, .int .i64 ri, .int .i64 rk, .string rn, .int .i64 ti, .int .i64 tk, .string tn]) (.agg #[.int .i64 pi, .int .i64 pk, .string pn, .int .i64 qi, .int .i64 qk, .string qn, .int .i64 ri, .int .i64 rk, .string rn, .int .i64 ti, .int .i64 tk, .string tn])).run Try.prog w = .ok true w := arr_self ⟨pi, pk, pn⟩ ⟨qi, qk, qn⟩ ⟨ri, rk, rn⟩ ⟨ti, tk, tn⟩
    unfold sltsV
    dsimp only at s1 s2 s3 s4 ⊢
    have HA := Lib.hid (Blk.new w 40 #[.int .i64 pi, .int .i64 pk, .string pn, .int .i64 qi, .int .i64 qk, .string qn, .int .i64 ri, .int .i64 rk, .string rn, .int .i64 ti, .int .i64 tk, .string tn])
    have HF := Lib.hid ((Keep.refl (fun _ => False) w).alloc (.cells #[.int .i64 pi, .int .i64 pk, .string pn, .int .i64 qi, .int .i64 qk, .string qn, .int .i64 ri, .int .i64 rk, .string rn, .int .i64 ti, .int .i64 tk, .string tn] 40))
    go_enter Try.func6, Try.ntmps6
    go_wp2_with (first | (go_at_call 21; refine (great_calls ⟨pi, pk, pn⟩ ⟨qi, qk, qn⟩ ⟨ri, rk, rn⟩ ⟨ti, tk, tn⟩ _).mono ?_; rintro e w1 ⟨rfl, k1⟩; rw [HG.out]; have HA1 := Lib.hid (HA.out.fresh k1); have HF1 := Lib.hid (HF.out.trans k1 (fun _ _ f => f))))
    clear HA HF
    go_loopw [3, 4] (fun v i wr => ∃ (k : Int) (b : Bool), (k = 0 ∨ k = 1 ∨ k = 2 ∨ k = 3 ∨ k = 4) ∧ i = .int .i64 k ∧ v = .bool b ∧ Hid (b = preB ⟨pi, pk, pn⟩ ⟨qi, qk, qn⟩ ⟨ri, rk, rn⟩ ⟨ti, tk, tn⟩ k) ∧ Hid (Fresh w1 wr)) (fun _ i _ => 4 - (intOf i).toNat)
    case atStart => exact ⟨0, true, by omega, rfl, rfl, rfl, Keep.refl _ _⟩
    case round =>
      obtain ⟨k, b, hk, rfl, rfl, HB, hfr⟩ := hrel
      have HA2 := Lib.hid (HA1.out.fresh hfr.out)
      obtain rfl | rfl | rfl | rfl | rfl := hk
      · cases b
        · exact absurd (show false = true from HB.out) (by decide)
        · obtain ⟨a0, a1, a2, a3, a4, a5, a6, a7, a8, a9, a10, a11⟩ := Blk.c12 HA2.out
          go_wp2_with (first | (go_at_call 29; refine (May_calls ⟨pi, pk, pn⟩ _ (show pn.size ≤ 1000000 by omega)).mono ?_; rintro e w2 ⟨rfl, k2⟩))
          have hfi := Lib.hid (hfr.out.trans k2 (fun _ _ f => f))
          go_loopw [3, 5] (fun v i wx => i = .int .i64 0 ∧ v = .bool (mayB ⟨pi, pk, pn⟩) ∧ Hid (Fresh w1 wx)) (fun _ _ _ => 0)
          case atStart => exact ⟨rfl, rfl, hfi⟩
          case round =>
            obtain ⟨rfl, rfl, hfx⟩ := hrel
            go_wp2
            go_round
            case rel => exact ⟨1, _, by omega, rfl, rfl, rfl, hfx⟩
            case measure => simp [intOf]
      · cases b
        · obtain ⟨a0, a1, a2, a3, a4, a5, a6, a7, a8, a9, a10, a11⟩ := Blk.c12 HA2.out
          go_wp2_with (first | (go_at_call 29; refine (May_calls ⟨qi, qk, qn⟩ _ (show qn.size ≤ 1000000 by omega)).mono ?_; rintro e w2 ⟨rfl, k2⟩))
          have hfi := Lib.hid hfr.out
          go_loopw [3, 5] (fun v i wx => ∃ (j : Int) (d : Bool), (j = 0 ∨ j = 1) ∧ i = .int .i64 j ∧ v = .bool d ∧ Hid (d = inn1 ⟨pi, pk, pn⟩ ⟨qi, qk, qn⟩ ⟨ri, rk, rn⟩ ⟨ti, tk, tn⟩ j) ∧ Hid (Fresh w1 wx)) (fun _ i _ => 4 - (intOf i).toNat)
          case atStart => exact ⟨0, _, by omega, rfl, rfl, stay_no HB.out, hfi⟩
          case round =>
            obtain ⟨j, d, hj, rfl, rfl, HD, hfx⟩ := hrel
            obtain ⟨c0, c1, c2, c3, c4, c5, c6, c7, c8, c9, c10, c11⟩ := Blk.c12 (HA1.out.fresh hfx.out)
            obtain rfl | rfl := hj
            · cases d
              · go_wp2
                go_quiet (fail)
                go_wp2
                go_round
                case rel => exact ⟨1, _, by omega, rfl, rfl, stay_no HD.out, hfx.out.drewN _⟩
                case measure => simp [intOf]
              · cases h1 : (qi == 0)
                · cases h2 : (pi == 0)
                  · go_wp2
                    go_quiet (fail)
                    go_wp2
                    go_round
                    case rel => exact ⟨1, _, by omega, rfl, rfl, stay_yes HD.out (pr_c h1 h2 rfl), hfx.out.drewN _⟩
                    case measure => simp [intOf]
                  · go_wp2
                    go_quiet (fail)
                    go_wp2
                    go_round
                    case rel => exact ⟨1, _, by omega, rfl, rfl, stay_yes HD.out (pr_b h1 h2), hfx.out.drewN _⟩
                    case measure => simp [intOf]
                · go_wp2
                  go_quiet (fail)
                  go_wp2
                  go_round
                  case rel => exact ⟨1, _, by omega, rfl, rfl, stay_yes HD.out (pr_a h1), hfx.out.drewN _⟩
                  case measure => simp [intOf]
            · go_wp2
              go_round
              case rel => exact ⟨2, _, by omega, rfl, rfl, HD.out, hfx⟩
              case measure => simp [intOf]
        · obtain ⟨a0, a1, a2, a3, a4, a5, a6, a7, a8, a9, a10, a11⟩ := Blk.c12 HA2.out
          go_wp2_with (first | (go_at_call 29; refine (May_calls ⟨qi, qk, qn⟩ _ (show qn.size ≤ 1000000 by omega)).mono ?_; rintro e w2 ⟨rfl, k2⟩))
          have hfi := Lib.hid (hfr.out.trans k2 (fun _ _ f => f))
          go_loopw [3, 5] (fun v i wx => ∃ (j : Int) (d : Bool), (j = 0 ∨ j = 1) ∧ i = .int .i64 j ∧ v = .bool d ∧ Hid (d = inn1 ⟨pi, pk, pn⟩ ⟨qi, qk, qn⟩ ⟨ri, rk, rn⟩ ⟨ti, tk, tn⟩ j) ∧ Hid (Fresh w1 wx)) (fun _ i _ => 4 - (intOf i).toNat)
          case atStart => exact ⟨0, _, by omega, rfl, rfl, stay_yes HB.out rfl, hfi⟩
          case round =>
            obtain ⟨j, d, hj, rfl, rfl, HD, hfx⟩ := hrel
            obtain ⟨c0, c1, c2, c3, c4, c5, c6, c7, c8, c9, c10, c11⟩ := Blk.c12 (HA1.out.fresh hfx.out)
            obtain rfl | rfl := hj
            · cases d
              · go_wp2
                go_quiet (fail)
                go_wp2
                go_round
                case rel => exact ⟨1, _, by omega, rfl, rfl, stay_no HD.out, hfx.out.drewN _⟩
                case measure => simp [intOf]
              · cases h1 : (qi == 0)
                · cases h2 : (pi == 0)
                  · go_wp2
                    go_quiet (fail)
                    go_wp2
                    go_round
                    case rel => exact ⟨1, _, by omega, rfl, rfl, stay_yes HD.out (pr_c h1 h2 rfl), hfx.out.drewN _⟩
                    case measure => simp [intOf]
                  · go_wp2
                    go_quiet (fail)
                    go_wp2
                    go_round
                    case rel => exact ⟨1, _, by omega, rfl, rfl, stay_yes HD.out (pr_b h1 h2), hfx.out.drewN _⟩
                    case measure => simp [intOf]
                · go_wp2
                  go_quiet (fail)
                  go_wp2
                  go_round
                  case rel => exact ⟨1, _, by omega, rfl, rfl, stay_yes HD.out (pr_a h1), hfx.out.drewN _⟩
                  case measure => simp [intOf]
            · go_wp2
              go_round
              case rel => exact ⟨2, _, by omega, rfl, rfl, HD.out, hfx⟩
              case measure => simp [intOf]
      · cases b
        · obtain ⟨a0, a1, a2, a3, a4, a5, a6, a7, a8, a9, a10, a11⟩ := Blk.c12 HA2.out
          go_wp2_with (first | (go_at_call 29; refine (May_calls ⟨ri, rk, rn⟩ _ (show rn.size ≤ 1000000 by omega)).mono ?_; rintro e w2 ⟨rfl, k2⟩))
          have hfi := Lib.hid hfr.out
          go_loopw [3, 5] (fun v i wx => ∃ (j : Int) (d : Bool), (j = 0 ∨ j = 1 ∨ j = 2) ∧ i = .int .i64 j ∧ v = .bool d ∧ Hid (d = inn2 ⟨pi, pk, pn⟩ ⟨qi, qk, qn⟩ ⟨ri, rk, rn⟩ ⟨ti, tk, tn⟩ j) ∧ Hid (Fresh w1 wx)) (fun _ i _ => 4 - (intOf i).toNat)
          case atStart => exact ⟨0, _, by omega, rfl, rfl, stay_no HB.out, hfi⟩
          case round =>
            obtain ⟨j, d, hj, rfl, rfl, HD, hfx⟩ := hrel
            obtain ⟨c0, c1, c2, c3, c4, c5, c6, c7, c8, c9, c10, c11⟩ := Blk.c12 (HA1.out.fresh hfx.out)
            obtain rfl | rfl | rfl := hj
            · cases d
              · go_wp2
                go_quiet (fail)
                go_wp2
                go_round
                case rel => exact ⟨1, _, by omega, rfl, rfl, stay_no HD.out, hfx.out.drewN _⟩
                case measure => simp [intOf]
              · cases h1 : (ri == 0)
                · cases h2 : (pi == 0)
                  · go_wp2
                    go_quiet (fail)
                    go_wp2
                    go_round
                    case rel => exact ⟨1, _, by omega, rfl, rfl, stay_yes HD.out (pr_c h1 h2 rfl), hfx.out.drewN _⟩
                    case measure => simp [intOf]
                  · go_wp2
                    go_quiet (fail)
                    go_wp2
                    go_round
                    case rel => exact ⟨1, _, by omega, rfl, rfl, stay_yes HD.out (pr_b h1 h2), hfx.out.drewN _⟩
                    case measure => simp [intOf]
                · go_wp2
                  go_quiet (fail)
                  go_wp2
                  go_round
                  case rel => exact ⟨1, _, by omega, rfl, rfl, stay_yes HD.out (pr_a h1), hfx.out.drewN _⟩
                  case measure => simp [intOf]
            · cases d
              · go_wp2
                go_quiet (fail)
                go_wp2
                go_round
                case rel => exact ⟨2, _, by omega, rfl, rfl, stay_no HD.out, hfx.out.drewN _⟩
                case measure => simp [intOf]
              · cases h1 : (ri == 0)
                · cases h2 : (qi == 0)
                  · go_wp2
                    go_quiet (fail)
                    go_wp2
                    go_round
                    case rel => exact ⟨2, _, by omega, rfl, rfl, stay_yes HD.out (pr_c h1 h2 rfl), hfx.out.drewN _⟩
                    case measure => simp [intOf]
                  · go_wp2
                    go_quiet (fail)
                    go_wp2
                    go_round
                    case rel => exact ⟨2, _, by omega, rfl, rfl, stay_yes HD.out (pr_b h1 h2), hfx.out.drewN _⟩
                    case measure => simp [intOf]
                · go_wp2
                  go_quiet (fail)
                  go_wp2
                  go_round
                  case rel => exact ⟨2, _, by omega, rfl, rfl, stay_yes HD.out (pr_a h1), hfx.out.drewN _⟩
                  case measure => simp [intOf]
            · go_wp2
              go_round
              case rel => exact ⟨3, _, by omega, rfl, rfl, HD.out, hfx⟩
              case measure => simp [intOf]
        · obtain ⟨a0, a1, a2, a3, a4, a5, a6, a7, a8, a9, a10, a11⟩ := Blk.c12 HA2.out
          go_wp2_with (first | (go_at_call 29; refine (May_calls ⟨ri, rk, rn⟩ _ (show rn.size ≤ 1000000 by omega)).mono ?_; rintro e w2 ⟨rfl, k2⟩))
          have hfi := Lib.hid (hfr.out.trans k2 (fun _ _ f => f))
          go_loopw [3, 5] (fun v i wx => ∃ (j : Int) (d : Bool), (j = 0 ∨ j = 1 ∨ j = 2) ∧ i = .int .i64 j ∧ v = .bool d ∧ Hid (d = inn2 ⟨pi, pk, pn⟩ ⟨qi, qk, qn⟩ ⟨ri, rk, rn⟩ ⟨ti, tk, tn⟩ j) ∧ Hid (Fresh w1 wx)) (fun _ i _ => 4 - (intOf i).toNat)
          case atStart => exact ⟨0, _, by omega, rfl, rfl, stay_yes HB.out rfl, hfi⟩
          case round =>
            obtain ⟨j, d, hj, rfl, rfl, HD, hfx⟩ := hrel
            obtain ⟨c0, c1, c2, c3, c4, c5, c6, c7, c8, c9, c10, c11⟩ := Blk.c12 (HA1.out.fresh hfx.out)
            obtain rfl | rfl | rfl := hj
            · cases d
              · go_wp2
                go_quiet (fail)
                go_wp2
                go_round
                case rel => exact ⟨1, _, by omega, rfl, rfl, stay_no HD.out, hfx.out.drewN _⟩
                case measure => simp [intOf]
              · cases h1 : (ri == 0)
                · cases h2 : (pi == 0)
                  · go_wp2
                    go_quiet (fail)
                    go_wp2
                    go_round
                    case rel => exact ⟨1, _, by omega, rfl, rfl, stay_yes HD.out (pr_c h1 h2 rfl), hfx.out.drewN _⟩
                    case measure => simp [intOf]
                  · go_wp2
                    go_quiet (fail)
                    go_wp2
                    go_round
                    case rel => exact ⟨1, _, by omega, rfl, rfl, stay_yes HD.out (pr_b h1 h2), hfx.out.drewN _⟩
                    case measure => simp [intOf]
                · go_wp2
                  go_quiet (fail)
                  go_wp2
                  go_round
                  case rel => exact ⟨1, _, by omega, rfl, rfl, stay_yes HD.out (pr_a h1), hfx.out.drewN _⟩
                  case measure => simp [intOf]
            · cases d
              · go_wp2
                go_quiet (fail)
                go_wp2
                go_round
                case rel => exact ⟨2, _, by omega, rfl, rfl, stay_no HD.out, hfx.out.drewN _⟩
                case measure => simp [intOf]
              · cases h1 : (ri == 0)
                · cases h2 : (qi == 0)
                  · go_wp2
                    go_quiet (fail)
                    go_wp2
                    go_round
                    case rel => exact ⟨2, _, by omega, rfl, rfl, stay_yes HD.out (pr_c h1 h2 rfl), hfx.out.drewN _⟩
                    case measure => simp [intOf]
                  · go_wp2
                    go_quiet (fail)
                    go_wp2
                    go_round
                    case rel => exact ⟨2, _, by omega, rfl, rfl, stay_yes HD.out (pr_b h1 h2), hfx.out.drewN _⟩
                    case measure => simp [intOf]
                · go_wp2
                  go_quiet (fail)
                  go_wp2
                  go_round
                  case rel => exact ⟨2, _, by omega, rfl, rfl, stay_yes HD.out (pr_a h1), hfx.out.drewN _⟩
                  case measure => simp [intOf]
            · go_wp2
              go_round
              case rel => exact ⟨3, _, by omega, rfl, rfl, HD.out, hfx⟩
              case measure => simp [intOf]
      · cases b
        · obtain ⟨a0, a1, a2, a3, a4, a5, a6, a7, a8, a9, a10, a11⟩ := Blk.c12 HA2.out
          go_wp2_with (first | (go_at_call 29; refine (May_calls ⟨ti, tk, tn⟩ _ (show tn.size ≤ 1000000 by omega)).mono ?_; rintro e w2 ⟨rfl, k2⟩))
          have hfi := Lib.hid hfr.out
          go_loopw [3, 5] (fun v i wx => ∃ (j : Int) (d : Bool), (j = 0 ∨ j = 1 ∨ j = 2 ∨ j = 3) ∧ i = .int .i64 j ∧ v = .bool d ∧ Hid (d = inn3 ⟨pi, pk, pn⟩ ⟨qi, qk, qn⟩ ⟨ri, rk, rn⟩ ⟨ti, tk, tn⟩ j) ∧ Hid (Fresh w1 wx)) (fun _ i _ => 4 - (intOf i).toNat)
          case atStart => exact ⟨0, _, by omega, rfl, rfl, stay_no HB.out, hfi⟩
          case round =>
            obtain ⟨j, d, hj, rfl, rfl, HD, hfx⟩ := hrel
            obtain ⟨c0, c1, c2, c3, c4, c5, c6, c7, c8, c9, c10, c11⟩ := Blk.c12 (HA1.out.fresh hfx.out)
            obtain rfl | rfl | rfl | rfl := hj
            · cases d
              · go_wp2
                go_quiet (fail)
                go_wp2
                go_round
                case rel => exact ⟨1, _, by omega, rfl, rfl, stay_no HD.out, hfx.out.drewN _⟩
                case measure => simp [intOf]
              · cases h1 : (ti == 0)
                · cases h2 : (pi == 0)
                  · go_wp2
                    go_quiet (fail)
                    go_wp2
                    go_round
                    case rel => exact ⟨1, _, by omega, rfl, rfl, stay_yes HD.out (pr_c h1 h2 rfl), hfx.out.drewN _⟩
                    case measure => simp [intOf]
                  · go_wp2
                    go_quiet (fail)
                    go_wp2
                    go_round
                    case rel => exact ⟨1, _, by omega, rfl, rfl, stay_yes HD.out (pr_b h1 h2), hfx.out.drewN _⟩
                    case measure => simp [intOf]
                · go_wp2
                  go_quiet (fail)
                  go_wp2
                  go_round
                  case rel => exact ⟨1, _, by omega, rfl, rfl, stay_yes HD.out (pr_a h1), hfx.out.drewN _⟩
                  case measure => simp [intOf]
            · cases d
              · go_wp2
                go_quiet (fail)
                go_wp2
                go_round
                case rel => exact ⟨2, _, by omega, rfl, rfl, stay_no HD.out, hfx.out.drewN _⟩
                case measure => simp [intOf]
              · cases h1 : (ti == 0)
                · cases h2 : (qi == 0)
                  · go_wp2
                    go_quiet (fail)
                    go_wp2
                    go_round
                    case rel => exact ⟨2, _, by omega, rfl, rfl, stay_yes HD.out (pr_c h1 h2 rfl), hfx.out.drewN _⟩
                    case measure => simp [intOf]
                  · go_wp2
                    go_quiet (fail)
                    go_wp2
                    go_round
                    case rel => exact ⟨2, _, by omega, rfl, rfl, stay_yes HD.out (pr_b h1 h2), hfx.out.drewN _⟩
                    case measure => simp [intOf]
                · go_wp2
                  go_quiet (fail)
                  go_wp2
                  go_round
                  case rel => exact ⟨2, _, by omega, rfl, rfl, stay_yes HD.out (pr_a h1), hfx.out.drewN _⟩
                  case measure => simp [intOf]
            · cases d
              · go_wp2
                go_quiet (fail)
                go_wp2
                go_round
                case rel => exact ⟨3, _, by omega, rfl, rfl, stay_no HD.out, hfx.out.drewN _⟩
                case measure => simp [intOf]
              · cases h1 : (ti == 0)
                · cases h2 : (ri == 0)
                  · go_wp2
                    go_quiet (fail)
                    go_wp2
                    go_round
                    case rel => exact ⟨3, _, by omega, rfl, rfl, stay_yes HD.out (pr_c h1 h2 rfl), hfx.out.drewN _⟩
                    case measure => simp [intOf]
                  · go_wp2
                    go_quiet (fail)
                    go_wp2
                    go_round
                    case rel => exact ⟨3, _, by omega, rfl, rfl, stay_yes HD.out (pr_b h1 h2), hfx.out.drewN _⟩
                    case measure => simp [intOf]
                · go_wp2
                  go_quiet (fail)
                  go_wp2
                  go_round
                  case rel => exact ⟨3, _, by omega, rfl, rfl, stay_yes HD.out (pr_a h1), hfx.out.drewN _⟩
                  case measure => simp [intOf]
            · go_wp2
              go_round
              case rel => exact ⟨4, _, by omega, rfl, rfl, HD.out, hfx⟩
              case measure => simp [intOf]
        · obtain ⟨a0, a1, a2, a3, a4, a5, a6, a7, a8, a9, a10, a11⟩ := Blk.c12 HA2.out
          go_wp2_with (first | (go_at_call 29; refine (May_calls ⟨ti, tk, tn⟩ _ (show tn.size ≤ 1000000 by omega)).mono ?_; rintro e w2 ⟨rfl, k2⟩))
          have hfi := Lib.hid (hfr.out.trans k2 (fun _ _ f => f))
          go_loopw [3, 5] (fun v i wx => ∃ (j : Int) (d : Bool), (j = 0 ∨ j = 1 ∨ j = 2 ∨ j = 3) ∧ i = .int .i64 j ∧ v = .bool d ∧ Hid (d = inn3 ⟨pi, pk, pn⟩ ⟨qi, qk, qn⟩ ⟨ri, rk, rn⟩ ⟨ti, tk, tn⟩ j) ∧ Hid (Fresh w1 wx)) (fun _ i _ => 4 - (intOf i).toNat)
          case atStart => exact ⟨0, _, by omega, rfl, rfl, stay_yes HB.out rfl, hfi⟩
          case round =>
            obtain ⟨j, d, hj, rfl, rfl, HD, hfx⟩ := hrel
            obtain ⟨c0, c1, c2, c3, c4, c5, c6, c7, c8, c9, c10, c11⟩ := Blk.c12 (HA1.out.fresh hfx.out)
            obtain rfl | rfl | rfl | rfl := hj
            · cases d
              · go_wp2
                go_quiet (fail)
                go_wp2
                go_round
                case rel => exact ⟨1, _, by omega, rfl, rfl, stay_no HD.out, hfx.out.drewN _⟩
                case measure => simp [intOf]
              · cases h1 : (ti == 0)
                · cases h2 : (pi == 0)
                  · go_wp2
                    go_quiet (fail)
                    go_wp2
                    go_round
                    case rel => exact ⟨1, _, by omega, rfl, rfl, stay_yes HD.out (pr_c h1 h2 rfl), hfx.out.drewN _⟩
                    case measure => simp [intOf]
                  · go_wp2
                    go_quiet (fail)
                    go_wp2
                    go_round
                    case rel => exact ⟨1, _, by omega, rfl, rfl, stay_yes HD.out (pr_b h1 h2), hfx.out.drewN _⟩
                    case measure => simp [intOf]
                · go_wp2
                  go_quiet (fail)
                  go_wp2
                  go_round
                  case rel => exact ⟨1, _, by omega, rfl, rfl, stay_yes HD.out (pr_a h1), hfx.out.drewN _⟩
                  case measure => simp [intOf]
            · cases d
              · go_wp2
                go_quiet (fail)
                go_wp2
                go_round
                case rel => exact ⟨2, _, by omega, rfl, rfl, stay_no HD.out, hfx.out.drewN _⟩
                case measure => simp [intOf]
              · cases h1 : (ti == 0)
                · cases h2 : (qi == 0)
                  · go_wp2
                    go_quiet (fail)
                    go_wp2
                    go_round
                    case rel => exact ⟨2, _, by omega, rfl, rfl, stay_yes HD.out (pr_c h1 h2 rfl), hfx.out.drewN _⟩
                    case measure => simp [intOf]
                  · go_wp2
                    go_quiet (fail)
                    go_wp2
                    go_round
                    case rel => exact ⟨2, _, by omega, rfl, rfl, stay_yes HD.out (pr_b h1 h2), hfx.out.drewN _⟩
                    case measure => simp [intOf]
                · go_wp2
                  go_quiet (fail)
                  go_wp2
                  go_round
                  case rel => exact ⟨2, _, by omega, rfl, rfl, stay_yes HD.out (pr_a h1), hfx.out.drewN _⟩
                  case measure => simp [intOf]
            · cases d
              · go_wp2
                go_quiet (fail)
                go_wp2
                go_round
                case rel => exact ⟨3, _, by omega, rfl, rfl, stay_no HD.out, hfx.out.drewN _⟩
                case measure => simp [intOf]
              · cases h1 : (ti == 0)
                · cases h2 : (ri == 0)
                  · go_wp2
                    go_quiet (fail)
                    go_wp2
                    go_round
                    case rel => exact ⟨3, _, by omega, rfl, rfl, stay_yes HD.out (pr_c h1 h2 rfl), hfx.out.drewN _⟩
                    case measure => simp [intOf]
                  · go_wp2
                    go_quiet (fail)
                    go_wp2
                    go_round
                    case rel => exact ⟨3, _, by omega, rfl, rfl, stay_yes HD.out (pr_b h1 h2), hfx.out.drewN _⟩
                    case measure => simp [intOf]
                · go_wp2
                  go_quiet (fail)
                  go_wp2
                  go_round
                  case rel => exact ⟨3, _, by omega, rfl, rfl, stay_yes HD.out (pr_a h1), hfx.out.drewN _⟩
                  case measure => simp [intOf]
            · go_wp2
              go_round
              case rel => exact ⟨4, _, by omega, rfl, rfl, HD.out, hfx⟩
              case measure => simp [intOf]
      · cases b
        · have hno : layOkB ⟨pi, pk, pn⟩ ⟨qi, qk, qn⟩ ⟨ri, rk, rn⟩ ⟨ti, tk, tn⟩ = false := HLAW.out ▸ HB.out.symm
          have HNO := Lib.hid hno; clear hno
          go_wp2_with (first
            | (refine wpList_load_blk HA2.out rfl 40 (.tmp 1) rfl rfl arr_und rfl arr_size ?_)
            | (go_at_call 23; refine (Lay_calls ⟨pi, pk, pn⟩ ⟨qi, qk, qn⟩ ⟨ri, rk, rn⟩ ⟨ti, tk, tn⟩ _ (show pn.size ≤ 1000000 by omega) (show qn.size ≤ 1000000 by omega) (show rn.size ≤ 1000000 by omega) (show tn.size ≤ 1000000 by omega)).mono ?_; rintro e w3 (⟨-, rfl, k3⟩ | ⟨hyes, -⟩); rotate_left; (exact absurd hyes (by rw [HNO.out]; decide)))
            | (go_at_call 22; refine (awake9_calls _).mono ?_; rintro e wz ⟨rfl, kz⟩))
          go_ret
          exact ⟨rfl, ((HF1.out.trans hfr.out (fun _ _ f => f)).trans k3 (fun _ _ f => f)).trans kz (fun _ _ f => f)⟩
        · have hyes : layOkB ⟨pi, pk, pn⟩ ⟨qi, qk, qn⟩ ⟨ri, rk, rn⟩ ⟨ti, tk, tn⟩ = true := HLAW.out ▸ HB.out.symm
          have HY := Lib.hid hyes; clear hyes
          go_wp2_with (first
            | (refine wpList_load_blk HA2.out rfl 40 (.tmp 1) rfl rfl arr_und rfl arr_size ?_)
            | (go_at_call 23; refine (Lay_yes ⟨pi, pk, pn⟩ ⟨qi, qk, qn⟩ ⟨ri, rk, rn⟩ ⟨ti, tk, tn⟩ _ HY.out).mono ?_; rintro e w3 ⟨v3, rfl, h3⟩; obtain ⟨A3, c3, hv3, hc3, hr3⟩ := h3.1.rd; subst hv3; have HA3 := Lib.hid (HA2.out.fresh h3.2.1); have HF3 := Lib.hid ((HF1.out.trans hfr.out (fun _ _ f => f)).trans h3.2.1 (fun _ _ f => f)))
            | (go_at_call 25; refine (Read_back _ HY.out hr3 hc3).mono ?_; rintro e w4 ⟨rfl, k4⟩; dsimp only [sltsV]; have HA4 := Lib.hid ((HA3.out.fresh k4).alloc (.cells #[.int .i64 pi, .int .i64 pk, .string pn, .int .i64 qi, .int .i64 qk, .string qn, .int .i64 ri, .int .i64 rk, .string rn, .int .i64 ti, .int .i64 tk, .string tn] 40)); have HC4 := Lib.hid (Blk.new w4 40 #[.int .i64 pi, .int .i64 pk, .string pn, .int .i64 qi, .int .i64 qk, .string qn, .int .i64 ri, .int .i64 rk, .string rn, .int .i64 ti, .int .i64 tk, .string tn]); have HF4 := Lib.hid ((HF3.out.trans k4 (fun _ _ f => f)).alloc (.cells #[.int .i64 pi, .int .i64 pk, .string pn, .int .i64 qi, .int .i64 qk, .string qn, .int .i64 ri, .int .i64 rk, .string rn, .int .i64 ti, .int .i64 tk, .string tn] 40))))
          go_loopw [10] (fun i wx => ∃ (k : Int), (k = 0 ∨ k = 1 ∨ k = 2 ∨ k = 3 ∨ k = 4) ∧ i = .int .i64 k ∧ Hid (Fresh (w4.alloc (.cells #[.int .i64 pi, .int .i64 pk, .string pn, .int .i64 qi, .int .i64 qk, .string qn, .int .i64 ri, .int .i64 rk, .string rn, .int .i64 ti, .int .i64 tk, .string tn] 40)) wx)) (fun i _ => 4 - (intOf i).toNat)
          case atStart => exact ⟨0, by omega, rfl, Keep.refl _ _⟩
          case round =>
            obtain ⟨k, hk, rfl, hfx⟩ := hrel
            have HA5 := Lib.hid (HA4.out.fresh hfx.out)
            have HC5 := Lib.hid (HC4.out.fresh hfx.out)
            obtain ⟨c0, c1, c2, c3', c4, c5, c6, c7, c8, c9, c10, c11⟩ := Blk.c12 HA5.out
            obtain rfl | rfl | rfl | rfl | rfl := hk
            · cases hz : (pi != 0)
              · go_wp2
                go_quiet (fail)
                go_wp2
                go_round
                case rel => exact ⟨1, by omega, rfl, hfx.out.drewN _⟩
                case measure => simp [intOf]
              · have hf : findI pn ⟨pi, pk, pn⟩ ⟨qi, qk, qn⟩ ⟨ri, rk, rn⟩ ⟨ti, tk, tn⟩ = 0 := ok_find (x := ⟨pi, pk, pn⟩) (by have h := HY.out; unfold layOkB at h; simp only [Bool.and_eq_true] at h; exact h.1.1.1) hz
                have HFI := Lib.hid hf; clear hf
                go_wp2
                have HA6 := Lib.hid HA5.out.drew
                go_region_held3 (fun w' => w'.cell? ⟨w.heap.size, 0, none⟩ = some (.int .i64 pi) ∧ w'.cell? ⟨w.heap.size, 1, none⟩ = some (.int .i64 pk) ∧ w'.cell? ⟨w.heap.size, 2, none⟩ = some (.string pn) ∧ w'.cell? ⟨w.heap.size, 3, none⟩ = some (.int .i64 qi) ∧ w'.cell? ⟨w.heap.size, 4, none⟩ = some (.int .i64 qk) ∧ w'.cell? ⟨w.heap.size, 5, none⟩ = some (.string qn) ∧ w'.cell? ⟨w.heap.size, 6, none⟩ = some (.int .i64 ri) ∧ w'.cell? ⟨w.heap.size, 7, none⟩ = some (.int .i64 rk) ∧ w'.cell? ⟨w.heap.size, 8, none⟩ = some (.string rn) ∧ w'.cell? ⟨w.heap.size, 9, none⟩ = some (.int .i64 ti) ∧ w'.cell? ⟨w.heap.size, 10, none⟩ = some (.int .i64 tk) ∧ w'.cell? ⟨w.heap.size, 11, none⟩ = some (.string tn)) (first | (exact Blk.c12 HA6.out) | (exact Blk.c12 (HA6.out.fresh k7))) (first | (go_at_call 31; refine (Find_calls ⟨pi, pk, pn⟩ ⟨qi, qk, qn⟩ ⟨ri, rk, rn⟩ ⟨ti, tk, tn⟩ pn _).mono ?_; rintro e w7 ⟨rfl, k7⟩; rw [HFI.out]))
                go_wp2
                go_round
                case rel => exact ⟨1, by omega, rfl, hfx.out.drew.trans k7 (fun _ _ f => f)⟩
                case measure => simp [intOf]
            · cases hz : (qi != 0)
              · go_wp2
                go_quiet (fail)
                go_wp2
                go_round
                case rel => exact ⟨2, by omega, rfl, hfx.out.drewN _⟩
                case measure => simp [intOf]
              · have hf : findI qn ⟨pi, pk, pn⟩ ⟨qi, qk, qn⟩ ⟨ri, rk, rn⟩ ⟨ti, tk, tn⟩ = 1 := ok_find (x := ⟨qi, qk, qn⟩) (by have h := HY.out; unfold layOkB at h; simp only [Bool.and_eq_true] at h; exact h.1.1.2) hz
                have HFI := Lib.hid hf; clear hf
                go_wp2
                have HA6 := Lib.hid HA5.out.drew
                go_region_held3 (fun w' => w'.cell? ⟨w.heap.size, 0, none⟩ = some (.int .i64 pi) ∧ w'.cell? ⟨w.heap.size, 1, none⟩ = some (.int .i64 pk) ∧ w'.cell? ⟨w.heap.size, 2, none⟩ = some (.string pn) ∧ w'.cell? ⟨w.heap.size, 3, none⟩ = some (.int .i64 qi) ∧ w'.cell? ⟨w.heap.size, 4, none⟩ = some (.int .i64 qk) ∧ w'.cell? ⟨w.heap.size, 5, none⟩ = some (.string qn) ∧ w'.cell? ⟨w.heap.size, 6, none⟩ = some (.int .i64 ri) ∧ w'.cell? ⟨w.heap.size, 7, none⟩ = some (.int .i64 rk) ∧ w'.cell? ⟨w.heap.size, 8, none⟩ = some (.string rn) ∧ w'.cell? ⟨w.heap.size, 9, none⟩ = some (.int .i64 ti) ∧ w'.cell? ⟨w.heap.size, 10, none⟩ = some (.int .i64 tk) ∧ w'.cell? ⟨w.heap.size, 11, none⟩ = some (.string tn)) (first | (exact Blk.c12 HA6.out) | (exact Blk.c12 (HA6.out.fresh k7))) (first | (go_at_call 31; refine (Find_calls ⟨pi, pk, pn⟩ ⟨qi, qk, qn⟩ ⟨ri, rk, rn⟩ ⟨ti, tk, tn⟩ qn _).mono ?_; rintro e w7 ⟨rfl, k7⟩; rw [HFI.out]))
                go_wp2
                go_round
                case rel => exact ⟨2, by omega, rfl, hfx.out.drew.trans k7 (fun _ _ f => f)⟩
                case measure => simp [intOf]
            · cases hz : (ri != 0)
              · go_wp2
                go_quiet (fail)
                go_wp2
                go_round
                case rel => exact ⟨3, by omega, rfl, hfx.out.drewN _⟩
                case measure => simp [intOf]
              · have hf : findI rn ⟨pi, pk, pn⟩ ⟨qi, qk, qn⟩ ⟨ri, rk, rn⟩ ⟨ti, tk, tn⟩ = 2 := ok_find (x := ⟨ri, rk, rn⟩) (by have h := HY.out; unfold layOkB at h; simp only [Bool.and_eq_true] at h; exact h.1.2) hz
                have HFI := Lib.hid hf; clear hf
                go_wp2
                have HA6 := Lib.hid HA5.out.drew
                go_region_held3 (fun w' => w'.cell? ⟨w.heap.size, 0, none⟩ = some (.int .i64 pi) ∧ w'.cell? ⟨w.heap.size, 1, none⟩ = some (.int .i64 pk) ∧ w'.cell? ⟨w.heap.size, 2, none⟩ = some (.string pn) ∧ w'.cell? ⟨w.heap.size, 3, none⟩ = some (.int .i64 qi) ∧ w'.cell? ⟨w.heap.size, 4, none⟩ = some (.int .i64 qk) ∧ w'.cell? ⟨w.heap.size, 5, none⟩ = some (.string qn) ∧ w'.cell? ⟨w.heap.size, 6, none⟩ = some (.int .i64 ri) ∧ w'.cell? ⟨w.heap.size, 7, none⟩ = some (.int .i64 rk) ∧ w'.cell? ⟨w.heap.size, 8, none⟩ = some (.string rn) ∧ w'.cell? ⟨w.heap.size, 9, none⟩ = some (.int .i64 ti) ∧ w'.cell? ⟨w.heap.size, 10, none⟩ = some (.int .i64 tk) ∧ w'.cell? ⟨w.heap.size, 11, none⟩ = some (.string tn)) (first | (exact Blk.c12 HA6.out) | (exact Blk.c12 (HA6.out.fresh k7))) (first | (go_at_call 31; refine (Find_calls ⟨pi, pk, pn⟩ ⟨qi, qk, qn⟩ ⟨ri, rk, rn⟩ ⟨ti, tk, tn⟩ rn _).mono ?_; rintro e w7 ⟨rfl, k7⟩; rw [HFI.out]))
                go_wp2
                go_round
                case rel => exact ⟨3, by omega, rfl, hfx.out.drew.trans k7 (fun _ _ f => f)⟩
                case measure => simp [intOf]
            · cases hz : (ti != 0)
              · go_wp2
                go_quiet (fail)
                go_wp2
                go_round
                case rel => exact ⟨4, by omega, rfl, hfx.out.drewN _⟩
                case measure => simp [intOf]
              · have hf : findI tn ⟨pi, pk, pn⟩ ⟨qi, qk, qn⟩ ⟨ri, rk, rn⟩ ⟨ti, tk, tn⟩ = 3 := ok_find (x := ⟨ti, tk, tn⟩) (by have h := HY.out; unfold layOkB at h; simp only [Bool.and_eq_true] at h; exact h.2) hz
                have HFI := Lib.hid hf; clear hf
                go_wp2
                have HA6 := Lib.hid HA5.out.drew
                go_region_held3 (fun w' => w'.cell? ⟨w.heap.size, 0, none⟩ = some (.int .i64 pi) ∧ w'.cell? ⟨w.heap.size, 1, none⟩ = some (.int .i64 pk) ∧ w'.cell? ⟨w.heap.size, 2, none⟩ = some (.string pn) ∧ w'.cell? ⟨w.heap.size, 3, none⟩ = some (.int .i64 qi) ∧ w'.cell? ⟨w.heap.size, 4, none⟩ = some (.int .i64 qk) ∧ w'.cell? ⟨w.heap.size, 5, none⟩ = some (.string qn) ∧ w'.cell? ⟨w.heap.size, 6, none⟩ = some (.int .i64 ri) ∧ w'.cell? ⟨w.heap.size, 7, none⟩ = some (.int .i64 rk) ∧ w'.cell? ⟨w.heap.size, 8, none⟩ = some (.string rn) ∧ w'.cell? ⟨w.heap.size, 9, none⟩ = some (.int .i64 ti) ∧ w'.cell? ⟨w.heap.size, 10, none⟩ = some (.int .i64 tk) ∧ w'.cell? ⟨w.heap.size, 11, none⟩ = some (.string tn)) (first | (exact Blk.c12 HA6.out) | (exact Blk.c12 (HA6.out.fresh k7))) (first | (go_at_call 31; refine (Find_calls ⟨pi, pk, pn⟩ ⟨qi, qk, qn⟩ ⟨ri, rk, rn⟩ ⟨ti, tk, tn⟩ tn _).mono ?_; rintro e w7 ⟨rfl, k7⟩; rw [HFI.out]))
                go_wp2
                go_round
                case rel => exact ⟨4, by omega, rfl, hfx.out.drew.trans k7 (fun _ _ f => f)⟩
                case measure => simp [intOf]
            · obtain ⟨d0, d1, d2, d3, d4, d5, d6, d7, d8, d9, d10, d11⟩ := Blk.c12 HC5.out
              go_wp2_with (first | (go_at_call 22; refine (awake9_calls _).mono ?_; rintro e wz ⟨rfl, kz⟩))
              go_ret
              exact ⟨rfl, (HF4.out.trans hfx.out (fun _ _ f => f)).trans kz (fun _ _ f => f)⟩
  · have HG := Lib.hid hg; clear hg
    unfold sltsV
    dsimp only
    go_enter Try.func6, Try.ntmps6
    go_wp2_with (first | (go_at_call 21; refine (great_calls ⟨pi, pk, pn⟩ ⟨qi, qk, qn⟩ ⟨ri, rk, rn⟩ ⟨ti, tk, tn⟩ _).mono ?_; rintro e w1 ⟨rfl, k1⟩; rw [HG.out]) | (go_at_call 22; refine (awake9_calls _).mono ?_; rintro e wz ⟨rfl, kz⟩))
    go_ret
    exact ⟨rfl, (((Keep.refl (fun _ => False) w).alloc _).trans k1 (fun _ _ f => f)).trans kz (fun _ _ f => f)⟩
end Go.Proofs.Ytcjackjoonijnaa
