/-
  DirTells, walked.
-/
import Derived.Deep.RegionHeld3
import Derived.Test.YtcjackjoonijnaaDir9
import Derived.Test.YtcjackjoonijnaaAwake9
namespace Go.Proofs.Ytcjackjoonijnaa
open Go.RowKit

theorem layN_le (a b c d : Slt) : layN a b c d ≤ 128 := by
  unfold layN
  split <;> omega
theorem arr_self (a b c d : Slt) (w : World) : (Op.equalIn 10000 40 (sltsV a b c d) (sltsV a b c d)).run Try.prog w = .ok true w := by
  have h := eq_arr a b c d a b c d w
  rw [eqS_self, eqS_self, eqS_self, eqS_self] at h
  exact h

set_option maxRecDepth 100000 in
set_option maxHeartbeats 8000000 in
theorem DirTells_calls (w : World) (p q r t : Slt) {A : Option Addr} {n c : Nat} {l : List Int} (hr : Rd w 1 A n (iv .u8 l)) (hb8 : Bytes8 l) (hc : n ≤ c) (s : ByteArray) :
    Calls Try.prog 5 #[sltsV p q r t, .slice A n c, .string s] w fun e w' => e = .returned (.bool true) ∧ Fresh w w' := by
  by_cases h200 : n ≤ 200
  · by_cases h100 : s.size ≤ 100
    · cases hg : greatB p q r t
      · obtain ⟨s1, s2, s3, s4⟩ := great_size hg
        have hn2 : ¬ (200 : Int) < n := by omega
        have hn1 : ¬ (100 : Int) < s.size := by omega
        have hi2 : (n : Int) ≤ 200 := by omega
        have hi1 : (s.size : Int) ≤ 100 := by omega
        obtain ⟨L, hL⟩ : ∃ L, layL p q r t = L := ⟨_, rfl⟩
        obtain ⟨N, hN⟩ : ∃ N, layN p q r t = N := ⟨_, rfl⟩
        obtain ⟨le, hle⟩ : ∃ z, layE p q r t = z := ⟨_, rfl⟩
        obtain ⟨er, her⟩ : ∃ z, rdE l = z := ⟨_, rfl⟩
        have hN128 : N ≤ 128 := hN ▸ layN_le p q r t
        obtain ⟨x0, hx0⟩ : ∃ z, rdS l 0 = z := ⟨_, rfl⟩
        obtain ⟨x1, hx1⟩ : ∃ z, rdS l 1 = z := ⟨_, rfl⟩
        obtain ⟨x2, hx2⟩ : ∃ z, rdS l 2 = z := ⟨_, rfl⟩
        obtain ⟨x3, hx3⟩ : ∃ z, rdS l 3 = z := ⟨_, rfl⟩
        obtain ⟨x0i, x0k, x0n⟩ := x0
        obtain ⟨x1i, x1k, x1n⟩ := x1
        obtain ⟨x2i, x2k, x2n⟩ := x2
        obtain ⟨x3i, x3k, x3n⟩ := x3
        have hEQ : ∀ w, (Op.equalIn 10000 40 (.agg #[.int .i64 x0i, .int .i64 x0k, .string x0n, .int .i64 x1i, .int .i64 x1k, .string x1n, .int .i64 x2i, .int .i64 x2k, .string x2n, .int .i64 x3i, .int .i64 x3k, .string x3n]) (.agg #[.int .i64 x0i, .int .i64 x0k, .string x0n, .int .i64 x1i, .int .i64 x1k, .string x1n, .int .i64 x2i, .int .i64 x2k, .string x2n, .int .i64 x3i, .int .i64 x3k, .string x3n])).run Try.prog w = .ok true w := arr_self ⟨x0i, x0k, x0n⟩ ⟨x1i, x1k, x1n⟩ ⟨x2i, x2k, x2n⟩ ⟨x3i, x3k, x3n⟩
        have lay1 : ∀ w, Calls Try.prog 23 #[sltsV p q r t] w fun e w' => ∃ v, e = .returned (.tuple #[v, .int .i64 le]) ∧ NewB w w' 5 .u8 v N L := fun w => (Lay_calls p q r t w (by omega) (by omega) (by omega) (by omega)).mono fun e w' h => by
          have := layP_of h
          unfold LayP at this
          rwa [hL, hN, hle] at this
        have lay2 : ∀ w, Calls Try.prog 24 #[sltsV p q r t] w fun e w' => ∃ v, e = .returned (.tuple #[v, .int .i64 le]) ∧ NewB w w' 5 .u8 v N L := fun w => (RLay_calls p q r t w).mono fun e w' h => by
          have := layP_of h
          unfold LayP at this
          rwa [hL, hN, hle] at this
        have rd1 : ∀ (w : World) (A' : Option Addr) (c' : Nat), Rd w 1 A' n (iv .u8 l) → n ≤ c' → Calls Try.prog 25 #[.slice A' n c'] w fun e w' => e = .returned (.tuple #[.agg #[.int .i64 x0i, .int .i64 x0k, .string x0n, .int .i64 x1i, .int .i64 x1k, .string x1n, .int .i64 x2i, .int .i64 x2k, .string x2n, .int .i64 x3i, .int .i64 x3k, .string x3n], .int .i64 er]) ∧ Fresh w w' := fun w A' c' h h' => (Read_calls w h hb8 h').mono fun e w' h => by
          have := readP_of h
          unfold ReadP at this
          rwa [hx0, hx1, hx2, hx3, her] at this
        have rd2 : ∀ (w : World) (A' : Option Addr) (c' : Nat), Rd w 1 A' n (iv .u8 l) → n ≤ c' → Calls Try.prog 26 #[.slice A' n c'] w fun e w' => e = .returned (.tuple #[.agg #[.int .i64 x0i, .int .i64 x0k, .string x0n, .int .i64 x1i, .int .i64 x1k, .string x1n, .int .i64 x2i, .int .i64 x2k, .string x2n, .int .i64 x3i, .int .i64 x3k, .string x3n], .int .i64 er]) ∧ Fresh w w' := fun w A' c' h h' => (RRead_calls w h hb8 h').mono fun e w' h => by
          have := readP_of h
          unfold ReadP at this
          rwa [hx0, hx1, hx2, hx3, her] at this
        have HG := Lib.hid hg
        clear hL hN hle her hx0 hx1 hx2 hx3 hg
        have L1 := Lib.hid lay1
        have L2 := Lib.hid lay2
        have R1 := Lib.hid rd1
        have R2 := Lib.hid rd2
        clear lay1 lay2 rd1 rd2
        obtain ⟨pi, pk, pn⟩ := p
        obtain ⟨qi, qk, qn⟩ := q
        obtain ⟨ri, rk, rn⟩ := r
        obtain ⟨ti, tk, tn⟩ := t
        unfold sltsV at L1 L2 ⊢
        dsimp only at L1 L2 s1 s2 s3 s4 ⊢
        have HA := Lib.hid (Blk.new w 40 #[.int .i64 pi, .int .i64 pk, .string pn, .int .i64 qi, .int .i64 qk, .string qn, .int .i64 ri, .int .i64 rk, .string rn, .int .i64 ti, .int .i64 tk, .string tn])
        have HF := Lib.hid ((Keep.refl (fun _ => False) w).alloc (.cells #[.int .i64 pi, .int .i64 pk, .string pn, .int .i64 qi, .int .i64 qk, .string qn, .int .i64 ri, .int .i64 rk, .string rn, .int .i64 ti, .int .i64 tk, .string tn] 40))
        go_enter Try.func5, Try.ntmps5
        go_wp2_with (first
          | (go_at_call 21; refine (great_calls ⟨pi, pk, pn⟩ ⟨qi, qk, qn⟩ ⟨ri, rk, rn⟩ ⟨ti, tk, tn⟩ _).mono ?_; rintro e w1 ⟨rfl, k1⟩; rw [HG.out]; have HA := Lib.hid (HA.out.fresh k1); have HF := Lib.hid (HF.out.trans k1 (fun _ _ f => f)))
          | (go_at_call 10; refine (LendBytes_calls _ (hr.fresh HF.out) (by omega)).mono ?_; rintro e w2 ⟨g, rfl, hg0, hlent, k2⟩; have HA := Lib.hid (HA.out.fresh k2); have hg1 := Nat.le_trans HF.out.size hg0; have HF := Lib.hid (HF.out.trans k2 (fun _ _ f => f)); have hg2 : g < w2.heap.size := own_lt hlent.1 rfl; have HE := Lib.hid hlent; clear hlent)
          | (refine wpList_load_blk HA.out rfl 40 (.tmp 3) rfl rfl arr_und rfl arr_size ?_)
          | (go_at_call 23; refine (L1.out _).mono ?_; rintro e w3 ⟨v3, rfl, h3⟩; obtain ⟨A3, c3, rfl⟩ := h3.1.shape; have HX := Lib.hid h3.1; have HX0 := Lib.hid h3.2.2; have HA := Lib.hid (HA.out.fresh h3.2.1); have HE := Lib.hid (HE.out.fresh h3.2.1); have HF2 := HF; have HF := Lib.hid (HF.out.trans h3.2.1 (fun _ _ f => f)); clear h3)
          | (go_at_call 24; refine (L2.out _).mono ?_; rintro e w4 ⟨v4, rfl, h4⟩; obtain ⟨A4, c4, rfl⟩ := h4.1.shape; have HY := Lib.hid h4.1; have HX := Lib.hid (own_keep HX.out h4.2.1 (fun _ _ f => f)); have HA := Lib.hid (HA.out.fresh h4.2.1); have HE := Lib.hid (HE.out.fresh h4.2.1); have HF := Lib.hid (HF.out.trans h4.2.1 (fun _ _ f => f)); clear h4)
          | (go_at_call 25; refine (R1.out _ _ _ HE.out.rd (by omega)).mono ?_; rintro e w5 ⟨rfl, k5⟩; have k5' := k5.alloc (.cells #[.int .i64 x0i, .int .i64 x0k, .string x0n, .int .i64 x1i, .int .i64 x1k, .string x1n, .int .i64 x2i, .int .i64 x2k, .string x2n, .int .i64 x3i, .int .i64 x3k, .string x3n] 40); have HC := Lib.hid (Blk.new w5 40 #[.int .i64 x0i, .int .i64 x0k, .string x0n, .int .i64 x1i, .int .i64 x1k, .string x1n, .int .i64 x2i, .int .i64 x2k, .string x2n, .int .i64 x3i, .int .i64 x3k, .string x3n]); have HY := Lib.hid (own_keep HY.out k5' (fun _ _ f => f)); have HX := Lib.hid (own_keep HX.out k5' (fun _ _ f => f)); have HA := Lib.hid (HA.out.fresh k5'); have HE := Lib.hid (HE.out.fresh k5'); have HF := Lib.hid (HF.out.trans k5' (fun _ _ f => f)); clear k5')
          | (go_at_call 26; refine (R2.out _ _ _ (hr.fresh HF.out) hc).mono ?_; rintro e w6 ⟨rfl, k6⟩; have k6' := k6.alloc (.cells #[.int .i64 x0i, .int .i64 x0k, .string x0n, .int .i64 x1i, .int .i64 x1k, .string x1n, .int .i64 x2i, .int .i64 x2k, .string x2n, .int .i64 x3i, .int .i64 x3k, .string x3n] 40); have HD := Lib.hid (Blk.new w6 40 #[.int .i64 x0i, .int .i64 x0k, .string x0n, .int .i64 x1i, .int .i64 x1k, .string x1n, .int .i64 x2i, .int .i64 x2k, .string x2n, .int .i64 x3i, .int .i64 x3k, .string x3n]); have HC := Lib.hid (HC.out.fresh k6'); have HY := Lib.hid (own_keep HY.out k6' (fun _ _ f => f)); have HX := Lib.hid (own_keep HX.out k6' (fun _ _ f => f)); have HA := Lib.hid (HA.out.fresh k6'); have HE := Lib.hid (HE.out.fresh k6'); have HF := Lib.hid (HF.out.trans k6' (fun _ _ f => f)); clear k6'))
        have k8 := (Keep.refl (fun _ => False) (w6.alloc (.cells #[.int .i64 x0i, .int .i64 x0k, .string x0n, .int .i64 x1i, .int .i64 x1k, .string x1n, .int .i64 x2i, .int .i64 x2k, .string x2n, .int .i64 x3i, .int .i64 x3k, .string x3n] 40))).drew
        have HY := Lib.hid (own_keep HY.out k8 (fun _ _ f => f))
        have HA := Lib.hid (HA.out.fresh k8); have HC := Lib.hid (HC.out.fresh k8); have HD := Lib.hid (HD.out.fresh k8); have HX := Lib.hid (own_keep HX.out k8 (fun _ _ f => f)); have HE := Lib.hid (HE.out.fresh k8); have HF := Lib.hid (HF.out.trans k8 (fun _ _ f => f))
        clear k8
        go_region_held3 (fun w' => (w'.cell? ⟨w.heap.size, 0, none⟩ = some (.int .i64 pi) ∧ w'.cell? ⟨w.heap.size, 1, none⟩ = some (.int .i64 pk) ∧ w'.cell? ⟨w.heap.size, 2, none⟩ = some (.string pn) ∧ w'.cell? ⟨w.heap.size, 3, none⟩ = some (.int .i64 qi) ∧ w'.cell? ⟨w.heap.size, 4, none⟩ = some (.int .i64 qk) ∧ w'.cell? ⟨w.heap.size, 5, none⟩ = some (.string qn) ∧ w'.cell? ⟨w.heap.size, 6, none⟩ = some (.int .i64 ri) ∧ w'.cell? ⟨w.heap.size, 7, none⟩ = some (.int .i64 rk) ∧ w'.cell? ⟨w.heap.size, 8, none⟩ = some (.string rn) ∧ w'.cell? ⟨w.heap.size, 9, none⟩ = some (.int .i64 ti) ∧ w'.cell? ⟨w.heap.size, 10, none⟩ = some (.int .i64 tk) ∧ w'.cell? ⟨w.heap.size, 11, none⟩ = some (.string tn)) ∧ (w'.cell? ⟨w5.heap.size, 0, none⟩ = some (.int .i64 x0i) ∧ w'.cell? ⟨w5.heap.size, 1, none⟩ = some (.int .i64 x0k) ∧ w'.cell? ⟨w5.heap.size, 2, none⟩ = some (.string x0n) ∧ w'.cell? ⟨w5.heap.size, 3, none⟩ = some (.int .i64 x1i) ∧ w'.cell? ⟨w5.heap.size, 4, none⟩ = some (.int .i64 x1k) ∧ w'.cell? ⟨w5.heap.size, 5, none⟩ = some (.string x1n) ∧ w'.cell? ⟨w5.heap.size, 6, none⟩ = some (.int .i64 x2i) ∧ w'.cell? ⟨w5.heap.size, 7, none⟩ = some (.int .i64 x2k) ∧ w'.cell? ⟨w5.heap.size, 8, none⟩ = some (.string x2n) ∧ w'.cell? ⟨w5.heap.size, 9, none⟩ = some (.int .i64 x3i) ∧ w'.cell? ⟨w5.heap.size, 10, none⟩ = some (.int .i64 x3k) ∧ w'.cell? ⟨w5.heap.size, 11, none⟩ = some (.string x3n)) ∧ (w'.cell? ⟨w6.heap.size, 0, none⟩ = some (.int .i64 x0i) ∧ w'.cell? ⟨w6.heap.size, 1, none⟩ = some (.int .i64 x0k) ∧ w'.cell? ⟨w6.heap.size, 2, none⟩ = some (.string x0n) ∧ w'.cell? ⟨w6.heap.size, 3, none⟩ = some (.int .i64 x1i) ∧ w'.cell? ⟨w6.heap.size, 4, none⟩ = some (.int .i64 x1k) ∧ w'.cell? ⟨w6.heap.size, 5, none⟩ = some (.string x1n) ∧ w'.cell? ⟨w6.heap.size, 6, none⟩ = some (.int .i64 x2i) ∧ w'.cell? ⟨w6.heap.size, 7, none⟩ = some (.int .i64 x2k) ∧ w'.cell? ⟨w6.heap.size, 8, none⟩ = some (.string x2n) ∧ w'.cell? ⟨w6.heap.size, 9, none⟩ = some (.int .i64 x3i) ∧ w'.cell? ⟨w6.heap.size, 10, none⟩ = some (.int .i64 x3k) ∧ w'.cell? ⟨w6.heap.size, 11, none⟩ = some (.string x3n))) (exact ⟨Blk.c12 HA.out, Blk.c12 HC.out, Blk.c12 HD.out⟩) (first
          | (go_at_call 15; refine (SameBytes_calls _ (Rd.of_own HX.out) (Rd.of_own HY.out)).mono ?_; rintro e w9 ⟨rfl, D9⟩; rw [decide_eq_true rfl]; have HA := Lib.hid (HA.out.fresh D9.fresh); have HC := Lib.hid (HC.out.fresh D9.fresh); have HD := Lib.hid (HD.out.fresh D9.fresh); have HX := Lib.hid (own_keep HX.out D9.fresh (fun _ _ f => f)); have HE := Lib.hid (HE.out.fresh D9.fresh); have HF := Lib.hid (HF.out.trans D9.fresh (fun _ _ f => f)))
          | (go_at_call 27; refine (Name_calls s _ (by omega)).mono ?_; rintro e w10 ⟨rfl, k10⟩; have HA := Lib.hid (HA.out.fresh k10); have HC := Lib.hid (HC.out.fresh k10); have HD := Lib.hid (HD.out.fresh k10); have HX := Lib.hid (own_keep HX.out k10 (fun _ _ f => f)); have HE := Lib.hid (HE.out.fresh k10); have HF := Lib.hid (HF.out.trans k10 (fun _ _ f => f)))
          | (go_at_call 28; refine (RName_calls s _).mono ?_; rintro e w11 ⟨rfl, rfl⟩)
          | (go_at_call 29; refine (May_calls ⟨pi, pk, pn⟩ _ (show pn.size ≤ 1000000 by omega)).mono ?_; rintro e w12 ⟨rfl, k12⟩; have HA := Lib.hid (HA.out.fresh k12); have HC := Lib.hid (HC.out.fresh k12); have HD := Lib.hid (HD.out.fresh k12); have HX := Lib.hid (own_keep HX.out k12 (fun _ _ f => f)); have HE := Lib.hid (HE.out.fresh k12); have HF := Lib.hid (HF.out.trans k12 (fun _ _ f => f)))
          | (go_at_call 30; refine (RMay_calls ⟨pi, pk, pn⟩ _).mono ?_; rintro e w13 ⟨rfl, k13⟩; have HA := Lib.hid (HA.out.fresh k13); have HC := Lib.hid (HC.out.fresh k13); have HD := Lib.hid (HD.out.fresh k13); have HX := Lib.hid (own_keep HX.out k13 (fun _ _ f => f)); have HE := Lib.hid (HE.out.fresh k13); have HF := Lib.hid (HF.out.trans k13 (fun _ _ f => f)))
          | (go_at_call 31; refine (Find_calls ⟨pi, pk, pn⟩ ⟨qi, qk, qn⟩ ⟨ri, rk, rn⟩ ⟨ti, tk, tn⟩ s _).mono ?_; rintro e w14 ⟨rfl, k14⟩; have HA := Lib.hid (HA.out.fresh k14); have HC := Lib.hid (HC.out.fresh k14); have HD := Lib.hid (HD.out.fresh k14); have HX := Lib.hid (own_keep HX.out k14 (fun _ _ f => f)); have HE := Lib.hid (HE.out.fresh k14); have HF := Lib.hid (HF.out.trans k14 (fun _ _ f => f)))
          | (go_at_call 32; refine (RFind_calls ⟨pi, pk, pn⟩ ⟨qi, qk, qn⟩ ⟨ri, rk, rn⟩ ⟨ti, tk, tn⟩ s _).mono ?_; rintro e w15 ⟨rfl, k15⟩; have HA := Lib.hid (HA.out.fresh k15); have HC := Lib.hid (HC.out.fresh k15); have HD := Lib.hid (HD.out.fresh k15); have HX := Lib.hid (own_keep HX.out k15 (fun _ _ f => f)); have HE := Lib.hid (HE.out.fresh k15); have HF := Lib.hid (HF.out.trans k15 (fun _ _ f => f)))
          | (go_at_call 33; refine (Free_calls ⟨pi, pk, pn⟩ ⟨qi, qk, qn⟩ ⟨ri, rk, rn⟩ ⟨ti, tk, tn⟩ _).mono ?_; rintro e w16 ⟨rfl, k16⟩; have HA := Lib.hid (HA.out.fresh k16); have HC := Lib.hid (HC.out.fresh k16); have HD := Lib.hid (HD.out.fresh k16); have HX := Lib.hid (own_keep HX.out k16 (fun _ _ f => f)); have HE := Lib.hid (HE.out.fresh k16); have HF := Lib.hid (HF.out.trans k16 (fun _ _ f => f)))
          | (go_at_call 34; refine (RFree_calls ⟨pi, pk, pn⟩ ⟨qi, qk, qn⟩ ⟨ri, rk, rn⟩ ⟨ti, tk, tn⟩ _).mono ?_; rintro e w17 ⟨rfl, k17⟩; have HA := Lib.hid (HA.out.fresh k17); have HC := Lib.hid (HC.out.fresh k17); have HD := Lib.hid (HD.out.fresh k17); have HX := Lib.hid (own_keep HX.out k17 (fun _ _ f => f)); have HE := Lib.hid (HE.out.fresh k17); have HF := Lib.hid (HF.out.trans k17 (fun _ _ f => f))))
        go_wp2_with (first
          | (go_at_call 18; refine (OverBytes_calls _ HX.out (by omega)).mono ?_; rintro e w18 ⟨rfl, k18⟩; have HE := Lib.hid (HE.out.keep k18 (fun e => by have := HX0.out g e; omega)); have HF := Lib.hid (HF.out.trans k18 (fun b hb e => by have := HX0.out b e; have := HF2.out.size; omega)))
          | (go_at_call 19; refine (KeptBytes_calls _ HE.out (hr.fresh HF.out) (by omega)).mono ?_; rintro e w19 ⟨rfl, D19⟩; rw [decide_eq_true rfl]; have HF := Lib.hid (HF.out.trans D19.fresh (fun _ _ f => f)))
          | (go_at_call 22; refine (awake9_calls _).mono ?_; rintro e wz ⟨rfl, kz⟩))
        go_ret
        exact ⟨rfl, HF.out.trans kz (fun _ _ f => f)⟩
      · obtain ⟨pi, pk, pn⟩ := p
        obtain ⟨qi, qk, qn⟩ := q
        obtain ⟨ri, rk, rn⟩ := r
        obtain ⟨ti, tk, tn⟩ := t
        have HG := Lib.hid hg; clear hg
        have hn2 : ¬ (200 : Int) < n := by omega
        have hn1 : ¬ (100 : Int) < s.size := by omega
        have hi2 : (n : Int) ≤ 200 := by omega
        have hi1 : (s.size : Int) ≤ 100 := by omega
        unfold sltsV
        dsimp only
        go_enter Try.func5, Try.ntmps5
        go_wp2_with (first | (go_at_call 21; refine (great_calls ⟨pi, pk, pn⟩ ⟨qi, qk, qn⟩ ⟨ri, rk, rn⟩ ⟨ti, tk, tn⟩ _).mono ?_; rintro e w1 ⟨rfl, k1⟩; rw [HG.out]) | (go_at_call 22; refine (awake9_calls _).mono ?_; rintro e wz ⟨rfl, kz⟩))
        go_ret
        exact ⟨rfl, (((Keep.refl (fun _ => False) w).alloc _).trans k1 (fun _ _ f => f)).trans kz (fun _ _ f => f)⟩
    · have hn2 : ¬ (200 : Int) < n := by omega
      have hn1 : (100 : Int) < s.size := by omega
      have hi2 : (n : Int) ≤ 200 := by omega
      unfold sltsV
      go_enter Try.func5, Try.ntmps5
      go_wp2_with (first | (go_at_call 22; refine (awake9_calls _).mono ?_; rintro e wz ⟨rfl, kz⟩))
      go_ret
      exact ⟨rfl, ((Keep.refl (fun _ => False) w).alloc _).trans kz (fun _ _ f => f)⟩
  · have hn2 : (200 : Int) < n := by omega
    unfold sltsV
    go_enter Try.func5, Try.ntmps5
    go_wp2_with (first | (go_at_call 22; refine (awake9_calls _).mono ?_; rintro e wz ⟨rfl, kz⟩))
    go_ret
    exact ⟨rfl, ((Keep.refl (fun _ => False) w).alloc _).trans kz (fun _ _ f => f)⟩
end Go.Proofs.Ytcjackjoonijnaa
