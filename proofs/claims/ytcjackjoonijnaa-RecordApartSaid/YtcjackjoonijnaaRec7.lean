/-
  Records: read in the document's own text; walked.
-/
import Derived.Test.YtcjackjoonijnaaRec6
namespace Go.Proofs.Ytcjackjoonijnaa
open Go.RowKit

theorem RcRead_calls (w : World) {A : Option Addr} {n c : Nat} {l : List Int} (hr : Rd w 1 A n (iv .u8 l)) (hb8 : Bytes8 l) (hc : n ≤ c) : Calls Try.prog 13 #[.slice A n c] w (RcReadPost w l) := by
  by_cases he : kindL l = 82
  · exact RcRead_yes w hr hb8 hc he
  · exact (RcRead_no w hr hc he).mono fun e w' h => .inr ⟨fun g => he g.1, h.1, h.2⟩

set_option maxRecDepth 100000 in
set_option maxHeartbeats 4000000 in
theorem RcRRead_no (w : World) {A : Option Addr} {n c : Nat} {l : List Int} (hr : Rd w 1 A n (iv .u8 l)) (hb8 : Bytes8 l) (hc : n ≤ c) (he : kindL l ≠ 82) :
    Calls Try.prog 14 #[.slice A n c] w fun e w' => e = .returned (.tuple #[Rcd.zero.val, .int .i64 3]) ∧ Fresh w w' := by
  have HE := Lib.hid he; clear he
  have HB0 := Lib.hid (Blk.new w 23 zeroR)
  go_enter Try.func14, Try.ntmps14
  go_wp2_with (first | (go_at_call 43; refine (ROpen_no _ 82 (hr.alloc _) hc hb8 (by decide) HE.out).mono ?_; rintro e w2 ⟨rfl, k2⟩; have HB2 := Lib.hid (HB0.out.fresh k2)) | (refine wpList_store_blk HB2.out rfl 23 (.tmp 2) (.tmp 15) rfl 0 zeroR rfl rfl (by decide) rec_size (one_rec _ _ _ _ _ _ _) ?_; intro w3 hb3 k3))
  (try simp only [Exit.inBlock, Exit.then])
  have hb3 := hb3.out
  rw [show layC zeroR 0 zeroR.toList = zeroR from lay_rec zeroR rfl _ _ _ _ _ _ _] at hb3
  refine ret_cell hb3 rfl rfl rfl rfl rec_und rfl rec_size ⟨rfl, ?_⟩
  exact (((Keep.refl (fun _ => False) w).alloc _).trans k2 (fun _ _ f => f)).trans k3 (fun b hb e => by omega)

def RReadS (g2 : Nat) (y0 y1 y2 y3 y4 y5 y6 y7 y8 : Int) (w' : World) : Prop := w'.cell? ⟨g2, 0, none⟩ = some (.int .u8 y0) ∧ w'.cell? ⟨g2, 1, none⟩ = some (.int .u8 y1) ∧ w'.cell? ⟨g2, 2, none⟩ = some (.int .u8 y2) ∧ w'.cell? ⟨g2, 3, none⟩ = some (.int .u8 y3) ∧ w'.cell? ⟨g2, 4, none⟩ = some (.int .u8 y4) ∧ w'.cell? ⟨g2, 5, none⟩ = some (.int .u8 y5) ∧ w'.cell? ⟨g2, 6, none⟩ = some (.int .u8 y6) ∧ w'.cell? ⟨g2, 7, none⟩ = some (.int .u8 y7) ∧ w'.cell? ⟨g2, 8, none⟩ = some (.int .u8 y8)

theorem RReadS.keep {g2 : Nat} {y0 y1 y2 y3 y4 y5 y6 y7 y8 : Int} {S : Nat → Prop} {W W' : World} (h : RReadS g2 y0 y1 y2 y3 y4 y5 y6 y7 y8 W) (k : Keep S W W') (h2 : ¬ S g2) : RReadS g2 y0 y1 y2 y3 y4 y5 y6 y7 y8 W' :=
  ⟨k.cell_some h.1 h2, k.cell_some h.2.1 h2, k.cell_some h.2.2.1 h2, k.cell_some h.2.2.2.1 h2, k.cell_some h.2.2.2.2.1 h2, k.cell_some h.2.2.2.2.2.1 h2, k.cell_some h.2.2.2.2.2.2.1 h2, k.cell_some h.2.2.2.2.2.2.2.1 h2, k.cell_some h.2.2.2.2.2.2.2.2 h2⟩
set_option maxRecDepth 100000 in
set_option maxHeartbeats 8000000 in
theorem RcRRead_yes (w : World) {A : Option Addr} {n c : Nat} {l : List Int} (hr : Rd w 1 A n (iv .u8 l)) (hb8 : Bytes8 l) (hc : n ≤ c) (he : kindL l = 82) :
    Calls Try.prog 14 #[.slice A n c] w (RcReadPost w l) := by
  have hbb : ∀ j, 0 ≤ (bodyOf l).getD j 0 ∧ (bodyOf l).getD j 0 < 256 := fun j => getD_bytes (bodyOf_bytes hb8) j
  have HE := Lib.hid he; clear he
  have HB0 := Lib.hid (Blk.new w 23 zeroR)
  have HB8 := Lib.hid hb8; clear hb8
  have HBB := Lib.hid hbb; clear hbb
  obtain ⟨bd, hbd⟩ : ∃ bd, bodyOf l = bd := ⟨_, rfl⟩
  rw [hbd] at HBB
  obtain ⟨y0, hy0⟩ : ∃ y, bd.getD 0 0 = y := ⟨_, rfl⟩
  have b0 := HBB.out 0
  rw [hy0] at b0
  have HY0 := Lib.hid hy0; clear hy0
  have G0 := Lib.hid b0; clear b0
  obtain ⟨y1, hy1⟩ : ∃ y, bd.getD 1 0 = y := ⟨_, rfl⟩
  have b1 := HBB.out 1
  rw [hy1] at b1
  have HY1 := Lib.hid hy1; clear hy1
  have G1 := Lib.hid b1; clear b1
  obtain ⟨y2, hy2⟩ : ∃ y, bd.getD 2 0 = y := ⟨_, rfl⟩
  have b2 := HBB.out 2
  rw [hy2] at b2
  have HY2 := Lib.hid hy2; clear hy2
  have G2 := Lib.hid b2; clear b2
  obtain ⟨y3, hy3⟩ : ∃ y, bd.getD 3 0 = y := ⟨_, rfl⟩
  have b3 := HBB.out 3
  rw [hy3] at b3
  have HY3 := Lib.hid hy3; clear hy3
  have G3 := Lib.hid b3; clear b3
  obtain ⟨y4, hy4⟩ : ∃ y, bd.getD 4 0 = y := ⟨_, rfl⟩
  have b4 := HBB.out 4
  rw [hy4] at b4
  have HY4 := Lib.hid hy4; clear hy4
  have G4 := Lib.hid b4; clear b4
  obtain ⟨y5, hy5⟩ : ∃ y, bd.getD 5 0 = y := ⟨_, rfl⟩
  have b5 := HBB.out 5
  rw [hy5] at b5
  have HY5 := Lib.hid hy5; clear hy5
  have G5 := Lib.hid b5; clear b5
  obtain ⟨y6, hy6⟩ : ∃ y, bd.getD 6 0 = y := ⟨_, rfl⟩
  have b6 := HBB.out 6
  rw [hy6] at b6
  have HY6 := Lib.hid hy6; clear hy6
  have G6 := Lib.hid b6; clear b6
  obtain ⟨y7, hy7⟩ : ∃ y, bd.getD 7 0 = y := ⟨_, rfl⟩
  have b7 := HBB.out 7
  rw [hy7] at b7
  have HY7 := Lib.hid hy7; clear hy7
  have G7 := Lib.hid b7; clear b7
  obtain ⟨y8, hy8⟩ : ∃ y, bd.getD 8 0 = y := ⟨_, rfl⟩
  have b8 := HBB.out 8
  rw [hy8] at b8
  have HY8 := Lib.hid hy8; clear hy8
  have G8 := Lib.hid b8; clear b8
  obtain ⟨y9, hy9⟩ : ∃ y, bd.getD 9 0 = y := ⟨_, rfl⟩
  have b9 := HBB.out 9
  rw [hy9] at b9
  have HY9 := Lib.hid hy9; clear hy9
  have G9 := Lib.hid b9; clear b9
  obtain ⟨y34, hy34⟩ : ∃ y, bd.getD 34 0 = y := ⟨_, rfl⟩
  have b34 := HBB.out 34
  rw [hy34] at b34
  have HY34 := Lib.hid hy34; clear hy34
  have G34 := Lib.hid b34; clear b34
  obtain ⟨on, hon⟩ : ∃ b, (y0 == 1) = b := ⟨_, rfl⟩
  obtain ⟨fr, hfr⟩ : ∃ z, wordI y1 y2 = z := ⟨_, rfl⟩
  have Hfr := Lib.hid hfr; clear hfr
  obtain ⟨td, htd⟩ : ∃ z, wordI y3 y4 = z := ⟨_, rfl⟩
  have Htd := Lib.hid htd; clear htd
  obtain ⟨ino, hino⟩ : ∃ z, wordI y5 y6 = z := ⟨_, rfl⟩
  have Hino := Lib.hid hino; clear hino
  obtain ⟨old, hold⟩ : ∃ z, wordI y7 y8 = z := ⟨_, rfl⟩
  have Hold := Lib.hid hold; clear hold
  have nfn := take_size (bd.drop 10) y9.toNat
  obtain ⟨mfn, hmfn⟩ : ∃ m, m = min y9.toNat 24 := ⟨_, rfl⟩
  obtain ⟨fn, hfn⟩ : ∃ z, strOf ((bd.drop 10).take (min y9.toNat 24)) = z := ⟨_, rfl⟩
  rw [hfn] at nfn
  have Hfn := Lib.hid hfn; clear hfn
  have HMfn := Lib.hid hmfn; clear hmfn
  have ntn := take_size (bd.drop 35) y34.toNat
  obtain ⟨mtn, hmtn⟩ : ∃ m, m = min y34.toNat 24 := ⟨_, rfl⟩
  obtain ⟨tn, htn⟩ : ∃ z, strOf ((bd.drop 35).take (min y34.toNat 24)) = z := ⟨_, rfl⟩
  rw [htn] at ntn
  have Htn := Lib.hid htn; clear htn
  have HMtn := Lib.hid hmtn; clear hmtn
  have hdec := decR_eq HY0.out HY1.out HY2.out HY3.out HY4.out HY5.out HY6.out HY7.out HY8.out HY9.out HY34.out hon Hfr.out Htd.out Hino.out Hold.out Hfn.out Htn.out
  have HDEC := Lib.hid hdec; clear hdec
  have HON := Lib.hid hon
  have HBD := Lib.hid hbd
  go_enter Try.func14, Try.ntmps14
  go_upto_region 4 with (first | (go_at_call 43; refine (ROpen_yes _ 82 (hr.alloc _) hc HB8.out (by decide) HE.out).mono ?_; rintro e w2 ⟨v2, rfl, hn2⟩; obtain ⟨A2, c2, rfl⟩ := hn2.1.shape; have HN2 := Lib.hid (hbd ▸ hn2); clear hn2 hbd))
  obtain ⟨g2, hcc, hA2⟩ : ∃ g2, 123 ≤ c2 ∧ A2 = some ⟨g2, 0, none⟩ := by
    rcases HN2.out.1.2 with ⟨_, h0⟩ | ⟨g, cap, cur, hv, _, _, hnc, _⟩
    · omega
    · injection hv with e1 e2 e3
      exact ⟨g, by omega, e1⟩
  subst hA2
  have HF2 : Hid (Fresh w w2) := ((Keep.refl (fun _ => False) w).alloc _).trans HN2.out.2.1 (fun _ _ f => f)
  have hrd := Rd.of_own HN2.out.1
  have HRD := Lib.hid hrd
  have hS : RReadS g2 y0 y1 y2 y3 y4 y5 y6 y7 y8 w2.drew := ⟨byte_at hrd 0 (by omega) HY0.out, byte_at hrd 1 (by omega) HY1.out, byte_at hrd 2 (by omega) HY2.out, byte_at hrd 3 (by omega) HY3.out, byte_at hrd 4 (by omega) HY4.out, byte_at hrd 5 (by omega) HY5.out, byte_at hrd 6 (by omega) HY6.out, byte_at hrd 7 (by omega) HY7.out, byte_at hrd 8 (by omega) HY8.out⟩
  have HG2 := Lib.hid (HB0.out.fresh HN2.out.2.1)
  have hg2 : g2 < w2.heap.size := own_lt HN2.out.1 rfl
  have hww : w.heap.size < w2.heap.size := HG2.out.lt
  clear hrd
  go_cut [6] (fun s6 wx => ∃ g6 : Nat, s6 = .pointer (some ⟨g6, 0, none⟩) ∧ Hid (Blk wx g6 23 #[.bool on, .int .i64 fr, .int .i64 td, .int .i64 ino, .int .i64 old, .string ⟨#[]⟩, .string ⟨#[]⟩]) ∧ Hid (Fresh w2 wx) ∧ Hid (g2 ≠ g6 ∧ g6 ≠ w.heap.size ∧ w.heap.size ≤ g6))
  case first =>
    have p0 : IntKind.i64.wrap y0 = y0 := by rw [IntKind.wrap_i64]; have := G0.out; omega
    have p1 : IntKind.i64.wrap y1 = y1 := by rw [IntKind.wrap_i64]; have := G1.out; omega
    have p2 : IntKind.i64.wrap y2 = y2 := by rw [IntKind.wrap_i64]; have := G2.out; omega
    have p3 : IntKind.i64.wrap y3 = y3 := by rw [IntKind.wrap_i64]; have := G3.out; omega
    have p4 : IntKind.i64.wrap y4 = y4 := by rw [IntKind.wrap_i64]; have := G4.out; omega
    have p5 : IntKind.i64.wrap y5 = y5 := by rw [IntKind.wrap_i64]; have := G5.out; omega
    have p6 : IntKind.i64.wrap y6 = y6 := by rw [IntKind.wrap_i64]; have := G6.out; omega
    have p7 : IntKind.i64.wrap y7 = y7 := by rw [IntKind.wrap_i64]; have := G7.out; omega
    have p8 : IntKind.i64.wrap y8 = y8 := by rw [IntKind.wrap_i64]; have := G8.out; omega
    have q1 : IntKind.i64.wrap (y1 * 256) = y1 * 256 := by rw [IntKind.wrap_i64]; have := G1.out; omega
    have o1 := or_word G1.out G2.out
    have q3 : IntKind.i64.wrap (y3 * 256) = y3 * 256 := by rw [IntKind.wrap_i64]; have := G3.out; omega
    have o3 := or_word G3.out G4.out
    have q5 : IntKind.i64.wrap (y5 * 256) = y5 * 256 := by rw [IntKind.wrap_i64]; have := G5.out; omega
    have o5 := or_word G5.out G6.out
    have q7 : IntKind.i64.wrap (y7 * 256) = y7 * 256 := by rw [IntKind.wrap_i64]; have := G7.out; omega
    have o7 := or_word G7.out G8.out
    rw [Hfr.out] at o1
    rw [Htd.out] at o3
    rw [Hino.out] at o5
    rw [Hold.out] at o7
    go_wp2_with fail
    refine wp_region_held_drew (S := RReadS g2 y0 y1 y2 y3 y4 y5 y6 y7 y8) (by kernel_rfl) hS (fun hs => ?_)
    clear hS
    (refine wpAnyC_do 0 (some 16) ?_ rfl rfl (by kernel_rfl) (by kernel_rfl) (by kernel_rfl) (fun _ _ _ h => h) (by rfl) ?_ (by assumption) ?_; rotate_left; (intro w' hS'; obtain ⟨s0, s1, s2, s3, s4, s5, s6, s7, s8⟩ := hS'; go_simp; try with_reducible rfl); try simp only [Act.put, List.setIfInBounds_toArray, List.set_cons_zero, List.set_cons_succ])
    (refine wpAnyC_do 1 (some 17) ?_ rfl rfl (by kernel_rfl) (by kernel_rfl) (by kernel_rfl) (fun _ _ _ h => h) (by rfl) ?_ (by assumption) ?_; rotate_left; (intro w' hS'; obtain ⟨s0, s1, s2, s3, s4, s5, s6, s7, s8⟩ := hS'; go_simp; try with_reducible rfl); try simp only [Act.put, List.setIfInBounds_toArray, List.set_cons_zero, List.set_cons_succ])
    (refine wpAnyC_do 2 (some 18) (.int .u8 y0) rfl rfl (by kernel_rfl) (by kernel_rfl) (by kernel_rfl) (fun _ _ _ h => h) (by rfl) ?_ (by assumption) ?_; (intro w' hS'; obtain ⟨s0, s1, s2, s3, s4, s5, s6, s7, s8⟩ := hS'; go_simp; try with_reducible rfl); try simp only [Act.put, List.setIfInBounds_toArray, List.set_cons_zero, List.set_cons_succ])
    (refine wpAnyC_do 3 (some 19) (.bool on) rfl rfl (by kernel_rfl) (by kernel_rfl) (by kernel_rfl) (fun _ _ _ h => h) (by rfl) ?_ (by assumption) ?_; (intro w' hS'; obtain ⟨s0, s1, s2, s3, s4, s5, s6, s7, s8⟩ := hS'; go_simp; try with_reducible rfl); try simp only [Act.put, List.setIfInBounds_toArray, List.set_cons_zero, List.set_cons_succ])
    (refine wpAnyC_do 4 (some 20) ?_ rfl rfl (by kernel_rfl) (by kernel_rfl) (by kernel_rfl) (fun _ _ _ h => h) (by rfl) ?_ (by assumption) ?_; rotate_left; (intro w' hS'; obtain ⟨s0, s1, s2, s3, s4, s5, s6, s7, s8⟩ := hS'; go_simp; try with_reducible rfl); try simp only [Act.put, List.setIfInBounds_toArray, List.set_cons_zero, List.set_cons_succ])
    (refine wpAnyC_do 5 (some 21) ?_ rfl rfl (by kernel_rfl) (by kernel_rfl) (by kernel_rfl) (fun _ _ _ h => h) (by rfl) ?_ (by assumption) ?_; rotate_left; (intro w' hS'; obtain ⟨s0, s1, s2, s3, s4, s5, s6, s7, s8⟩ := hS'; go_simp; try with_reducible rfl); try simp only [Act.put, List.setIfInBounds_toArray, List.set_cons_zero, List.set_cons_succ])
    (refine wpAnyC_do 6 (some 22) (.int .u8 y1) rfl rfl (by kernel_rfl) (by kernel_rfl) (by kernel_rfl) (fun _ _ _ h => h) (by rfl) ?_ (by assumption) ?_; (intro w' hS'; obtain ⟨s0, s1, s2, s3, s4, s5, s6, s7, s8⟩ := hS'; go_simp; try with_reducible rfl); try simp only [Act.put, List.setIfInBounds_toArray, List.set_cons_zero, List.set_cons_succ])
    (refine wpAnyC_do 7 (some 23) (.int .i64 y1) rfl rfl (by kernel_rfl) (by kernel_rfl) (by kernel_rfl) (fun _ _ _ h => h) (by rfl) ?_ (by assumption) ?_; (intro w' hS'; obtain ⟨s0, s1, s2, s3, s4, s5, s6, s7, s8⟩ := hS'; go_simp; try with_reducible rfl); try simp only [Act.put, List.setIfInBounds_toArray, List.set_cons_zero, List.set_cons_succ])
    (refine wpAnyC_do 8 (some 24) (.int .i64 (y1 * 256)) rfl rfl (by kernel_rfl) (by kernel_rfl) (by kernel_rfl) (fun _ _ _ h => h) (by rfl) ?_ (by assumption) ?_; (intro w' hS'; obtain ⟨s0, s1, s2, s3, s4, s5, s6, s7, s8⟩ := hS'; go_simp; try with_reducible rfl); try simp only [Act.put, List.setIfInBounds_toArray, List.set_cons_zero, List.set_cons_succ])
    (refine wpAnyC_do 9 (some 25) ?_ rfl rfl (by kernel_rfl) (by kernel_rfl) (by kernel_rfl) (fun _ _ _ h => h) (by rfl) ?_ (by assumption) ?_; rotate_left; (intro w' hS'; obtain ⟨s0, s1, s2, s3, s4, s5, s6, s7, s8⟩ := hS'; go_simp; try with_reducible rfl); try simp only [Act.put, List.setIfInBounds_toArray, List.set_cons_zero, List.set_cons_succ])
    (refine wpAnyC_do 10 (some 26) ?_ rfl rfl (by kernel_rfl) (by kernel_rfl) (by kernel_rfl) (fun _ _ _ h => h) (by rfl) ?_ (by assumption) ?_; rotate_left; (intro w' hS'; obtain ⟨s0, s1, s2, s3, s4, s5, s6, s7, s8⟩ := hS'; go_simp; try with_reducible rfl); try simp only [Act.put, List.setIfInBounds_toArray, List.set_cons_zero, List.set_cons_succ])
    (refine wpAnyC_do 11 (some 27) (.int .u8 y2) rfl rfl (by kernel_rfl) (by kernel_rfl) (by kernel_rfl) (fun _ _ _ h => h) (by rfl) ?_ (by assumption) ?_; (intro w' hS'; obtain ⟨s0, s1, s2, s3, s4, s5, s6, s7, s8⟩ := hS'; go_simp; try with_reducible rfl); try simp only [Act.put, List.setIfInBounds_toArray, List.set_cons_zero, List.set_cons_succ])
    (refine wpAnyC_do 12 (some 28) (.int .i64 y2) rfl rfl (by kernel_rfl) (by kernel_rfl) (by kernel_rfl) (fun _ _ _ h => h) (by rfl) ?_ (by assumption) ?_; (intro w' hS'; obtain ⟨s0, s1, s2, s3, s4, s5, s6, s7, s8⟩ := hS'; go_simp; try with_reducible rfl); try simp only [Act.put, List.setIfInBounds_toArray, List.set_cons_zero, List.set_cons_succ])
    (refine wpAnyC_do 13 (some 29) (.int .i64 fr) rfl rfl (by kernel_rfl) (by kernel_rfl) (by kernel_rfl) (fun _ _ _ h => h) (by rfl) ?_ (by assumption) ?_; (intro w' hS'; obtain ⟨s0, s1, s2, s3, s4, s5, s6, s7, s8⟩ := hS'; go_simp; try with_reducible rfl); try simp only [Act.put, List.setIfInBounds_toArray, List.set_cons_zero, List.set_cons_succ])
    (refine wpAnyC_do 14 (some 30) ?_ rfl rfl (by kernel_rfl) (by kernel_rfl) (by kernel_rfl) (fun _ _ _ h => h) (by rfl) ?_ (by assumption) ?_; rotate_left; (intro w' hS'; obtain ⟨s0, s1, s2, s3, s4, s5, s6, s7, s8⟩ := hS'; go_simp; try with_reducible rfl); try simp only [Act.put, List.setIfInBounds_toArray, List.set_cons_zero, List.set_cons_succ])
    (refine wpAnyC_do 15 (some 31) ?_ rfl rfl (by kernel_rfl) (by kernel_rfl) (by kernel_rfl) (fun _ _ _ h => h) (by rfl) ?_ (by assumption) ?_; rotate_left; (intro w' hS'; obtain ⟨s0, s1, s2, s3, s4, s5, s6, s7, s8⟩ := hS'; go_simp; try with_reducible rfl); try simp only [Act.put, List.setIfInBounds_toArray, List.set_cons_zero, List.set_cons_succ])
    (refine wpAnyC_do 16 (some 32) (.int .u8 y3) rfl rfl (by kernel_rfl) (by kernel_rfl) (by kernel_rfl) (fun _ _ _ h => h) (by rfl) ?_ (by assumption) ?_; (intro w' hS'; obtain ⟨s0, s1, s2, s3, s4, s5, s6, s7, s8⟩ := hS'; go_simp; try with_reducible rfl); try simp only [Act.put, List.setIfInBounds_toArray, List.set_cons_zero, List.set_cons_succ])
    (refine wpAnyC_do 17 (some 33) (.int .i64 y3) rfl rfl (by kernel_rfl) (by kernel_rfl) (by kernel_rfl) (fun _ _ _ h => h) (by rfl) ?_ (by assumption) ?_; (intro w' hS'; obtain ⟨s0, s1, s2, s3, s4, s5, s6, s7, s8⟩ := hS'; go_simp; try with_reducible rfl); try simp only [Act.put, List.setIfInBounds_toArray, List.set_cons_zero, List.set_cons_succ])
    (refine wpAnyC_do 18 (some 34) (.int .i64 (y3 * 256)) rfl rfl (by kernel_rfl) (by kernel_rfl) (by kernel_rfl) (fun _ _ _ h => h) (by rfl) ?_ (by assumption) ?_; (intro w' hS'; obtain ⟨s0, s1, s2, s3, s4, s5, s6, s7, s8⟩ := hS'; go_simp; try with_reducible rfl); try simp only [Act.put, List.setIfInBounds_toArray, List.set_cons_zero, List.set_cons_succ])
    (refine wpAnyC_do 19 (some 35) ?_ rfl rfl (by kernel_rfl) (by kernel_rfl) (by kernel_rfl) (fun _ _ _ h => h) (by rfl) ?_ (by assumption) ?_; rotate_left; (intro w' hS'; obtain ⟨s0, s1, s2, s3, s4, s5, s6, s7, s8⟩ := hS'; go_simp; try with_reducible rfl); try simp only [Act.put, List.setIfInBounds_toArray, List.set_cons_zero, List.set_cons_succ])
    (refine wpAnyC_do 20 (some 36) ?_ rfl rfl (by kernel_rfl) (by kernel_rfl) (by kernel_rfl) (fun _ _ _ h => h) (by rfl) ?_ (by assumption) ?_; rotate_left; (intro w' hS'; obtain ⟨s0, s1, s2, s3, s4, s5, s6, s7, s8⟩ := hS'; go_simp; try with_reducible rfl); try simp only [Act.put, List.setIfInBounds_toArray, List.set_cons_zero, List.set_cons_succ])
    (refine wpAnyC_do 21 (some 37) (.int .u8 y4) rfl rfl (by kernel_rfl) (by kernel_rfl) (by kernel_rfl) (fun _ _ _ h => h) (by rfl) ?_ (by assumption) ?_; (intro w' hS'; obtain ⟨s0, s1, s2, s3, s4, s5, s6, s7, s8⟩ := hS'; go_simp; try with_reducible rfl); try simp only [Act.put, List.setIfInBounds_toArray, List.set_cons_zero, List.set_cons_succ])
    (refine wpAnyC_do 22 (some 38) (.int .i64 y4) rfl rfl (by kernel_rfl) (by kernel_rfl) (by kernel_rfl) (fun _ _ _ h => h) (by rfl) ?_ (by assumption) ?_; (intro w' hS'; obtain ⟨s0, s1, s2, s3, s4, s5, s6, s7, s8⟩ := hS'; go_simp; try with_reducible rfl); try simp only [Act.put, List.setIfInBounds_toArray, List.set_cons_zero, List.set_cons_succ])
    (refine wpAnyC_do 23 (some 39) (.int .i64 td) rfl rfl (by kernel_rfl) (by kernel_rfl) (by kernel_rfl) (fun _ _ _ h => h) (by rfl) ?_ (by assumption) ?_; (intro w' hS'; obtain ⟨s0, s1, s2, s3, s4, s5, s6, s7, s8⟩ := hS'; go_simp; try with_reducible rfl); try simp only [Act.put, List.setIfInBounds_toArray, List.set_cons_zero, List.set_cons_succ])
    (refine wpAnyC_do 24 (some 40) ?_ rfl rfl (by kernel_rfl) (by kernel_rfl) (by kernel_rfl) (fun _ _ _ h => h) (by rfl) ?_ (by assumption) ?_; rotate_left; (intro w' hS'; obtain ⟨s0, s1, s2, s3, s4, s5, s6, s7, s8⟩ := hS'; go_simp; try with_reducible rfl); try simp only [Act.put, List.setIfInBounds_toArray, List.set_cons_zero, List.set_cons_succ])
    (refine wpAnyC_do 25 (some 41) ?_ rfl rfl (by kernel_rfl) (by kernel_rfl) (by kernel_rfl) (fun _ _ _ h => h) (by rfl) ?_ (by assumption) ?_; rotate_left; (intro w' hS'; obtain ⟨s0, s1, s2, s3, s4, s5, s6, s7, s8⟩ := hS'; go_simp; try with_reducible rfl); try simp only [Act.put, List.setIfInBounds_toArray, List.set_cons_zero, List.set_cons_succ])
    (refine wpAnyC_do 26 (some 42) (.int .u8 y5) rfl rfl (by kernel_rfl) (by kernel_rfl) (by kernel_rfl) (fun _ _ _ h => h) (by rfl) ?_ (by assumption) ?_; (intro w' hS'; obtain ⟨s0, s1, s2, s3, s4, s5, s6, s7, s8⟩ := hS'; go_simp; try with_reducible rfl); try simp only [Act.put, List.setIfInBounds_toArray, List.set_cons_zero, List.set_cons_succ])
    (refine wpAnyC_do 27 (some 43) (.int .i64 y5) rfl rfl (by kernel_rfl) (by kernel_rfl) (by kernel_rfl) (fun _ _ _ h => h) (by rfl) ?_ (by assumption) ?_; (intro w' hS'; obtain ⟨s0, s1, s2, s3, s4, s5, s6, s7, s8⟩ := hS'; go_simp; try with_reducible rfl); try simp only [Act.put, List.setIfInBounds_toArray, List.set_cons_zero, List.set_cons_succ])
    (refine wpAnyC_do 28 (some 44) (.int .i64 (y5 * 256)) rfl rfl (by kernel_rfl) (by kernel_rfl) (by kernel_rfl) (fun _ _ _ h => h) (by rfl) ?_ (by assumption) ?_; (intro w' hS'; obtain ⟨s0, s1, s2, s3, s4, s5, s6, s7, s8⟩ := hS'; go_simp; try with_reducible rfl); try simp only [Act.put, List.setIfInBounds_toArray, List.set_cons_zero, List.set_cons_succ])
    (refine wpAnyC_do 29 (some 45) ?_ rfl rfl (by kernel_rfl) (by kernel_rfl) (by kernel_rfl) (fun _ _ _ h => h) (by rfl) ?_ (by assumption) ?_; rotate_left; (intro w' hS'; obtain ⟨s0, s1, s2, s3, s4, s5, s6, s7, s8⟩ := hS'; go_simp; try with_reducible rfl); try simp only [Act.put, List.setIfInBounds_toArray, List.set_cons_zero, List.set_cons_succ])
    (refine wpAnyC_do 30 (some 46) ?_ rfl rfl (by kernel_rfl) (by kernel_rfl) (by kernel_rfl) (fun _ _ _ h => h) (by rfl) ?_ (by assumption) ?_; rotate_left; (intro w' hS'; obtain ⟨s0, s1, s2, s3, s4, s5, s6, s7, s8⟩ := hS'; go_simp; try with_reducible rfl); try simp only [Act.put, List.setIfInBounds_toArray, List.set_cons_zero, List.set_cons_succ])
    (refine wpAnyC_do 31 (some 47) (.int .u8 y6) rfl rfl (by kernel_rfl) (by kernel_rfl) (by kernel_rfl) (fun _ _ _ h => h) (by rfl) ?_ (by assumption) ?_; (intro w' hS'; obtain ⟨s0, s1, s2, s3, s4, s5, s6, s7, s8⟩ := hS'; go_simp; try with_reducible rfl); try simp only [Act.put, List.setIfInBounds_toArray, List.set_cons_zero, List.set_cons_succ])
    (refine wpAnyC_do 32 (some 48) (.int .i64 y6) rfl rfl (by kernel_rfl) (by kernel_rfl) (by kernel_rfl) (fun _ _ _ h => h) (by rfl) ?_ (by assumption) ?_; (intro w' hS'; obtain ⟨s0, s1, s2, s3, s4, s5, s6, s7, s8⟩ := hS'; go_simp; try with_reducible rfl); try simp only [Act.put, List.setIfInBounds_toArray, List.set_cons_zero, List.set_cons_succ])
    (refine wpAnyC_do 33 (some 49) (.int .i64 ino) rfl rfl (by kernel_rfl) (by kernel_rfl) (by kernel_rfl) (fun _ _ _ h => h) (by rfl) ?_ (by assumption) ?_; (intro w' hS'; obtain ⟨s0, s1, s2, s3, s4, s5, s6, s7, s8⟩ := hS'; go_simp; try with_reducible rfl); try simp only [Act.put, List.setIfInBounds_toArray, List.set_cons_zero, List.set_cons_succ])
    (refine wpAnyC_do 34 (some 50) ?_ rfl rfl (by kernel_rfl) (by kernel_rfl) (by kernel_rfl) (fun _ _ _ h => h) (by rfl) ?_ (by assumption) ?_; rotate_left; (intro w' hS'; obtain ⟨s0, s1, s2, s3, s4, s5, s6, s7, s8⟩ := hS'; go_simp; try with_reducible rfl); try simp only [Act.put, List.setIfInBounds_toArray, List.set_cons_zero, List.set_cons_succ])
    (refine wpAnyC_do 35 (some 51) ?_ rfl rfl (by kernel_rfl) (by kernel_rfl) (by kernel_rfl) (fun _ _ _ h => h) (by rfl) ?_ (by assumption) ?_; rotate_left; (intro w' hS'; obtain ⟨s0, s1, s2, s3, s4, s5, s6, s7, s8⟩ := hS'; go_simp; try with_reducible rfl); try simp only [Act.put, List.setIfInBounds_toArray, List.set_cons_zero, List.set_cons_succ])
    (refine wpAnyC_do 36 (some 52) (.int .u8 y7) rfl rfl (by kernel_rfl) (by kernel_rfl) (by kernel_rfl) (fun _ _ _ h => h) (by rfl) ?_ (by assumption) ?_; (intro w' hS'; obtain ⟨s0, s1, s2, s3, s4, s5, s6, s7, s8⟩ := hS'; go_simp; try with_reducible rfl); try simp only [Act.put, List.setIfInBounds_toArray, List.set_cons_zero, List.set_cons_succ])
    (refine wpAnyC_do 37 (some 53) (.int .i64 y7) rfl rfl (by kernel_rfl) (by kernel_rfl) (by kernel_rfl) (fun _ _ _ h => h) (by rfl) ?_ (by assumption) ?_; (intro w' hS'; obtain ⟨s0, s1, s2, s3, s4, s5, s6, s7, s8⟩ := hS'; go_simp; try with_reducible rfl); try simp only [Act.put, List.setIfInBounds_toArray, List.set_cons_zero, List.set_cons_succ])
    (refine wpAnyC_do 38 (some 54) (.int .i64 (y7 * 256)) rfl rfl (by kernel_rfl) (by kernel_rfl) (by kernel_rfl) (fun _ _ _ h => h) (by rfl) ?_ (by assumption) ?_; (intro w' hS'; obtain ⟨s0, s1, s2, s3, s4, s5, s6, s7, s8⟩ := hS'; go_simp; try with_reducible rfl); try simp only [Act.put, List.setIfInBounds_toArray, List.set_cons_zero, List.set_cons_succ])
    (refine wpAnyC_do 39 (some 55) ?_ rfl rfl (by kernel_rfl) (by kernel_rfl) (by kernel_rfl) (fun _ _ _ h => h) (by rfl) ?_ (by assumption) ?_; rotate_left; (intro w' hS'; obtain ⟨s0, s1, s2, s3, s4, s5, s6, s7, s8⟩ := hS'; go_simp; try with_reducible rfl); try simp only [Act.put, List.setIfInBounds_toArray, List.set_cons_zero, List.set_cons_succ])
    (refine wpAnyC_do 40 (some 56) ?_ rfl rfl (by kernel_rfl) (by kernel_rfl) (by kernel_rfl) (fun _ _ _ h => h) (by rfl) ?_ (by assumption) ?_; rotate_left; (intro w' hS'; obtain ⟨s0, s1, s2, s3, s4, s5, s6, s7, s8⟩ := hS'; go_simp; try with_reducible rfl); try simp only [Act.put, List.setIfInBounds_toArray, List.set_cons_zero, List.set_cons_succ])
    (refine wpAnyC_do 41 (some 57) (.int .u8 y8) rfl rfl (by kernel_rfl) (by kernel_rfl) (by kernel_rfl) (fun _ _ _ h => h) (by rfl) ?_ (by assumption) ?_; (intro w' hS'; obtain ⟨s0, s1, s2, s3, s4, s5, s6, s7, s8⟩ := hS'; go_simp; try with_reducible rfl); try simp only [Act.put, List.setIfInBounds_toArray, List.set_cons_zero, List.set_cons_succ])
    (refine wpAnyC_do 42 (some 58) (.int .i64 y8) rfl rfl (by kernel_rfl) (by kernel_rfl) (by kernel_rfl) (fun _ _ _ h => h) (by rfl) ?_ (by assumption) ?_; (intro w' hS'; obtain ⟨s0, s1, s2, s3, s4, s5, s6, s7, s8⟩ := hS'; go_simp; try with_reducible rfl); try simp only [Act.put, List.setIfInBounds_toArray, List.set_cons_zero, List.set_cons_succ])
    (refine wpAnyC_do 43 (some 59) (.int .i64 old) rfl rfl (by kernel_rfl) (by kernel_rfl) (by kernel_rfl) (fun _ _ _ h => h) (by rfl) ?_ (by assumption) ?_; (intro w' hS'; obtain ⟨s0, s1, s2, s3, s4, s5, s6, s7, s8⟩ := hS'; go_simp; try with_reducible rfl); try simp only [Act.put, List.setIfInBounds_toArray, List.set_cons_zero, List.set_cons_succ])
    (refine wpAnyC_do 44 (some 60) ?_ rfl rfl (by kernel_rfl) (by kernel_rfl) (by kernel_rfl) (fun _ _ _ h => h) (by rfl) ?_ (by assumption) ?_; rotate_left; (intro w' hS'; obtain ⟨s0, s1, s2, s3, s4, s5, s6, s7, s8⟩ := hS'; go_simp; try with_reducible rfl); try simp only [Act.put, List.setIfInBounds_toArray, List.set_cons_zero, List.set_cons_succ])
    (refine wpAnyC_one 45 rfl (by kernel_rfl) (fun K' hK' => ?_); go_simp; refine hK' _ _ (RReadS.keep hs ((Keep.refl (fun _ => False) w2.drew).alloc _) (fun f => f)) (fun hs => ?_); clear hK' K'; try simp only [Act.put, List.setIfInBounds_toArray, List.set_cons_zero, List.set_cons_succ])
    have HB7 := Lib.hid (Blk.new w2.drew 23 zeroR)
    refine wpAnyC_one 46 rfl (by kernel_rfl) (fun K' hK' => ?_)
    rw [if_pos (by rfl)]
    refine wp_store_blk HB7.out 23 (.tmp 6) (.tmp 60) rfl 0 #[.bool on, .int .i64 fr, .int .i64 td, .int .i64 ino, .int .i64 old, .string ⟨#[]⟩, .string ⟨#[]⟩] (by go_simp) (by go_simp) (show 0 + 7 ≤ 7 by decide) rec_size (one_rec _ _ _ _ _ _ _) ?_
    intro w20 hb20 k20
    refine hK' _ _ (RReadS.keep hs k20 (fun e => by simp at e; omega)) (fun _ => ?_)
    clear hK' K'
    try simp only [Act.put, List.setIfInBounds_toArray]
    refine wpAnyH_done (by kernel_rfl) ?_ _
    go_wp2_with fail
    go_meet
    have hb20 := hb20.out
    rw [show layC zeroR 0 _ = _ from lay_rec zeroR rfl _ _ _ _ _ _ _] at hb20
    have k20' : Fresh w2 w20 := (((Keep.refl (fun _ => False) w2).drew.alloc _).trans k20 (fun b hb e => by simp at e; omega))
    exact ⟨_, rfl, hb20, k20', show g2 ≠ w2.heap.size ∧ w2.heap.size ≠ w.heap.size ∧ w.heap.size ≤ w2.heap.size from ⟨by omega, by omega, by omega⟩⟩
  case rest =>
    obtain ⟨g6, rfl, HB6, HF6, HG6⟩ := hcut
    obtain ⟨h26, h6w, h6l⟩ := HG6.out
    have hrd := HRD.out.fresh HF6.out
    have bbfn := G9.out
    have ufn0 := byte_at hrd 9 (by omega) HY9.out
    have ufn1 : wrap64 y9 = y9 := wrap64_small bbfn
    have ufn1' : IntKind.i64.wrap y9 = y9 := by rw [IntKind.wrap_i64]; omega
    have ufn2 : min y9 24 = (mfn : Int) := by have := HMfn.out; omega
    have ufn3 : (mfn : Int) ≤ 24 := by have := HMfn.out; omega
    have ufn4 : (0 : Int) ≤ mfn := by omega
    have ufn5 : IntKind.i64.wrap (10 + (mfn : Int)) = 10 + mfn := by rw [IntKind.wrap_i64]; omega
    have ufn6 : (10 : Int) ≤ 10 + mfn := by omega
    have ufn7 : 10 + (mfn : Int) ≤ (c2 : Int) := by omega
    have ufn8 : (10 + (mfn : Int)).toNat = 10 + mfn := by omega
    have ufn9 : ¬ c2 = 10 := by omega
    have hcvfn : ∀ c', (convert 24 9 (.slice (some ⟨g2, 10, none⟩) mfn c')).run Try.prog wc = .ok (.string fn) wc := fun c' => by
      have h := run_conv (c := c') (cut_str hrd 10 mfn (by have := HMfn.out; omega))
      rw [h, HMfn.out, Hfn.out]
    clear bbfn
    have bbtn := G34.out
    have utn0 := byte_at hrd 34 (by omega) HY34.out
    have utn1 : wrap64 y34 = y34 := wrap64_small bbtn
    have utn1' : IntKind.i64.wrap y34 = y34 := by rw [IntKind.wrap_i64]; omega
    have utn2 : min y34 24 = (mtn : Int) := by have := HMtn.out; omega
    have utn3 : (mtn : Int) ≤ 24 := by have := HMtn.out; omega
    have utn4 : (0 : Int) ≤ mtn := by omega
    have utn5 : IntKind.i64.wrap (35 + (mtn : Int)) = 35 + mtn := by rw [IntKind.wrap_i64]; omega
    have utn6 : (35 : Int) ≤ 35 + mtn := by omega
    have utn7 : 35 + (mtn : Int) ≤ (c2 : Int) := by omega
    have utn8 : (35 + (mtn : Int)).toNat = 35 + mtn := by omega
    have utn9 : ¬ c2 = 35 := by omega
    have hcvtn : ∀ c', (convert 24 9 (.slice (some ⟨g2, 35, none⟩) mtn c')).run Try.prog wc = .ok (.string tn) wc := fun c' => by
      have h := run_conv (c := c') (cut_str hrd 35 mtn (by have := HMtn.out; omega))
      rw [h, HMtn.out, Htn.out]
    clear bbtn
    have hcv2 : ∀ c', (convert 24 9 (.slice (some ⟨g2, 35, none⟩) mtn c')).run Try.prog (wc.setCell ⟨g6, 5, none⟩ (.string fn)) = .ok (.string tn) (wc.setCell ⟨g6, 5, none⟩ (.string fn)) := fun c' => by
      have h := run_conv (c := c') (cut_str (hrd.setCell (p := ⟨g6, 5, none⟩) (fun ad e => by cases e; exact h26) (.string fn)) 35 mtn (by have := HMtn.out; omega))
      rw [h, HMtn.out, Htn.out]
    have f5 := HB6.out.cell 5
    have f6 := HB6.out.cell 6
    have z5 := HB6.out.frozen 5
    have z6 := HB6.out.frozen 6
    have hlr := hr.fresh (HF2.out.trans HF6.out (fun _ _ f => f))
    have HLR := Lib.hid hlr
    have HRD2 := Lib.hid hrd
    clear hrd hlr
    go_upto_region 7 with fail
    obtain ⟨wd, hwd⟩ : ∃ wd, (wc.setCell ⟨g6, 5, none⟩ (.string fn)).setCell ⟨g6, 6, none⟩ (.string tn) = wd := ⟨_, rfl⟩
    rw [hwd]
    have HB8c : Hid (Blk wd g6 23 #[.bool on, .int .i64 fr, .int .i64 td, .int .i64 ino, .int .i64 old, .string fn, .string tn]) := hwd ▸ (HB6.out.set_ 5 _).set_ 6 _
    have hk8 : Keep (fun b => b = g6) wc wd := hwd ▸ ((Keep.refl (fun b => b = g6) wc).setCell (p := ⟨g6, 5, none⟩) (fun _ => rfl) _).setCell (p := ⟨g6, 6, none⟩) (fun _ => rfl) _
    have HF8 := Lib.hid ((HF2.out.trans HF6.out (fun _ _ f => f)).trans hk8 (fun b hb e => by omega))
    have HG8 := Lib.hid ((HG2.out.fresh HF6.out).keep hk8 (fun e => h6w e.symm))
    have hlr := hr.fresh HF8.out
    clear hwd hk8 f5 f6 z5 z6 hcv2 hcvfn hcvtn
    by_cases hok : mayR ⟨on, fr, td, ino, old, fn, tn⟩ = true
    · have HOK := Lib.hid hok; clear hok
      go_wp2_with (first
        | (refine wpList_load_blk HB8c.out rfl 23 (.tmp 6) rfl rfl rec_und rfl rec_size ?_)
        | (refine wpList_load_blk (HB8c.out.fresh H4.out.2.1) rfl 23 (.tmp 6) rfl rfl rec_und rfl rec_size ?_)
        | (go_at_call 12; refine (RcRLay_calls ⟨on, fr, td, ino, old, fn, tn⟩ _).mono ?_; rintro e w4 (⟨hno, -, -⟩ | ⟨-, v4, rfl, h4⟩); (exact absurd HOK.out (by rw [hno]; decide)); obtain ⟨A4, c4, rfl⟩ := h4.1.shape; have hcv1 := run_conv (c := c4) (Rd.of_own h4.1); have hcv2 := run_conv (c := c) (hlr.fresh h4.2.1); have HS8 := Lib.hid (seal_bytes (k := 82) (by omega) (bodyRL_bytes (r := ⟨on, fr, td, ino, old, fn, tn⟩) nfn ntn)); have H4 := Lib.hid h4; clear h4)
        | (refine wpList_store_blk (HG8.out.fresh H4.out.2.1) rfl 23 (.tmp 2) (.tmp 96) rfl 0 #[.bool on, .int .i64 fr, .int .i64 td, .int .i64 ino, .int .i64 old, .string fn, .string tn] rfl rfl (show 0 + 7 ≤ 7 by decide) rec_size (one_rec _ _ _ _ _ _ _) ?_; intro w6 hb6 k6)
        | (refine wpList_store_blk (HG8.out.fresh H4.out.2.1) rfl 23 (.tmp 2) (.tmp 95) rfl 0 zeroR rfl rfl (show 0 + 7 ≤ 7 by decide) rec_size (one_rec _ _ _ _ _ _ _) ?_; intro w6 hb6 k6))
      · (try simp only [Exit.inBlock, Exit.then])
        have hs : sealL 82 (bodyRL ⟨on, fr, td, ino, old, fn, tn⟩) ≠ l := str_ne HS8.out HB8.out (by assumption)
        have hb6 := hb6.out
        rw [show layC zeroR 0 zeroR.toList = zeroR from lay_rec zeroR rfl _ _ _ _ _ _ _] at hb6
        refine ret_cell hb6 rfl rfl rfl rfl rec_und rfl rec_size ?_
        exact rread_bad HBD.out HDEC.out (fun h => hs h.2) rfl ((HF8.out.trans H4.out.2.1 (fun _ _ f => f)).trans k6 (fun b hb e => by omega))
      · (try simp only [Exit.inBlock, Exit.then])
        have hs : sealL 82 (bodyRL ⟨on, fr, td, ino, old, fn, tn⟩) = l := str_eq HS8.out HB8.out (by assumption)
        have hb6 := hb6.out
        rw [show layC zeroR 0 _ = _ from lay_rec zeroR rfl _ _ _ _ _ _ _] at hb6
        refine ret_cell hb6 rfl rfl rfl rfl rec_und rfl rec_size ?_
        exact rread_good HE.out HBD.out HDEC.out HOK.out hs rfl ((HF8.out.trans H4.out.2.1 (fun _ _ f => f)).trans k6 (fun b hb e => by omega))
    · have HOK := Lib.hid hok; clear hok
      go_wp2_with (first
        | (refine wpList_load_blk HB8c.out rfl 23 (.tmp 6) rfl rfl rec_und rfl rec_size ?_)
        | (go_at_call 12; refine (RcRLay_calls ⟨on, fr, td, ino, old, fn, tn⟩ _).mono ?_; rintro e w4 (⟨-, rfl, h4⟩ | ⟨hyes, -⟩); rotate_left; (exact absurd hyes HOK.out))
        | (refine wpList_store_blk (HG8.out.fresh h4) rfl 23 (.tmp 2) (.tmp 95) rfl 0 zeroR rfl rfl (show 0 + 7 ≤ 7 by decide) rec_size (one_rec _ _ _ _ _ _ _) ?_; intro w6 hb6 k6))
      (try simp only [Exit.inBlock, Exit.then])
      have hb6 := hb6.out
      rw [show layC zeroR 0 zeroR.toList = zeroR from lay_rec zeroR rfl _ _ _ _ _ _ _] at hb6
      refine ret_cell hb6 rfl rfl rfl rfl rec_und rfl rec_size ?_
      exact rread_bad HBD.out HDEC.out (fun h => HOK.out h.1) rfl ((HF8.out.trans h4 (fun _ _ f => f)).trans k6 (fun b hb e => by omega))
theorem RcRRead_calls (w : World) {A : Option Addr} {n c : Nat} {l : List Int} (hr : Rd w 1 A n (iv .u8 l)) (hb8 : Bytes8 l) (hc : n ≤ c) : Calls Try.prog 14 #[.slice A n c] w (RcReadPost w l) := by
  by_cases he : kindL l = 82
  · exact RcRRead_yes w hr hb8 hc he
  · exact (RcRRead_no w hr hb8 hc he).mono fun e w' h => .inr ⟨fun g => he g.1, h.1, h.2⟩
end Go.Proofs.Ytcjackjoonijnaa
