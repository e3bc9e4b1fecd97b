/-
  A block of slots: read in the document's own text.
-/
import Derived.Test.YtcjackjoonijnaaDir7
namespace Go.Proofs.Ytcjackjoonijnaa
open Go.RowKit

theorem read_limbs4 {w : World} {g m c' : Nat} {bd : List Int} (hr : Rd w 1 (some ⟨g, 0, none⟩) 123 (iv .u8 bd)) (o : Nat) (hm : o + 4 + m ≤ 123) {y0 y1 y2 y3 : Int} (e0 : bd.getD o 0 = y0) (e1 : bd.getD (o + 1) 0 = y1) (e2 : bd.getD (o + 2) 0 = y2) (e3 : bd.getD (o + 3) 0 = y3) :
    w.cell? ⟨g, o, none⟩ = some (.int .u8 y0) ∧ w.cell? ⟨g, o + 1, none⟩ = some (.int .u8 y1) ∧ w.cell? ⟨g, o + 2, none⟩ = some (.int .u8 y2) ∧ w.cell? ⟨g, o + 3, none⟩ = some (.int .u8 y3) ∧ (convert 24 9 (.slice (some ⟨g, o + 4, none⟩) m c')).run Try.prog w = .ok (.string (strOf ((bd.drop (o + 4)).take m))) w :=
  ⟨byte_at hr o (by omega) e0, byte_at hr (o + 1) (by omega) e1, byte_at hr (o + 2) (by omega) e2, byte_at hr (o + 3) (by omega) e3, run_conv (cut_str hr (o + 4) m hm)⟩
theorem second_blk (w : World) : Blk ((w.alloc (.cells zeroC 40)).alloc (.cells zeroC 40)) (w.heap.size + 1) 40 zeroC := by
  have := Blk.new (w.alloc (.cells zeroC 40)) 40 zeroC
  have e : (w.alloc (.cells zeroC 40)).heap.size = w.heap.size + 1 := by simp
  rw [e] at this
  exact this

set_option maxRecDepth 100000 in
set_option maxHeartbeats 4000000 in
theorem RRead_no (w : World) {A : Option Addr} {n c : Nat} {l : List Int} (hr : Rd w 1 A n (iv .u8 l)) (hb8 : Bytes8 l) (hc : n ≤ c) (he : kindL l ≠ 68) :
    Calls Try.prog 26 #[.slice A n c] w fun e w' => e = .returned (.tuple #[sltsV Slt.zero Slt.zero Slt.zero Slt.zero, .int .i64 3]) ∧ Fresh w w' := by
  have HE := Lib.hid he; clear he
  have HB0 := Lib.hid ((Blk.new w 40 zeroC).alloc (.cells zeroC 40))
  have HB1 := Lib.hid (second_blk w)
  go_enter Try.func26, Try.ntmps26
  go_wp2_with (first | (go_at_call 43; refine (ROpen_no _ 68 ((hr.alloc _).alloc _) hc hb8 (by decide) HE.out).mono ?_; rintro e w2 ⟨rfl, k2⟩; have HB2 := Lib.hid (HB0.out.fresh k2); have HB3 := Lib.hid (HB1.out.fresh k2)) | (refine wpList_load_blk HB3.out rfl 40 (.tmp 4) rfl rfl arr_und rfl arr_size ?_) | (refine wpList_store_blk HB2.out rfl 40 (.tmp 2) (.tmp 17) rfl 0 zeroC rfl rfl (by simp [zeroC, sltsC]) arr_size (one_slts _ _ _ _) ?_; intro w3 hb3 k3))
  (try simp only [Exit.inBlock, Exit.then])
  refine ret_cell (cs := sltsC Slt.zero Slt.zero Slt.zero Slt.zero) (by have := hb3.out; rwa [show zeroC = sltsC Slt.zero Slt.zero Slt.zero Slt.zero from rfl, show layC (sltsC Slt.zero Slt.zero Slt.zero Slt.zero) = layC zeroC from rfl, lay_zero] at this) rfl rfl rfl rfl arr_und rfl arr_size ⟨rfl, ?_⟩
  exact ((((Keep.refl (fun _ => False) w).alloc _).alloc _).trans k2 (fun _ _ f => f)).trans k3 (fun b hb e => by omega)

set_option maxRecDepth 100000 in
set_option maxHeartbeats 8000000 in
theorem RRead_yes (w : World) {A : Option Addr} {n c : Nat} {l : List Int} (hr : Rd w 1 A n (iv .u8 l)) (hb8 : Bytes8 l) (hc : n ≤ c) (he : kindL l = 68) :
    Calls Try.prog 26 #[.slice A n c] w (ReadPost w l) := by
  have HE := Lib.hid he; clear he
  have HB0 := Lib.hid ((Blk.new w 40 zeroC).alloc (.cells zeroC 40))
  have HB1 := Lib.hid (second_blk w)
  go_enter Try.func26, Try.ntmps26
  go_wp2_with (first | (go_at_call 43; refine (ROpen_yes _ 68 ((hr.alloc _).alloc _) hc hb8 (by decide) HE.out).mono ?_; rintro e w2 ⟨v2, rfl, hn2⟩; obtain ⟨A2, c2, rfl⟩ := hn2.1.shape; have HN2 := Lib.hid hn2; clear hn2))
  obtain ⟨g2, hcc, hA2⟩ : ∃ g2, 123 ≤ c2 ∧ A2 = some ⟨g2, 0, none⟩ := by
    rcases HN2.out.1.2 with ⟨_, h0⟩ | ⟨g, cap, cur, hv, _, _, hnc, _⟩
    · omega
    · injection hv with e1 e2 e3
      exact ⟨g, by omega, e1⟩
  subst hA2
  have hs2 : w.heap.size + 1 < w2.heap.size := by have := HN2.out.2.1.size; simp at this; omega
  have hgg : w.heap.size + 2 ≤ g2 := by have := HN2.out.2.2 g2 rfl; simp at this; omega
  have HF2 : Hid (Fresh w w2) := ((((Keep.refl (fun _ => False) w).alloc _).alloc _).trans HN2.out.2.1 (fun _ _ f => f))
  have HG1 := Lib.hid (HB0.out.fresh HN2.out.2.1)
  go_loopw [7] (fun i wr => ∃ (k : Int), (k = 0 ∨ k = 1 ∨ k = 2 ∨ k = 3 ∨ k = 4) ∧ i = .int .i64 k ∧ Hid (Blk wr (w.heap.size + 1) 40 (gotD (bodyOf l) k)) ∧ Hid (Keep (fun b => b = w.heap.size + 1) w2 wr)) (fun i _ => 4 - (intOf i).toNat)
  case atStart => exact ⟨0, by omega, rfl, HB1.out.fresh HN2.out.2.1, Keep.refl _ _⟩
  case round =>
    obtain ⟨k, hk, rfl, HB, HK⟩ := hrel
    have hne : ∀ ad, (some ⟨g2, 0, none⟩ : Option Addr) = some ad → ad.block ≠ w.heap.size + 1 := fun ad e => by
      cases e
      exact fun h => by simp only at h; omega
    have HNE := Lib.hid hne; clear hne
    have hbl := own_keep HN2.out.1 HK.out (fun k hk e => by have h := Option.some.inj (show some g2 = some k from hk); omega)
    have hrd := Lib.hid (Rd.of_own hbl)
    clear hbl
    obtain ⟨bd, hbd⟩ : ∃ bd, bodyOf l = bd := ⟨_, rfl⟩
    rw [hbd] at hrd HB
    have cn0 : ¬ c2 = 0 := by omega
    have cn1 : ¬ c2 = 28 := by omega
    have cn2 : ¬ c2 = 56 := by omega
    have cn3 : ¬ c2 = 84 := by omega
    have cl0 : (123 : Int) ≤ (c2 : Int) := by omega
    have HBB : Hid (∀ j, 0 ≤ bd.getD j 0 ∧ bd.getD j 0 < 256) := fun j => by rw [← hbd]; exact getD_bytes (bodyOf_bytes hb8) j
    have HBD := Lib.hid hbd; clear hbd
    obtain rfl | rfl | rfl | rfl | rfl := hk
    · obtain ⟨y0, hy0⟩ : ∃ y, bd.getD 0 0 = y := ⟨_, rfl⟩
      obtain ⟨y1, hy1⟩ : ∃ y, bd.getD 1 0 = y := ⟨_, rfl⟩
      obtain ⟨y2, hy2⟩ : ∃ y, bd.getD 2 0 = y := ⟨_, rfl⟩
      obtain ⟨y3, hy3⟩ : ∃ y, bd.getD 3 0 = y := ⟨_, rfl⟩
      have b0 := (HBB.out) 0
      rw [hy0] at b0
      have b1 := (HBB.out) 1
      rw [hy1] at b1
      have b2 := (HBB.out) 2
      rw [hy2] at b2
      have b3 := (HBB.out) 3
      rw [hy3] at b3
      have HY0 := Lib.hid hy0; clear hy0
      have HY1 := Lib.hid hy1; clear hy1
      have HY2 := Lib.hid hy2; clear hy2
      have HY3 := Lib.hid hy3; clear hy3
      obtain ⟨m, hm⟩ : ∃ m, m = min y3.toNat 24 := ⟨_, rfl⟩
      have hmin : min y3 24 = (m : Int) := by omega
      have hm24 : (m : Int) ≤ 24 := by omega
      have hm0 : (0 : Int) ≤ m := by omega
      have v1 : IntKind.i64.wrap (4 + (m : Int)) = 4 + m := by rw [IntKind.wrap_i64]; omega
      have v2 : (4 : Int) ≤ 4 + m := by omega
      have v3 : 4 + (m : Int) ≤ (c2 : Int) := by omega
      have v4 : (4 + (m : Int)).toNat = 4 + m := by omega
      have v5 : ¬ c2 = 4 := by omega
      have HM := Lib.hid hm; clear hm
      have p0 : IntKind.i64.wrap y0 = y0 := by rw [IntKind.wrap_i64]; omega
      have p1 : IntKind.i64.wrap y1 = y1 := by rw [IntKind.wrap_i64]; omega
      have p2 : IntKind.i64.wrap y2 = y2 := by rw [IntKind.wrap_i64]; omega
      have p3 : IntKind.i64.wrap y3 = y3 := by rw [IntKind.wrap_i64]; omega
      have p4 : IntKind.i64.wrap (y0 * 256) = y0 * 256 := by rw [IntKind.wrap_i64]; omega
      have p5 := or_word b0 b1
      clear b0 b1 b2 b3
      go_wp2
      have s0 := Blk.at_ HB.out 0 rfl
      have s1 := Blk.at_ HB.out 1 rfl
      have s2 := Blk.at_ HB.out 2 rfl
      have z0 := Blk.frozen HB.out 0
      have z1 := Blk.frozen HB.out 1
      have z2 := Blk.frozen HB.out 2
      go_region_held3 (fun w' => w'.cell? ⟨g2, 0, none⟩ = some (.int .u8 y0) ∧ w'.cell? ⟨g2, 1, none⟩ = some (.int .u8 y1) ∧ w'.cell? ⟨g2, 2, none⟩ = some (.int .u8 y2) ∧ w'.cell? ⟨g2, 3, none⟩ = some (.int .u8 y3) ∧ (convert 24 9 (.slice (some ⟨g2, 4, none⟩) m (c2 - 4))).run Try.prog w' = .ok (.string (strOf ((bd.drop 4).take m))) w') (first | (exact read_limbs4 (Rd.drew hrd.out) 0 (by omega) HY0.out HY1.out HY2.out HY3.out) | (exact read_limbs4 (((hrd.out.setCell HNE.out _).setCell HNE.out _).setCell HNE.out _).drew 0 (by omega) HY0.out HY1.out HY2.out HY3.out)) (fail)
      have hB := ((HB.out.set_ 0 (.int .i64 (wordI y0 y1))).set_ 1 (.int .i64 y2)).set_ 2 (.string (strOf ((bd.drop 4).take m)))
      rw [got1 HY0.out HY1.out HY2.out HY3.out HM.out] at hB
      have HBN := Lib.hid hB; clear hB
      go_wp2
      go_round
      case rel => exact ⟨_, by omega, rfl, by rw [HBD.out]; exact HBN.out.drew, (((HK.out.setCell (fun _ => rfl) _).setCell (fun _ => rfl) _).setCell (fun _ => rfl) _).drew⟩
      case measure => simp [intOf]
    · obtain ⟨y0, hy0⟩ : ∃ y, bd.getD 28 0 = y := ⟨_, rfl⟩
      obtain ⟨y1, hy1⟩ : ∃ y, bd.getD 29 0 = y := ⟨_, rfl⟩
      obtain ⟨y2, hy2⟩ : ∃ y, bd.getD 30 0 = y := ⟨_, rfl⟩
      obtain ⟨y3, hy3⟩ : ∃ y, bd.getD 31 0 = y := ⟨_, rfl⟩
      have b0 := (HBB.out) 28
      rw [hy0] at b0
      have b1 := (HBB.out) 29
      rw [hy1] at b1
      have b2 := (HBB.out) 30
      rw [hy2] at b2
      have b3 := (HBB.out) 31
      rw [hy3] at b3
      have HY0 := Lib.hid hy0; clear hy0
      have HY1 := Lib.hid hy1; clear hy1
      have HY2 := Lib.hid hy2; clear hy2
      have HY3 := Lib.hid hy3; clear hy3
      obtain ⟨m, hm⟩ : ∃ m, m = min y3.toNat 24 := ⟨_, rfl⟩
      have hmin : min y3 24 = (m : Int) := by omega
      have hm24 : (m : Int) ≤ 24 := by omega
      have hm0 : (0 : Int) ≤ m := by omega
      have v1 : IntKind.i64.wrap (4 + (m : Int)) = 4 + m := by rw [IntKind.wrap_i64]; omega
      have v2 : (4 : Int) ≤ 4 + m := by omega
      have v3 : 4 + (m : Int) ≤ ((c2 - 28 : Nat) : Int) := by omega
      have v4 : (4 + (m : Int)).toNat = 4 + m := by omega
      have v5 : ¬ (c2 - 28) = 4 := by omega
      have HM := Lib.hid hm; clear hm
      have p0 : IntKind.i64.wrap y0 = y0 := by rw [IntKind.wrap_i64]; omega
      have p1 : IntKind.i64.wrap y1 = y1 := by rw [IntKind.wrap_i64]; omega
      have p2 : IntKind.i64.wrap y2 = y2 := by rw [IntKind.wrap_i64]; omega
      have p3 : IntKind.i64.wrap y3 = y3 := by rw [IntKind.wrap_i64]; omega
      have p4 : IntKind.i64.wrap (y0 * 256) = y0 * 256 := by rw [IntKind.wrap_i64]; omega
      have p5 := or_word b0 b1
      clear b0 b1 b2 b3
      go_wp2
      have s0 := Blk.at_ HB.out 3 rfl
      have s1 := Blk.at_ HB.out 4 rfl
      have s2 := Blk.at_ HB.out 5 rfl
      have z0 := Blk.frozen HB.out 3
      have z1 := Blk.frozen HB.out 4
      have z2 := Blk.frozen HB.out 5
      go_region_held3 (fun w' => w'.cell? ⟨g2, 28, none⟩ = some (.int .u8 y0) ∧ w'.cell? ⟨g2, 29, none⟩ = some (.int .u8 y1) ∧ w'.cell? ⟨g2, 30, none⟩ = some (.int .u8 y2) ∧ w'.cell? ⟨g2, 31, none⟩ = some (.int .u8 y3) ∧ (convert 24 9 (.slice (some ⟨g2, 32, none⟩) m ((c2 - 28) - 4))).run Try.prog w' = .ok (.string (strOf ((bd.drop 32).take m))) w') (first | (exact read_limbs4 (Rd.drew hrd.out) 28 (by omega) HY0.out HY1.out HY2.out HY3.out) | (exact read_limbs4 (((hrd.out.setCell HNE.out _).setCell HNE.out _).setCell HNE.out _).drew 28 (by omega) HY0.out HY1.out HY2.out HY3.out)) (fail)
      have hB := ((HB.out.set_ 3 (.int .i64 (wordI y0 y1))).set_ 4 (.int .i64 y2)).set_ 5 (.string (strOf ((bd.drop 32).take m)))
      rw [got2 HY0.out HY1.out HY2.out HY3.out HM.out] at hB
      have HBN := Lib.hid hB; clear hB
      go_wp2
      go_round
      case rel => exact ⟨_, by omega, rfl, by rw [HBD.out]; exact HBN.out.drew, (((HK.out.setCell (fun _ => rfl) _).setCell (fun _ => rfl) _).setCell (fun _ => rfl) _).drew⟩
      case measure => simp [intOf]
    · obtain ⟨y0, hy0⟩ : ∃ y, bd.getD 56 0 = y := ⟨_, rfl⟩
      obtain ⟨y1, hy1⟩ : ∃ y, bd.getD 57 0 = y := ⟨_, rfl⟩
      obtain ⟨y2, hy2⟩ : ∃ y, bd.getD 58 0 = y := ⟨_, rfl⟩
      obtain ⟨y3, hy3⟩ : ∃ y, bd.getD 59 0 = y := ⟨_, rfl⟩
      have b0 := (HBB.out) 56
      rw [hy0] at b0
      have b1 := (HBB.out) 57
      rw [hy1] at b1
      have b2 := (HBB.out) 58
      rw [hy2] at b2
      have b3 := (HBB.out) 59
      rw [hy3] at b3
      have HY0 := Lib.hid hy0; clear hy0
      have HY1 := Lib.hid hy1; clear hy1
      have HY2 := Lib.hid hy2; clear hy2
      have HY3 := Lib.hid hy3; clear hy3
      obtain ⟨m, hm⟩ : ∃ m, m = min y3.toNat 24 := ⟨_, rfl⟩
      have hmin : min y3 24 = (m : Int) := by omega
      have hm24 : (m : Int) ≤ 24 := by omega
      have hm0 : (0 : Int) ≤ m := by omega
      have v1 : IntKind.i64.wrap (4 + (m : Int)) = 4 + m := by rw [IntKind.wrap_i64]; omega
      have v2 : (4 : Int) ≤ 4 + m := by omega
      have v3 : 4 + (m : Int) ≤ ((c2 - 56 : Nat) : Int) := by omega
      have v4 : (4 + (m : Int)).toNat = 4 + m := by omega
      have v5 : ¬ (c2 - 56) = 4 := by omega
      have HM := Lib.hid hm; clear hm
      have p0 : IntKind.i64.wrap y0 = y0 := by rw [IntKind.wrap_i64]; omega
      have p1 : IntKind.i64.wrap y1 = y1 := by rw [IntKind.wrap_i64]; omega
      have p2 : IntKind.i64.wrap y2 = y2 := by rw [IntKind.wrap_i64]; omega
      have p3 : IntKind.i64.wrap y3 = y3 := by rw [IntKind.wrap_i64]; omega
      have p4 : IntKind.i64.wrap (y0 * 256) = y0 * 256 := by rw [IntKind.wrap_i64]; omega
      have p5 := or_word b0 b1
      clear b0 b1 b2 b3
      go_wp2
      have s0 := Blk.at_ HB.out 6 rfl
      have s1 := Blk.at_ HB.out 7 rfl
      have s2 := Blk.at_ HB.out 8 rfl
      have z0 := Blk.frozen HB.out 6
      have z1 := Blk.frozen HB.out 7
      have z2 := Blk.frozen HB.out 8
      go_region_held3 (fun w' => w'.cell? ⟨g2, 56, none⟩ = some (.int .u8 y0) ∧ w'.cell? ⟨g2, 57, none⟩ = some (.int .u8 y1) ∧ w'.cell? ⟨g2, 58, none⟩ = some (.int .u8 y2) ∧ w'.cell? ⟨g2, 59, none⟩ = some (.int .u8 y3) ∧ (convert 24 9 (.slice (some ⟨g2, 60, none⟩) m ((c2 - 56) - 4))).run Try.prog w' = .ok (.string (strOf ((bd.drop 60).take m))) w') (first | (exact read_limbs4 (Rd.drew hrd.out) 56 (by omega) HY0.out HY1.out HY2.out HY3.out) | (exact read_limbs4 (((hrd.out.setCell HNE.out _).setCell HNE.out _).setCell HNE.out _).drew 56 (by omega) HY0.out HY1.out HY2.out HY3.out)) (fail)
      have hB := ((HB.out.set_ 6 (.int .i64 (wordI y0 y1))).set_ 7 (.int .i64 y2)).set_ 8 (.string (strOf ((bd.drop 60).take m)))
      rw [got3 HY0.out HY1.out HY2.out HY3.out HM.out] at hB
      have HBN := Lib.hid hB; clear hB
      go_wp2
      go_round
      case rel => exact ⟨_, by omega, rfl, by rw [HBD.out]; exact HBN.out.drew, (((HK.out.setCell (fun _ => rfl) _).setCell (fun _ => rfl) _).setCell (fun _ => rfl) _).drew⟩
      case measure => simp [intOf]
    · obtain ⟨y0, hy0⟩ : ∃ y, bd.getD 84 0 = y := ⟨_, rfl⟩
      obtain ⟨y1, hy1⟩ : ∃ y, bd.getD 85 0 = y := ⟨_, rfl⟩
      obtain ⟨y2, hy2⟩ : ∃ y, bd.getD 86 0 = y := ⟨_, rfl⟩
      obtain ⟨y3, hy3⟩ : ∃ y, bd.getD 87 0 = y := ⟨_, rfl⟩
      have b0 := (HBB.out) 84
      rw [hy0] at b0
      have b1 := (HBB.out) 85
      rw [hy1] at b1
      have b2 := (HBB.out) 86
      rw [hy2] at b2
      have b3 := (HBB.out) 87
      rw [hy3] at b3
      have HY0 := Lib.hid hy0; clear hy0
      have HY1 := Lib.hid hy1; clear hy1
      have HY2 := Lib.hid hy2; clear hy2
      have HY3 := Lib.hid hy3; clear hy3
      obtain ⟨m, hm⟩ : ∃ m, m = min y3.toNat 24 := ⟨_, rfl⟩
      have hmin : min y3 24 = (m : Int) := by omega
      have hm24 : (m : Int) ≤ 24 := by omega
      have hm0 : (0 : Int) ≤ m := by omega
      have v1 : IntKind.i64.wrap (4 + (m : Int)) = 4 + m := by rw [IntKind.wrap_i64]; omega
      have v2 : (4 : Int) ≤ 4 + m := by omega
      have v3 : 4 + (m : Int) ≤ ((c2 - 84 : Nat) : Int) := by omega
      have v4 : (4 + (m : Int)).toNat = 4 + m := by omega
      have v5 : ¬ (c2 - 84) = 4 := by omega
      have HM := Lib.hid hm; clear hm
      have p0 : IntKind.i64.wrap y0 = y0 := by rw [IntKind.wrap_i64]; omega
      have p1 : IntKind.i64.wrap y1 = y1 := by rw [IntKind.wrap_i64]; omega
      have p2 : IntKind.i64.wrap y2 = y2 := by rw [IntKind.wrap_i64]; omega
      have p3 : IntKind.i64.wrap y3 = y3 := by rw [IntKind.wrap_i64]; omega
      have p4 : IntKind.i64.wrap (y0 * 256) = y0 * 256 := by rw [IntKind.wrap_i64]; omega
      have p5 := or_word b0 b1
      clear b0 b1 b2 b3
      go_wp2
      have s0 := Blk.at_ HB.out 9 rfl
      have s1 := Blk.at_ HB.out 10 rfl
      have s2 := Blk.at_ HB.out 11 rfl
      have z0 := Blk.frozen HB.out 9
      have z1 := Blk.frozen HB.out 10
      have z2 := Blk.frozen HB.out 11
      go_region_held3 (fun w' => w'.cell? ⟨g2, 84, none⟩ = some (.int .u8 y0) ∧ w'.cell? ⟨g2, 85, none⟩ = some (.int .u8 y1) ∧ w'.cell? ⟨g2, 86, none⟩ = some (.int .u8 y2) ∧ w'.cell? ⟨g2, 87, none⟩ = some (.int .u8 y3) ∧ (convert 24 9 (.slice (some ⟨g2, 88, none⟩) m ((c2 - 84) - 4))).run Try.prog w' = .ok (.string (strOf ((bd.drop 88).take m))) w') (first | (exact read_limbs4 (Rd.drew hrd.out) 84 (by omega) HY0.out HY1.out HY2.out HY3.out) | (exact read_limbs4 (((hrd.out.setCell HNE.out _).setCell HNE.out _).setCell HNE.out _).drew 84 (by omega) HY0.out HY1.out HY2.out HY3.out)) (fail)
      have hB := ((HB.out.set_ 9 (.int .i64 (wordI y0 y1))).set_ 10 (.int .i64 y2)).set_ 11 (.string (strOf ((bd.drop 88).take m)))
      rw [got4 HY0.out HY1.out HY2.out HY3.out HM.out] at hB
      have HBN := Lib.hid hB; clear hB
      go_wp2
      go_round
      case rel => exact ⟨_, by omega, rfl, by rw [HBD.out]; exact HBN.out.drew, (((HK.out.setCell (fun _ => rfl) _).setCell (fun _ => rfl) _).setCell (fun _ => rfl) _).drew⟩
      case measure => simp [intOf]
    · have hF : Fresh w wr := HF2.out.trans HK.out (fun b hb e => by omega)
      have hlr := hr.fresh hF
      have hG1 : Blk wr w.heap.size 40 zeroC := HG1.out.keep HK.out (fun e => by omega)
      have HG := Lib.hid hG1; clear hG1
      have HF := Lib.hid hF; clear hF
      have n0 := dec_size bd 0
      have n1 := dec_size bd 1
      have n2 := dec_size bd 2
      have n3 := dec_size bd 3
      have hB : Blk wr (w.heap.size + 1) 40 (sltsC (decD bd 0) (decD bd 1) (decD bd 2) (decD bd 3)) := HB.out
      obtain ⟨d0, h0⟩ : ∃ d, decD bd 0 = d := ⟨_, rfl⟩
      obtain ⟨d1, h1⟩ : ∃ d, decD bd 1 = d := ⟨_, rfl⟩
      obtain ⟨d2, h2⟩ : ∃ d, decD bd 2 = d := ⟨_, rfl⟩
      obtain ⟨d3, h3⟩ : ∃ d, decD bd 3 = d := ⟨_, rfl⟩
      rw [h0, h1, h2, h3] at hB
      rw [h0] at n0
      rw [h1] at n1
      rw [h2] at n2
      rw [h3] at n3
      have HB4 := Lib.hid hB; clear hB
      have H0 := Lib.hid h0; clear h0
      have H1 := Lib.hid h1; clear h1
      have H2 := Lib.hid h2; clear h2
      have H3 := Lib.hid h3; clear h3
      by_cases hok : layOkB d0 d1 d2 d3 = true
      · have HOK := Lib.hid hok; clear hok
        go_wp2_with (first | (refine wpList_load_blk HB4.out rfl 40 (.tmp 4) rfl rfl arr_und rfl arr_size ?_) | (refine wpList_load_blk (HB4.out.fresh H4.out.2.1) rfl 40 (.tmp 4) rfl rfl arr_und rfl arr_size ?_) | (go_at_call 24; refine (RLay_calls d0 d1 d2 d3 _).mono ?_; rintro e w4 (⟨hno, -, -⟩ | ⟨-, v4, rfl, h4⟩); (exact absurd HOK.out (by rw [hno]; decide)); obtain ⟨A4, c4, rfl⟩ := h4.1.shape; have hcv1 := run_conv (c := c4) (Rd.of_own h4.1); have hcv2 := run_conv (c := c) (hlr.fresh h4.2.1); have HS8 := Lib.hid (seal_bytes (k := 68) (by omega) (bodyD_bytes n0 n1 n2 n3)); have H4 := Lib.hid h4; clear h4) | (refine wpList_store_blk (HG.out.fresh H4.out.2.1) rfl 40 (.tmp 2) (.tmp 67) rfl 0 (sltsC d0 d1 d2 d3) rfl rfl (by simp [zeroC, sltsC]) arr_size (one_slts _ _ _ _) ?_; intro w6 hb6 k6) | (refine wpList_store_blk (HG.out.fresh H4.out.2.1) rfl 40 (.tmp 2) (.tmp 66) rfl 0 (sltsC Slt.zero Slt.zero Slt.zero Slt.zero) rfl rfl (by simp [zeroC, sltsC]) arr_size (one_slts _ _ _ _) ?_; intro w6 hb6 k6))
        · (try simp only [Exit.inBlock, Exit.then])
          have hs : sealL 68 (bodyD d0 d1 d2 d3) ≠ l := str_ne HS8.out hb8 (by assumption)
          refine ret_cell (cs := sltsC Slt.zero Slt.zero Slt.zero Slt.zero) (by have := hb6.out; rwa [lay_zero] at this) rfl rfl rfl rfl arr_und rfl arr_size ?_
          exact read_bad HBD.out H0.out H1.out H2.out H3.out (fun h => hs h.2) rfl ((HF.out.trans H4.out.2.1 (fun _ _ f => f)).trans k6 (fun b hb e => by omega))
        · (try simp only [Exit.inBlock, Exit.then])
          have hs : sealL 68 (bodyD d0 d1 d2 d3) = l := str_eq HS8.out hb8 (by assumption)
          refine ret_cell (cs := sltsC d0 d1 d2 d3) (by have := hb6.out; rwa [lay_zero] at this) rfl rfl rfl rfl arr_und rfl arr_size ?_
          exact read_good HE.out HBD.out H0.out H1.out H2.out H3.out HOK.out hs rfl ((HF.out.trans H4.out.2.1 (fun _ _ f => f)).trans k6 (fun b hb e => by omega))
      · have HOK := Lib.hid hok; clear hok
        go_wp2_with (first | (refine wpList_load_blk HB4.out rfl 40 (.tmp 4) rfl rfl arr_und rfl arr_size ?_) | (go_at_call 24; refine (RLay_calls d0 d1 d2 d3 _).mono ?_; rintro e w4 (⟨-, rfl, h4⟩ | ⟨hyes, -⟩); rotate_left; (exact absurd hyes HOK.out)) | (refine wpList_store_blk (HG.out.fresh h4) rfl 40 (.tmp 2) (.tmp 66) rfl 0 (sltsC Slt.zero Slt.zero Slt.zero Slt.zero) rfl rfl (by simp [zeroC, sltsC]) arr_size (one_slts _ _ _ _) ?_; intro w6 hb6 k6))
        (try simp only [Exit.inBlock, Exit.then])
        refine ret_cell (cs := sltsC Slt.zero Slt.zero Slt.zero Slt.zero) (by have := hb6.out; rwa [lay_zero] at this) rfl rfl rfl rfl arr_und rfl arr_size ?_
        exact read_bad HBD.out H0.out H1.out H2.out H3.out (fun h => HOK.out h.1) rfl ((HF.out.trans h4 (fun _ _ f => f)).trans k6 (fun b hb e => by omega))
theorem RRead_calls (w : World) {A : Option Addr} {n c : Nat} {l : List Int} (hr : Rd w 1 A n (iv .u8 l)) (hb8 : Bytes8 l) (hc : n ≤ c) : Calls Try.prog 26 #[.slice A n c] w (ReadPost w l) := by
  by_cases he : kindL l = 68
  · exact RRead_yes w hr hb8 hc he
  · exact (RRead_no w hr hb8 hc he).mono fun e w' h => .inr ⟨fun g => he g.1, h.1, h.2⟩
end Go.Proofs.Ytcjackjoonijnaa
