/-
  A block of slots: read; walked.
-/
import Derived.Test.YtcjackjoonijnaaDir5
import Derived.Test.YtcjackjoonijnaaArr1
import Derived.Laws.BitsAllLaws
namespace Go.Proofs.Ytcjackjoonijnaa
open Go.RowKit

def Slt.zero : Slt := ⟨0, 0, ⟨#[]⟩⟩
def zeroC : Array Value := sltsC Slt.zero Slt.zero Slt.zero Slt.zero
theorem one_slts (p q r s : Slt) : (sltsC p q r s).all (·.oneCell') = true := by simp [sltsC, Value.oneCell']
theorem arr_und : Try.prog.underlying 40 = some (.array 4 39) := by kernel_rfl
theorem arr_size : (Try.prog.info? 40).map (·.size) = some 12 := by kernel_rfl

set_option maxRecDepth 100000 in
set_option maxHeartbeats 4000000 in
theorem Read_no (w : World) {A : Option Addr} {n c : Nat} {l : List Int} (hr : Rd w 1 A n (iv .u8 l)) (hc : n ≤ c) (he : kindL l ≠ 68) :
    Calls Try.prog 25 #[.slice A n c] w fun e w' => e = .returned (.tuple #[sltsV Slt.zero Slt.zero Slt.zero Slt.zero, .int .i64 3]) ∧ Fresh w w' := by
  have HE := Lib.hid he; clear he
  have HB0 := Lib.hid (Blk.new w 40 zeroC)
  go_enter Try.func25, Try.ntmps25
  go_wp2_with (first | (go_at_call 39; refine (Open_no _ 68 (hr.alloc _) hc (by decide) HE.out).mono ?_; rintro e w2 ⟨rfl, k2⟩; have HB2 := Lib.hid (HB0.out.fresh k2)) | (refine wpList_store_blk HB2.out rfl 40 (.tmp 2) (.tmp 19) rfl 0 zeroC rfl rfl (by simp [zeroC, sltsC]) arr_size (one_slts _ _ _ _) ?_; intro w3 hb3 k3))
  (try simp only [Exit.inBlock, Exit.then])
  refine ret_cell hb3.out rfl rfl rfl rfl arr_und rfl arr_size ⟨rfl, ?_⟩
  exact (((Keep.refl (fun _ => False) w).alloc _).trans k2 (fun _ _ f => f)).trans k3 (fun b hb e => by omega)
/-- What a slot of a block's body reads as. -/
def wordI (x y : Int) : Int := x * 256 + y
def decD (bd : List Int) (k : Nat) : Slt := ⟨wordI (bd.getD (28 * k) 0) (bd.getD (28 * k + 1) 0), bd.getD (28 * k + 2) 0, strOf ((bd.drop (28 * k + 4)).take (min (bd.getD (28 * k + 3) 0).toNat 24))⟩
def gotD (bd : List Int) (k : Int) : Array Value := sltsC (if 1 ≤ k then decD bd 0 else Slt.zero) (if 2 ≤ k then decD bd 1 else Slt.zero) (if 3 ≤ k then decD bd 2 else Slt.zero) (if 4 ≤ k then decD bd 3 else Slt.zero)
theorem gotD0 (bd : List Int) : gotD bd 0 = zeroC := rfl
theorem gotD4 (bd : List Int) : gotD bd 4 = sltsC (decD bd 0) (decD bd 1) (decD bd 2) (decD bd 3) := rfl
theorem cut_str {w : World} {g : Nat} {bd : List Int} (hr : Rd w 1 (some ⟨g, 0, none⟩) 123 (iv .u8 bd)) (o m : Nat) (hm : o + m ≤ 123) : Rd w 1 (some ⟨g, o, none⟩) m (iv .u8 ((bd.drop o).take m)) := by
  by_cases h0 : o = 123
  · obtain rfl : m = 0 := by omega
    simpa [iv] using Rd.empty (w := w) (size := 1) (some ⟨g, o, none⟩)
  · have := (hr.cut (k := o) (cap := 124) (by omega) (by omega)).take (k := m) (by omega)
    rw [if_neg (by omega)] at this
    simpa [iv, List.map_take, List.map_drop, add_plain] using this
theorem ofInt_64 (a : Nat) (h : a < 18446744073709551616) : (BitVec.ofInt 64 (a : Int)).toNat = a := by
  rw [BitVec.toNat_ofInt]
  omega
theorem i64_or_nat (a b : Nat) (ha : a < 9223372036854775808) (hb : b < 9223372036854775808) : bits .or .i64 (a : Int) (b : Int) = ((a ||| b : Nat) : Int) := by
  have hx : a ||| b < 2 ^ 63 := Nat.or_lt_two_pow (by omega) (by omega)
  show IntKind.i64.wrap ((BitVec.ofInt 64 (a : Int) ||| BitVec.ofInt 64 (b : Int)).toNat : Int) = _
  rw [BitVec.toNat_or, ofInt_64 a (by omega), ofInt_64 b (by omega), IntKind.wrap_i64]
  omega
theorem or_word {x y : Int} (hx : 0 ≤ x ∧ x < 256) (hy : 0 ≤ y ∧ y < 256) : bits BinOp.or IntKind.i64 (x * 256) y = wordI x y := by
  obtain ⟨a, rfl⟩ := Int.eq_ofNat_of_zero_le hx.1
  obtain ⟨b, rfl⟩ := Int.eq_ofNat_of_zero_le hy.1
  have e : ((a : Int) * 256) = ((a * 256 : Nat) : Int) := by omega
  have h2 : a * 256 ||| b = a * 256 + b := by
    rw [show a * 256 = a <<< 8 from by rw [Nat.shiftLeft_eq]]
    exact (Nat.shiftLeft_add_eq_or_of_lt (i := 8) (by omega) a).symm
  rw [e, i64_or_nat (a * 256) b (by omega) (by omega), h2]
  unfold wordI
  omega
theorem wrap64_small {y : Int} (h : 0 ≤ y ∧ y < 256) : wrap64 y = y := by
  unfold wrap64; omega
theorem getD_bytes {l : List Int} (h : Bytes8 l) (j : Nat) : 0 ≤ l.getD j 0 ∧ l.getD j 0 < 256 := by
  rw [List.getD_eq_getElem?_getD]
  by_cases hj : j < l.length
  · rw [List.getElem?_eq_getElem hj]; exact h _ (List.getElem_mem hj)
  · rw [List.getElem?_eq_none (by omega)]; simp
theorem byte_at {w : World} {g : Nat} {bd : List Int} (hr : Rd w 1 (some ⟨g, 0, none⟩) 123 (iv .u8 bd)) (o : Nat) (ho : o < 123) {y : Int} (e : bd.getD o 0 = y) : w.cell? ⟨g, o, none⟩ = some (.int .u8 y) := by
  obtain ⟨ad, e1, h⟩ := hr.int (k := o) ho
  cases e1
  rw [add_plain, Nat.zero_add, e] at h
  exact h
theorem read_limbs {w : World} {g m c' : Nat} {bd : List Int} (hr : Rd w 1 (some ⟨g, 0, none⟩) 123 (iv .u8 bd)) (o : Nat) (hm : o + 4 + m ≤ 123) {y0 y1 y2 : Int} (e0 : bd.getD o 0 = y0) (e1 : bd.getD (o + 1) 0 = y1) (e2 : bd.getD (o + 2) 0 = y2) :
    w.cell? ⟨g, o, none⟩ = some (.int .u8 y0) ∧ w.cell? ⟨g, o + 1, none⟩ = some (.int .u8 y1) ∧ w.cell? ⟨g, o + 2, none⟩ = some (.int .u8 y2) ∧ (convert 24 9 (.slice (some ⟨g, o + 4, none⟩) m c')).run Try.prog w = .ok (.string (strOf ((bd.drop (o + 4)).take m))) w :=
  ⟨byte_at hr o (by omega) e0, byte_at hr (o + 1) (by omega) e1, byte_at hr (o + 2) (by omega) e2, run_conv (cut_str hr (o + 4) m hm)⟩
theorem got1 {bd : List Int} {y0 y1 y2 y3 : Int} {m : Nat} (e0 : bd.getD 0 0 = y0) (e1 : bd.getD 1 0 = y1) (e2 : bd.getD 2 0 = y2) (e3 : bd.getD 3 0 = y3) (hm : m = min y3.toNat 24) :
    (((gotD bd 0).setIfInBounds 0 (.int .i64 (wordI y0 y1))).setIfInBounds 1 (.int .i64 y2)).setIfInBounds 2 (.string (strOf ((bd.drop 4).take m))) = gotD bd (0 + 1) := by
  subst e0 e1 e2 e3 hm
  rfl
theorem got2 {bd : List Int} {y0 y1 y2 y3 : Int} {m : Nat} (e0 : bd.getD 28 0 = y0) (e1 : bd.getD 29 0 = y1) (e2 : bd.getD 30 0 = y2) (e3 : bd.getD 31 0 = y3) (hm : m = min y3.toNat 24) :
    (((gotD bd 1).setIfInBounds 3 (.int .i64 (wordI y0 y1))).setIfInBounds 4 (.int .i64 y2)).setIfInBounds 5 (.string (strOf ((bd.drop 32).take m))) = gotD bd (1 + 1) := by
  subst e0 e1 e2 e3 hm
  rfl
theorem got3 {bd : List Int} {y0 y1 y2 y3 : Int} {m : Nat} (e0 : bd.getD 56 0 = y0) (e1 : bd.getD 57 0 = y1) (e2 : bd.getD 58 0 = y2) (e3 : bd.getD 59 0 = y3) (hm : m = min y3.toNat 24) :
    (((gotD bd 2).setIfInBounds 6 (.int .i64 (wordI y0 y1))).setIfInBounds 7 (.int .i64 y2)).setIfInBounds 8 (.string (strOf ((bd.drop 60).take m))) = gotD bd (2 + 1) := by
  subst e0 e1 e2 e3 hm
  rfl
theorem got4 {bd : List Int} {y0 y1 y2 y3 : Int} {m : Nat} (e0 : bd.getD 84 0 = y0) (e1 : bd.getD 85 0 = y1) (e2 : bd.getD 86 0 = y2) (e3 : bd.getD 87 0 = y3) (hm : m = min y3.toNat 24) :
    (((gotD bd 3).setIfInBounds 9 (.int .i64 (wordI y0 y1))).setIfInBounds 10 (.int .i64 y2)).setIfInBounds 11 (.string (strOf ((bd.drop 88).take m))) = gotD bd (3 + 1) := by
  subst e0 e1 e2 e3 hm
  rfl
theorem dec_size (bd : List Int) (k : Nat) : (decD bd k).name.size ≤ 24 := by
  show (strOf _).size ≤ 24
  rw [← sb_len, show (sb (strOf ((bd.drop (28 * k + 4)).take (min (bd.getD (28 * k + 3) 0).toNat 24)))).length = (strOf ((bd.drop (28 * k + 4)).take (min (bd.getD (28 * k + 3) 0).toNat 24))).data.size from sb_len _]
  simp [strOf]
  omega
def goodD (l : List Int) : Prop := kindL l = 68 ∧ layOkB (decD (bodyOf l) 0) (decD (bodyOf l) 1) (decD (bodyOf l) 2) (decD (bodyOf l) 3) = true ∧ sealL 68 (bodyD (decD (bodyOf l) 0) (decD (bodyOf l) 1) (decD (bodyOf l) 2) (decD (bodyOf l) 3)) = l
def ReadPost (w : World) (l : List Int) (e : Ending) (w' : World) : Prop :=
  (goodD l ∧ e = .returned (.tuple #[sltsV (decD (bodyOf l) 0) (decD (bodyOf l) 1) (decD (bodyOf l) 2) (decD (bodyOf l) 3), .int .i64 0]) ∧ Fresh w w') ∨ (¬ goodD l ∧ e = .returned (.tuple #[sltsV Slt.zero Slt.zero Slt.zero Slt.zero, .int .i64 3]) ∧ Fresh w w')
theorem lay_zero (a b c d : Slt) : layC zeroC 0 (sltsC a b c d).toList = sltsC a b c d := by simp [layC, zeroC, sltsC]
section
variable {w w' : World} {l bd : List Int} {e : Ending} {a b c d : Slt}
theorem read_good (hk : kindL l = 68) (hb : bodyOf l = bd) (h0 : decD bd 0 = a) (h1 : decD bd 1 = b) (h2 : decD bd 2 = c) (h3 : decD bd 3 = d) (ho : layOkB a b c d = true) (hs : sealL 68 (bodyD a b c d) = l) (he : e = .returned (.tuple #[sltsV a b c d, .int .i64 0])) (hf : Fresh w w') : ReadPost w l e w' := by
  subst h0 h1 h2 h3 hb
  exact .inl ⟨⟨hk, ho, hs⟩, he, hf⟩
theorem read_bad (hb : bodyOf l = bd) (h0 : decD bd 0 = a) (h1 : decD bd 1 = b) (h2 : decD bd 2 = c) (h3 : decD bd 3 = d) (hn : ¬ (layOkB a b c d = true ∧ sealL 68 (bodyD a b c d) = l)) (he : e = .returned (.tuple #[sltsV Slt.zero Slt.zero Slt.zero Slt.zero, .int .i64 3])) (hf : Fresh w w') : ReadPost w l e w' := by
  subst h0 h1 h2 h3 hb
  exact .inr ⟨fun h => hn ⟨h.2.1, h.2.2⟩, he, hf⟩
end
theorem laid_bytes {x : Slt} (h : x.name.size ≤ 24) : Bytes8 (laidL x) := by
  intro y hy
  unfold laidL headL at hy
  rw [List.append_assoc, List.mem_append, List.mem_append] at hy
  rcases hy with hy | hy | hy
  · simp only [List.mem_cons, List.not_mem_nil, or_false] at hy
    rcases hy with rfl | rfl | rfl | rfl <;> omega
  · exact sb_range _ y hy
  · have := (List.mem_replicate.1 hy).2
    omega
theorem bodyD_bytes {a b c d : Slt} (ha : a.name.size ≤ 24) (hb : b.name.size ≤ 24) (hc : c.name.size ≤ 24) (hd : d.name.size ≤ 24) : Bytes8 (bodyD a b c d) := by
  intro y hy
  unfold bodyD at hy
  rcases List.mem_append.1 hy with hy | hy
  · rcases List.mem_append.1 hy with hy | hy
    · rcases List.mem_append.1 hy with hy | hy
      · exact laid_bytes ha y hy
      · exact laid_bytes hb y hy
    · exact laid_bytes hc y hy
  · exact laid_bytes hd y hy
set_option maxRecDepth 100000 in
set_option maxHeartbeats 4000000 in
theorem Read_yes (w : World) {A : Option Addr} {n c : Nat} {l : List Int} (hr : Rd w 1 A n (iv .u8 l)) (hb8 : Bytes8 l) (hc : n ≤ c) (he : kindL l = 68) :
    Calls Try.prog 25 #[.slice A n c] w (ReadPost w l) := by
  have HE := Lib.hid he; clear he
  have HB0 := Lib.hid (Blk.new w 40 zeroC)
  go_enter Try.func25, Try.ntmps25
  go_wp2_with (first | (go_at_call 39; refine (Open_yes _ 68 (hr.alloc _) hc (by decide) HE.out).mono ?_; rintro e w2 ⟨v2, rfl, hn2⟩; obtain ⟨A2, c2, rfl⟩ := hn2.1.shape; have HN2 := Lib.hid hn2; clear hn2))
  obtain ⟨g2, hcc, hA2⟩ : ∃ g2, 123 ≤ c2 ∧ A2 = some ⟨g2, 0, none⟩ := by
    rcases HN2.out.1.2 with ⟨_, h0⟩ | ⟨g, cap, cur, hv, _, _, hnc, _⟩
    · omega
    · injection hv with e1 e2 e3
      exact ⟨g, by omega, e1⟩
  subst hA2
  have hF2 : Fresh w w2 := ((Keep.refl (fun _ => False) w).alloc _).trans HN2.out.2.1 (fun _ _ f => f)
  have HF2 := Lib.hid hF2; clear hF2
  have HG1 := Lib.hid ((HB0.out.fresh HN2.out.2.1).alloc (.cells zeroC 40))
  go_loopw [20] (fun i wr => ∃ (k : Int), (k = 0 ∨ k = 1 ∨ k = 2 ∨ k = 3 ∨ k = 4) ∧ i = .int .i64 k ∧ Hid (Blk wr w2.heap.size 40 (gotD (bodyOf l) k)) ∧ Hid (Keep (fun b => b = w2.heap.size) (w2.alloc (.cells zeroC 40)) wr)) (fun i _ => 4 - (intOf i).toNat)
  case atStart => exact ⟨0, by omega, rfl, Blk.new _ _ _, Keep.refl _ _⟩
  case round =>
    obtain ⟨k, hk, rfl, HB, HK⟩ := hrel
    have hne : ∀ ad, (some ⟨g2, 0, none⟩ : Option Addr) = some ad → ad.block ≠ w2.heap.size := fun ad e => by
      have := own_lt HN2.out.1 (k := g2) rfl
      cases e
      exact fun h => by simp only at h; omega
    have HNE := Lib.hid hne; clear hne
    have hbl := own_keep (HN2.out.1.alloc (.cells zeroC 40)) HK.out (fun k hk e => by have := own_lt HN2.out.1 hk; omega)
    have hrd := Lib.hid (Rd.of_own hbl)
    clear hbl
    have hdec0 : bodyOf l = bodyOf l := rfl
    obtain ⟨bd, hbd⟩ : ∃ bd, bodyOf l = bd := ⟨_, rfl⟩
    rw [hbd] at hrd HB
    clear hdec0
    have cn0 : ¬ c2 = 0 := by omega
    have cn1 : ¬ c2 = 28 := by omega
    have cn2 : ¬ c2 = 56 := by omega
    have cn3 : ¬ c2 = 84 := by omega
    have cl1 : (28 : Int) ≤ (c2 : Int) := by omega
    have cl2 : (56 : Int) ≤ (c2 : Int) := by omega
    have cl3 : (84 : Int) ≤ (c2 : Int) := by omega
    have cl4 : (112 : Int) ≤ (c2 : Int) := by omega
    have HBB : Hid (∀ j, 0 ≤ bd.getD j 0 ∧ bd.getD j 0 < 256) := fun j => by rw [← hbd]; exact getD_bytes (bodyOf_bytes hb8) j
    have HBD := Lib.hid hbd; clear hbd
    obtain rfl | rfl | rfl | rfl | rfl := hk
    · obtain ⟨y0, hy0⟩ : ∃ y, bd.getD 0 0 = y := ⟨_, rfl⟩
      obtain ⟨y1, hy1⟩ : ∃ y, bd.getD 1 0 = y := ⟨_, rfl⟩
      obtain ⟨y2, hy2⟩ : ∃ y, bd.getD 2 0 = y := ⟨_, rfl⟩
      obtain ⟨y3, hy3⟩ : ∃ y, bd.getD 3 0 = y := ⟨_, rfl⟩
      have b0 := (HBB.out) 0
      rw [hy0] at b0
      have b1 := (HBB.out) 1
      rw [hy1] at b1
      have b2 := (HBB.out) 2
      rw [hy2] at b2
      have b3 := (HBB.out) 3
      rw [hy3] at b3
      have h3 := byte_at hrd.out 3 (by omega) hy3
      have HY0 := Lib.hid hy0; clear hy0
      have HY1 := Lib.hid hy1; clear hy1
      have HY2 := Lib.hid hy2; clear hy2
      have HY3 := Lib.hid hy3; clear hy3
      have w3 : wrap64 y3 = y3 := wrap64_small b3
      obtain ⟨m, hm⟩ : ∃ m, m = min y3.toNat 24 := ⟨_, rfl⟩
      have hmin : min y3 24 = (m : Int) := by omega
      have hm24 : (m : Int) ≤ 24 := by omega
      have hm0 : (0 : Int) ≤ m := by omega
      have v1 : IntKind.i64.wrap (4 + (m : Int)) = 4 + m := by rw [IntKind.wrap_i64]; omega
      have v2 : (4 : Int) ≤ 4 + m := by omega
      have v3 : 4 + (m : Int) ≤ (c2 : Int) := by omega
      have v4 : (4 + (m : Int)).toNat = 4 + m := by omega
      have v5 : ¬ c2 = 4 := by omega
      have HM := Lib.hid hm; clear hm
      have p0 : IntKind.i64.wrap y0 = y0 := by rw [IntKind.wrap_i64]; omega
      have p1 : IntKind.i64.wrap y1 = y1 := by rw [IntKind.wrap_i64]; omega
      have p2 : IntKind.i64.wrap y2 = y2 := by rw [IntKind.wrap_i64]; omega
      have p4 : IntKind.i64.wrap (y0 * 256) = y0 * 256 := by rw [IntKind.wrap_i64]; omega
      have p5 := or_word b0 b1
      clear b0 b1 b2 b3
      go_wp2
      have s0 := Blk.at_ HB.out 0 rfl
      have s1 := Blk.at_ HB.out 1 rfl
      have s2 := Blk.at_ HB.out 2 rfl
      have z0 := Blk.frozen HB.out 0
      have z1 := Blk.frozen HB.out 1
      have z2 := Blk.frozen HB.out 2
      go_region_held3 (fun w' => w'.cell? ⟨g2, 0, none⟩ = some (.int .u8 y0) ∧ w'.cell? ⟨g2, 1, none⟩ = some (.int .u8 y1) ∧ w'.cell? ⟨g2, 2, none⟩ = some (.int .u8 y2) ∧ (convert 24 9 (.slice (some ⟨g2, 4, none⟩) m (c2 - 4))).run Try.prog w' = .ok (.string (strOf ((bd.drop 4).take m))) w') (first | (exact read_limbs (Rd.drew hrd.out) 0 (by omega) HY0.out HY1.out HY2.out) | (exact read_limbs (((hrd.out.setCell HNE.out _).setCell HNE.out _).setCell HNE.out _).drew 0 (by omega) HY0.out HY1.out HY2.out)) (fail)
      have hB := ((HB.out.set_ 0 (.int .i64 (wordI y0 y1))).set_ 1 (.int .i64 y2)).set_ 2 (.string (strOf ((bd.drop 4).take m)))
      rw [got1 HY0.out HY1.out HY2.out HY3.out HM.out] at hB
      have HBN := Lib.hid hB; clear hB
      go_wp2
      go_round
      case rel => exact ⟨_, by omega, rfl, by rw [HBD.out]; exact HBN.out.drew, (((HK.out.setCell (fun _ => rfl) _).setCell (fun _ => rfl) _).setCell (fun _ => rfl) _).drew⟩
      case measure => simp [intOf]
    · obtain ⟨y0, hy0⟩ : ∃ y, bd.getD 28 0 = y := ⟨_, rfl⟩
      obtain ⟨y1, hy1⟩ : ∃ y, bd.getD 29 0 = y := ⟨_, rfl⟩
      obtain ⟨y2, hy2⟩ : ∃ y, bd.getD 30 0 = y := ⟨_, rfl⟩
      obtain ⟨y3, hy3⟩ : ∃ y, bd.getD 31 0 = y := ⟨_, rfl⟩
      have b0 := (HBB.out) 28
      rw [hy0] at b0
      have b1 := (HBB.out) 29
      rw [hy1] at b1
      have b2 := (HBB.out) 30
      rw [hy2] at b2
      have b3 := (HBB.out) 31
      rw [hy3] at b3
      have h3 := byte_at hrd.out 31 (by omega) hy3
      have HY0 := Lib.hid hy0; clear hy0
      have HY1 := Lib.hid hy1; clear hy1
      have HY2 := Lib.hid hy2; clear hy2
      have HY3 := Lib.hid hy3; clear hy3
      have w3 : wrap64 y3 = y3 := wrap64_small b3
      obtain ⟨m, hm⟩ : ∃ m, m = min y3.toNat 24 := ⟨_, rfl⟩
      have hmin : min y3 24 = (m : Int) := by omega
      have hm24 : (m : Int) ≤ 24 := by omega
      have hm0 : (0 : Int) ≤ m := by omega
      have v1 : IntKind.i64.wrap (4 + (m : Int)) = 4 + m := by rw [IntKind.wrap_i64]; omega
      have v2 : (4 : Int) ≤ 4 + m := by omega
      have v3 : 4 + (m : Int) ≤ ((c2 - 28 : Nat) : Int) := by omega
      have v4 : (4 + (m : Int)).toNat = 4 + m := by omega
      have v5 : ¬ (c2 - 28) = 4 := by omega
      have HM := Lib.hid hm; clear hm
      have p0 : IntKind.i64.wrap y0 = y0 := by rw [IntKind.wrap_i64]; omega
      have p1 : IntKind.i64.wrap y1 = y1 := by rw [IntKind.wrap_i64]; omega
      have p2 : IntKind.i64.wrap y2 = y2 := by rw [IntKind.wrap_i64]; omega
      have p4 : IntKind.i64.wrap (y0 * 256) = y0 * 256 := by rw [IntKind.wrap_i64]; omega
      have p5 := or_word b0 b1
      clear b0 b1 b2 b3
      go_wp2
      have s0 := Blk.at_ HB.out 3 rfl
      have s1 := Blk.at_ HB.out 4 rfl
      have s2 := Blk.at_ HB.out 5 rfl
      have z0 := Blk.frozen HB.out 3
      have z1 := Blk.frozen HB.out 4
      have z2 := Blk.frozen HB.out 5
      go_region_held3 (fun w' => w'.cell? ⟨g2, 28, none⟩ = some (.int .u8 y0) ∧ w'.cell? ⟨g2, 29, none⟩ = some (.int .u8 y1) ∧ w'.cell? ⟨g2, 30, none⟩ = some (.int .u8 y2) ∧ (convert 24 9 (.slice (some ⟨g2, 32, none⟩) m ((c2 - 28) - 4))).run Try.prog w' = .ok (.string (strOf ((bd.drop 32).take m))) w') (first | (exact read_limbs (Rd.drew hrd.out) 28 (by omega) HY0.out HY1.out HY2.out) | (exact read_limbs (((hrd.out.setCell HNE.out _).setCell HNE.out _).setCell HNE.out _).drew 28 (by omega) HY0.out HY1.out HY2.out)) (fail)
      have hB := ((HB.out.set_ 3 (.int .i64 (wordI y0 y1))).set_ 4 (.int .i64 y2)).set_ 5 (.string (strOf ((bd.drop 32).take m)))
      rw [got2 HY0.out HY1.out HY2.out HY3.out HM.out] at hB
      have HBN := Lib.hid hB; clear hB
      go_wp2
      go_round
      case rel => exact ⟨_, by omega, rfl, by rw [HBD.out]; exact HBN.out.drew, (((HK.out.setCell (fun _ => rfl) _).setCell (fun _ => rfl) _).setCell (fun _ => rfl) _).drew⟩
      case measure => simp [intOf]
    · obtain ⟨y0, hy0⟩ : ∃ y, bd.getD 56 0 = y := ⟨_, rfl⟩
      obtain ⟨y1, hy1⟩ : ∃ y, bd.getD 57 0 = y := ⟨_, rfl⟩
      obtain ⟨y2, hy2⟩ : ∃ y, bd.getD 58 0 = y := ⟨_, rfl⟩
      obtain ⟨y3, hy3⟩ : ∃ y, bd.getD 59 0 = y := ⟨_, rfl⟩
      have b0 := (HBB.out) 56
      rw [hy0] at b0
      have b1 := (HBB.out) 57
      rw [hy1] at b1
      have b2 := (HBB.out) 58
      rw [hy2] at b2
      have b3 := (HBB.out) 59
      rw [hy3] at b3
      have h3 := byte_at hrd.out 59 (by omega) hy3
      have HY0 := Lib.hid hy0; clear hy0
      have HY1 := Lib.hid hy1; clear hy1
      have HY2 := Lib.hid hy2; clear hy2
      have HY3 := Lib.hid hy3; clear hy3
      have w3 : wrap64 y3 = y3 := wrap64_small b3
      obtain ⟨m, hm⟩ : ∃ m, m = min y3.toNat 24 := ⟨_, rfl⟩
      have hmin : min y3 24 = (m : Int) := by omega
      have hm24 : (m : Int) ≤ 24 := by omega
      have hm0 : (0 : Int) ≤ m := by omega
      have v1 : IntKind.i64.wrap (4 + (m : Int)) = 4 + m := by rw [IntKind.wrap_i64]; omega
      have v2 : (4 : Int) ≤ 4 + m := by omega
      have v3 : 4 + (m : Int) ≤ ((c2 - 56 : Nat) : Int) := by omega
      have v4 : (4 + (m : Int)).toNat = 4 + m := by omega
      have v5 : ¬ (c2 - 56) = 4 := by omega
      have HM := Lib.hid hm; clear hm
      have p0 : IntKind.i64.wrap y0 = y0 := by rw [IntKind.wrap_i64]; omega
      have p1 : IntKind.i64.wrap y1 = y1 := by rw [IntKind.wrap_i64]; omega
      have p2 : IntKind.i64.wrap y2 = y2 := by rw [IntKind.wrap_i64]; omega
      have p4 : IntKind.i64.wrap (y0 * 256) = y0 * 256 := by rw [IntKind.wrap_i64]; omega
      have p5 := or_word b0 b1
      clear b0 b1 b2 b3
      go_wp2
      have s0 := Blk.at_ HB.out 6 rfl
      have s1 := Blk.at_ HB.out 7 rfl
      have s2 := Blk.at_ HB.out 8 rfl
      have z0 := Blk.frozen HB.out 6
      have z1 := Blk.frozen HB.out 7
      have z2 := Blk.frozen HB.out 8
      go_region_held3 (fun w' => w'.cell? ⟨g2, 56, none⟩ = some (.int .u8 y0) ∧ w'.cell? ⟨g2, 57, none⟩ = some (.int .u8 y1) ∧ w'.cell? ⟨g2, 58, none⟩ = some (.int .u8 y2) ∧ (convert 24 9 (.slice (some ⟨g2, 60, none⟩) m ((c2 - 56) - 4))).run Try.prog w' = .ok (.string (strOf ((bd.drop 60).take m))) w') (first | (exact read_limbs (Rd.drew hrd.out) 56 (by omega) HY0.out HY1.out HY2.out) | (exact read_limbs (((hrd.out.setCell HNE.out _).setCell HNE.out _).setCell HNE.out _).drew 56 (by omega) HY0.out HY1.out HY2.out)) (fail)
      have hB := ((HB.out.set_ 6 (.int .i64 (wordI y0 y1))).set_ 7 (.int .i64 y2)).set_ 8 (.string (strOf ((bd.drop 60).take m)))
      rw [got3 HY0.out HY1.out HY2.out HY3.out HM.out] at hB
      have HBN := Lib.hid hB; clear hB
      go_wp2
      go_round
      case rel => exact ⟨_, by omega, rfl, by rw [HBD.out]; exact HBN.out.drew, (((HK.out.setCell (fun _ => rfl) _).setCell (fun _ => rfl) _).setCell (fun _ => rfl) _).drew⟩
      case measure => simp [intOf]
    · obtain ⟨y0, hy0⟩ : ∃ y, bd.getD 84 0 = y := ⟨_, rfl⟩
      obtain ⟨y1, hy1⟩ : ∃ y, bd.getD 85 0 = y := ⟨_, rfl⟩
      obtain ⟨y2, hy2⟩ : ∃ y, bd.getD 86 0 = y := ⟨_, rfl⟩
      obtain ⟨y3, hy3⟩ : ∃ y, bd.getD 87 0 = y := ⟨_, rfl⟩
      have b0 := (HBB.out) 84
      rw [hy0] at b0
      have b1 := (HBB.out) 85
      rw [hy1] at b1
      have b2 := (HBB.out) 86
      rw [hy2] at b2
      have b3 := (HBB.out) 87
      rw [hy3] at b3
      have h3 := byte_at hrd.out 87 (by omega) hy3
      have HY0 := Lib.hid hy0; clear hy0
      have HY1 := Lib.hid hy1; clear hy1
      have HY2 := Lib.hid hy2; clear hy2
      have HY3 := Lib.hid hy3; clear hy3
      have w3 : wrap64 y3 = y3 := wrap64_small b3
      obtain ⟨m, hm⟩ : ∃ m, m = min y3.toNat 24 := ⟨_, rfl⟩
      have hmin : min y3 24 = (m : Int) := by omega
      have hm24 : (m : Int) ≤ 24 := by omega
      have hm0 : (0 : Int) ≤ m := by omega
      have v1 : IntKind.i64.wrap (4 + (m : Int)) = 4 + m := by rw [IntKind.wrap_i64]; omega
      have v2 : (4 : Int) ≤ 4 + m := by omega
      have v3 : 4 + (m : Int) ≤ ((c2 - 84 : Nat) : Int) := by omega
      have v4 : (4 + (m : Int)).toNat = 4 + m := by omega
      have v5 : ¬ (c2 - 84) = 4 := by omega
      have HM := Lib.hid hm; clear hm
      have p0 : IntKind.i64.wrap y0 = y0 := by rw [IntKind.wrap_i64]; omega
      have p1 : IntKind.i64.wrap y1 = y1 := by rw [IntKind.wrap_i64]; omega
      have p2 : IntKind.i64.wrap y2 = y2 := by rw [IntKind.wrap_i64]; omega
      have p4 : IntKind.i64.wrap (y0 * 256) = y0 * 256 := by rw [IntKind.wrap_i64]; omega
      have p5 := or_word b0 b1
      clear b0 b1 b2 b3
      go_wp2
      have s0 := Blk.at_ HB.out 9 rfl
      have s1 := Blk.at_ HB.out 10 rfl
      have s2 := Blk.at_ HB.out 11 rfl
      have z0 := Blk.frozen HB.out 9
      have z1 := Blk.frozen HB.out 10
      have z2 := Blk.frozen HB.out 11
      go_region_held3 (fun w' => w'.cell? ⟨g2, 84, none⟩ = some (.int .u8 y0) ∧ w'.cell? ⟨g2, 85, none⟩ = some (.int .u8 y1) ∧ w'.cell? ⟨g2, 86, none⟩ = some (.int .u8 y2) ∧ (convert 24 9 (.slice (some ⟨g2, 88, none⟩) m ((c2 - 84) - 4))).run Try.prog w' = .ok (.string (strOf ((bd.drop 88).take m))) w') (first | (exact read_limbs (Rd.drew hrd.out) 84 (by omega) HY0.out HY1.out HY2.out) | (exact read_limbs (((hrd.out.setCell HNE.out _).setCell HNE.out _).setCell HNE.out _).drew 84 (by omega) HY0.out HY1.out HY2.out)) (fail)
      have hB := ((HB.out.set_ 9 (.int .i64 (wordI y0 y1))).set_ 10 (.int .i64 y2)).set_ 11 (.string (strOf ((bd.drop 88).take m)))
      rw [got4 HY0.out HY1.out HY2.out HY3.out HM.out] at hB
      have HBN := Lib.hid hB; clear hB
      go_wp2
      go_round
      case rel => exact ⟨_, by omega, rfl, by rw [HBD.out]; exact HBN.out.drew, (((HK.out.setCell (fun _ => rfl) _).setCell (fun _ => rfl) _).setCell (fun _ => rfl) _).drew⟩
      case measure => simp [intOf]
    · have hF : Fresh w wr := (HF2.out.alloc _).trans HK.out (fun b hb e => by have := HF2.out.size; omega)
      have hlr := hr.fresh hF
      have hG1 : Blk wr w.heap.size 40 zeroC := HG1.out.keep HK.out (fun e => by have := HN2.out.2.1.size; simp at this; omega)
      have HG := Lib.hid hG1; clear hG1
      have HF := Lib.hid hF; clear hF
      have n0 := dec_size bd 0
      have n1 := dec_size bd 1
      have n2 := dec_size bd 2
      have n3 := dec_size bd 3
      have hB : Blk wr w2.heap.size 40 (sltsC (decD bd 0) (decD bd 1) (decD bd 2) (decD bd 3)) := HB.out
      obtain ⟨d0, h0⟩ : ∃ d, decD bd 0 = d := ⟨_, rfl⟩
      obtain ⟨d1, h1⟩ : ∃ d, decD bd 1 = d := ⟨_, rfl⟩
      obtain ⟨d2, h2⟩ : ∃ d, decD bd 2 = d := ⟨_, rfl⟩
      obtain ⟨d3, h3⟩ : ∃ d, decD bd 3 = d := ⟨_, rfl⟩
      rw [h0, h1, h2, h3] at hB
      rw [h0] at n0
      rw [h1] at n1
      rw [h2] at n2
      rw [h3] at n3
      have HB4 := Lib.hid hB; clear hB
      have H0 := Lib.hid h0; clear h0
      have H1 := Lib.hid h1; clear h1
      have H2 := Lib.hid h2; clear h2
      have H3 := Lib.hid h3; clear h3
      by_cases hok : layOkB d0 d1 d2 d3 = true
      · have HOK := Lib.hid hok; clear hok
        by_cases hs : sealL 68 (bodyD d0 d1 d2 d3) = l
        · have HD1 := Lib.hid (decide_eq_true hs)
          have HS := Lib.hid hs; clear hs
          go_wp2_with (first | (refine wpList_load_blk HB4.out rfl 40 (.tmp 6) rfl rfl arr_und rfl arr_size ?_) | (go_at_call 23; refine (Lay_calls d0 d1 d2 d3 _ (by omega) (by omega) (by omega) (by omega)).mono ?_; rintro e w4 (⟨hno, -, -⟩ | ⟨-, v4, rfl, h4⟩); (exact absurd HOK.out (by rw [hno]; decide)); obtain ⟨A4, c4, rfl⟩ := h4.1.shape) | (go_at_call 42; refine (BytesEqual_calls _ (Rd.of_own h4.1) (hlr.fresh h4.2.1) (seal_bytes (by omega) (bodyD_bytes n0 n1 n2 n3)) hb8).mono ?_; rintro e w5 ⟨rfl, rfl⟩; rw [HD1.out]) | (refine wpList_load_blk (HB4.out.fresh h4.2.1) rfl 40 (.tmp 6) rfl rfl arr_und rfl arr_size ?_) | (refine wpList_store_blk (HG.out.fresh h4.2.1) rfl 40 (.tmp 2) (.tmp 72) rfl 0 (sltsC d0 d1 d2 d3) rfl rfl (by simp [zeroC, sltsC]) arr_size (one_slts _ _ _ _) ?_; intro w6 hb6 k6))
          (try simp only [Exit.inBlock, Exit.then])
          refine ret_cell (cs := sltsC d0 d1 d2 d3) (by have := hb6.out; rwa [lay_zero] at this) rfl rfl rfl rfl arr_und rfl arr_size ?_
          exact read_good HE.out HBD.out H0.out H1.out H2.out H3.out HOK.out HS.out rfl ((HF.out.trans h4.2.1 (fun _ _ f => f)).trans k6 (fun b hb e => by omega))
        · have HD1 := Lib.hid (decide_eq_false hs)
          have HS := Lib.hid hs; clear hs
          go_wp2_with (first | (refine wpList_load_blk HB4.out rfl 40 (.tmp 6) rfl rfl arr_und rfl arr_size ?_) | (go_at_call 23; refine (Lay_calls d0 d1 d2 d3 _ (by omega) (by omega) (by omega) (by omega)).mono ?_; rintro e w4 (⟨hno, -, -⟩ | ⟨-, v4, rfl, h4⟩); (exact absurd HOK.out (by rw [hno]; decide)); obtain ⟨A4, c4, rfl⟩ := h4.1.shape) | (go_at_call 42; refine (BytesEqual_calls _ (Rd.of_own h4.1) (hlr.fresh h4.2.1) (seal_bytes (by omega) (bodyD_bytes n0 n1 n2 n3)) hb8).mono ?_; rintro e w5 ⟨rfl, rfl⟩; rw [HD1.out]) | (refine wpList_store_blk (HG.out.fresh h4.2.1) rfl 40 (.tmp 2) (.tmp 71) rfl 0 (sltsC Slt.zero Slt.zero Slt.zero Slt.zero) rfl rfl (by simp [zeroC, sltsC]) arr_size (one_slts _ _ _ _) ?_; intro w6 hb6 k6))
          (try simp only [Exit.inBlock, Exit.then])
          refine ret_cell (cs := sltsC Slt.zero Slt.zero Slt.zero Slt.zero) (by have := hb6.out; rwa [lay_zero] at this) rfl rfl rfl rfl arr_und rfl arr_size ?_
          exact read_bad HBD.out H0.out H1.out H2.out H3.out (fun h => HS.out h.2) rfl ((HF.out.trans h4.2.1 (fun _ _ f => f)).trans k6 (fun b hb e => by omega))
      · have HOK := Lib.hid hok; clear hok
        go_wp2_with (first | (refine wpList_load_blk HB4.out rfl 40 (.tmp 6) rfl rfl arr_und rfl arr_size ?_) | (go_at_call 23; refine (Lay_calls d0 d1 d2 d3 _ (by omega) (by omega) (by omega) (by omega)).mono ?_; rintro e w4 (⟨-, rfl, h4⟩ | ⟨hyes, -⟩); rotate_left; (exact absurd hyes HOK.out)) | (refine wpList_store_blk (HG.out.fresh h4) rfl 40 (.tmp 2) (.tmp 71) rfl 0 (sltsC Slt.zero Slt.zero Slt.zero Slt.zero) rfl rfl (by simp [zeroC, sltsC]) arr_size (one_slts _ _ _ _) ?_; intro w6 hb6 k6))
        (try simp only [Exit.inBlock, Exit.then])
        refine ret_cell (cs := sltsC Slt.zero Slt.zero Slt.zero Slt.zero) (by have := hb6.out; rwa [lay_zero] at this) rfl rfl rfl rfl arr_und rfl arr_size ?_
        exact read_bad HBD.out H0.out H1.out H2.out H3.out (fun h => HOK.out h.1) rfl ((HF.out.trans h4 (fun _ _ f => f)).trans k6 (fun b hb e => by omega))
end Go.Proofs.Ytcjackjoonijnaa
