/-
  Records: read; walked.
-/
import Derived.Test.YtcjackjoonijnaaRec5
import Derived.Deep.DeepCutAuto
namespace Go.Proofs.Ytcjackjoonijnaa
open Go.RowKit

theorem rec_und : Try.prog.underlying 23 = some (.struct (Try.prog.fieldsOf 23)) := by kernel_rfl
theorem rec_size : (Try.prog.info? 23).map (·.size) = some 7 := by kernel_rfl
theorem one_rec (on : Bool) (a b c d : Int) (s t : ByteArray) : (#[Value.bool on, .int .i64 a, .int .i64 b, .int .i64 c, .int .i64 d, .string s, .string t] : Array Value).all (·.oneCell') = true := by simp [Value.oneCell']
def zeroR : Array Value := #[.bool false, .int .i64 0, .int .i64 0, .int .i64 0, .int .i64 0, .string ⟨#[]⟩, .string ⟨#[]⟩]
def decR (bd : List Int) : Rcd := ⟨bd.getD 0 0 == 1, wordI (bd.getD 1 0) (bd.getD 2 0), wordI (bd.getD 3 0) (bd.getD 4 0), wordI (bd.getD 5 0) (bd.getD 6 0), wordI (bd.getD 7 0) (bd.getD 8 0), strOf ((bd.drop 10).take (min (bd.getD 9 0).toNat 24)), strOf ((bd.drop 35).take (min (bd.getD 34 0).toNat 24))⟩
def goodR (l : List Int) : Prop := kindL l = 82 ∧ mayR (decR (bodyOf l)) = true ∧ sealL 82 (bodyRL (decR (bodyOf l))) = l
def RcReadPost (w : World) (l : List Int) (e : Ending) (w' : World) : Prop :=
  (goodR l ∧ e = .returned (.tuple #[(decR (bodyOf l)).val, .int .i64 0]) ∧ Fresh w w') ∨ (¬ goodR l ∧ e = .returned (.tuple #[Rcd.zero.val, .int .i64 3]) ∧ Fresh w w')
theorem lay_rec (cs : Array Value) (h : cs.size = 7) (on : Bool) (a b c d : Int) (s t : ByteArray) : layC cs 0 [.bool on, .int .i64 a, .int .i64 b, .int .i64 c, .int .i64 d, .string s, .string t] = #[.bool on, .int .i64 a, .int .i64 b, .int .i64 c, .int .i64 d, .string s, .string t] := by
  obtain ⟨l⟩ := cs
  match l, h with
  | [c0, c1, c2, c3, c4, c5, c6], _ => simp [layC]

set_option maxRecDepth 100000 in
set_option maxHeartbeats 4000000 in
theorem RcRead_no (w : World) {A : Option Addr} {n c : Nat} {l : List Int} (hr : Rd w 1 A n (iv .u8 l)) (hc : n ≤ c) (he : kindL l ≠ 82) :
    Calls Try.prog 13 #[.slice A n c] w fun e w' => e = .returned (.tuple #[Rcd.zero.val, .int .i64 3]) ∧ Fresh w w' := by
  have HE := Lib.hid he; clear he
  have HB0 := Lib.hid (Blk.new w 23 zeroR)
  go_enter Try.func13, Try.ntmps13
  go_wp2_with (first | (go_at_call 39; refine (Open_no _ 82 (hr.alloc _) hc (by decide) HE.out).mono ?_; rintro e w2 ⟨rfl, k2⟩; have HB2 := Lib.hid ((HB0.out.fresh k2).alloc (.cells #[.slice none 0 0] 24))) | (refine wpList_store_blk HB2.out rfl 23 (.tmp 2) (.tmp 17) rfl 0 zeroR rfl rfl (by decide) rec_size (one_rec _ _ _ _ _ _ _) ?_; intro w3 hb3 k3))
  (try simp only [Exit.inBlock, Exit.then])
  have hb3 := hb3.out
  rw [show layC zeroR 0 zeroR.toList = zeroR from lay_rec zeroR rfl _ _ _ _ _ _ _] at hb3
  refine ret_cell hb3 rfl rfl rfl rfl rec_und rfl rec_size ⟨rfl, ?_⟩
  exact ((((Keep.refl (fun _ => False) w).alloc _).trans k2 (fun _ _ f => f)).alloc _).trans k3 (fun b hb e => by omega)
/-- What the walk of Read needs of memory. -/
def ReadS (g0 g2 c2 : Nat) (y0 : Int) (bd : List Int) (w' : World) : Prop := w'.cell? ⟨g0, 0, none⟩ = some (.slice (some ⟨g2, 0, none⟩) 123 c2) ∧ w'.cell? ⟨g2, 0, none⟩ = some (.int .u8 y0) ∧ Hid (Rd w' 1 (some ⟨g2, 0, none⟩) 123 (iv .u8 bd))
theorem ReadS.keep {g0 g2 c2 : Nat} {y0 : Int} {bd : List Int} {W W' : World} (h : ReadS g0 g2 c2 y0 bd W) (k : Fresh W W') : ReadS g0 g2 c2 y0 bd W' := ⟨k.cell_some h.1 (fun f => f), k.cell_some h.2.1 (fun f => f), h.2.2.out.fresh k⟩
theorem ReadS.keepS {S : Nat → Prop} {g0 g2 c2 : Nat} {y0 : Int} {bd : List Int} {W W' : World} (h : ReadS g0 g2 c2 y0 bd W) (k : Keep S W W') (h0 : ¬ S g0) (h2 : ¬ S g2) : ReadS g0 g2 c2 y0 bd W' := ⟨k.cell_some h.1 h0, k.cell_some h.2.1 h2, h.2.2.out.keep k (fun ad e => by cases e; exact h2)⟩
theorem decR_eq {bd : List Int} {on : Bool} {fr td ino old y0 y1 y2 y3 y4 y5 y6 y7 y8 y9 y34 : Int} {fn tn : ByteArray} (e0 : bd.getD 0 0 = y0) (e1 : bd.getD 1 0 = y1) (e2 : bd.getD 2 0 = y2) (e3 : bd.getD 3 0 = y3) (e4 : bd.getD 4 0 = y4) (e5 : bd.getD 5 0 = y5) (e6 : bd.getD 6 0 = y6) (e7 : bd.getD 7 0 = y7) (e8 : bd.getD 8 0 = y8) (e9 : bd.getD 9 0 = y9) (e34 : bd.getD 34 0 = y34)
    (hon : (y0 == 1) = on) (hfr : wordI y1 y2 = fr) (htd : wordI y3 y4 = td) (hino : wordI y5 y6 = ino) (hold : wordI y7 y8 = old) (hfn : strOf ((bd.drop 10).take (min y9.toNat 24)) = fn) (htn : strOf ((bd.drop 35).take (min y34.toNat 24)) = tn) : decR bd = ⟨on, fr, td, ino, old, fn, tn⟩ := by
  subst hon hfr htd hino hold hfn htn
  unfold decR
  rw [e0, e1, e2, e3, e4, e5, e6, e7, e8, e9, e34]
theorem take_size (l : List Int) (m : Nat) : (strOf (l.take (min m 24))).size ≤ 24 := by
  rw [← sb_len, show (sb (strOf (l.take (min m 24)))).length = (strOf (l.take (min m 24))).data.size from sb_len _]
  simp [strOf]
  omega
theorem bodyRL_bytes {r : Rcd} (h1 : r.fn.size ≤ 24) (h2 : r.tn.size ≤ 24) : Bytes8 (bodyRL r) := by
  have hn : ∀ s : ByteArray, s.size ≤ 24 → Bytes8 (namedL s) := by
    intro s hs y hy
    unfold namedL at hy
    rcases List.mem_cons.1 hy with rfl | hy
    · omega
    · rcases List.mem_append.1 hy with hy | hy
      · exact sb_range _ y hy
      · have := (List.mem_replicate.1 hy).2
        omega
  intro y hy
  unfold bodyRL at hy
  rcases List.mem_append.1 hy with hy | hy
  · rcases List.mem_append.1 hy with hy | hy
    · unfold numL be2 onI at hy
      simp only [List.cons_append, List.nil_append, List.mem_cons, List.not_mem_nil, or_false] at hy
      rcases hy with rfl | rfl | rfl | rfl | rfl | rfl | rfl | rfl | rfl
      · split <;> omega
      all_goals omega
    · exact hn _ h1 y hy
  · exact hn _ h2 y hy
section
variable {w w' : World} {l bd : List Int} {e : Ending} {r : Rcd}
theorem rread_good (hk : kindL l = 82) (hb : bodyOf l = bd) (hd : decR bd = r) (ho : mayR r = true) (hs : sealL 82 (bodyRL r) = l) (he : e = .returned (.tuple #[r.val, .int .i64 0])) (hf : Fresh w w') : RcReadPost w l e w' := by
  subst hb hd
  exact .inl ⟨⟨hk, ho, hs⟩, he, hf⟩
theorem rread_bad (hb : bodyOf l = bd) (hd : decR bd = r) (hn : ¬ (mayR r = true ∧ sealL 82 (bodyRL r) = l)) (he : e = .returned (.tuple #[Rcd.zero.val, .int .i64 3])) (hf : Fresh w w') : RcReadPost w l e w' := by
  subst hb hd
  exact .inr ⟨fun h => hn ⟨h.2.1, h.2.2⟩, he, hf⟩
end

set_option maxRecDepth 100000 in
set_option maxHeartbeats 8000000 in
theorem RcRead_yes (w : World) {A : Option Addr} {n c : Nat} {l : List Int} (hr : Rd w 1 A n (iv .u8 l)) (hb8 : Bytes8 l) (hc : n ≤ c) (he : kindL l = 82) :
    Calls Try.prog 13 #[.slice A n c] w (RcReadPost w l) := by
  have hbb : ∀ j, 0 ≤ (bodyOf l).getD j 0 ∧ (bodyOf l).getD j 0 < 256 := fun j => getD_bytes (bodyOf_bytes hb8) j
  have HE := Lib.hid he; clear he
  have HB0 := Lib.hid (Blk.new w 23 zeroR)
  have HB8' := Lib.hid hb8; clear hb8
  have HBB := Lib.hid hbb; clear hbb
  obtain ⟨bd, hbd⟩ : ∃ bd, bodyOf l = bd := ⟨_, rfl⟩
  rw [hbd] at HBB
  obtain ⟨y0, hy0⟩ : ∃ y, bd.getD 0 0 = y := ⟨_, rfl⟩
  have b0 := HBB.out 0
  rw [hy0] at b0
  have HY0 := Lib.hid hy0; clear hy0
  have G0 := Lib.hid b0; clear b0
  obtain ⟨y1, hy1⟩ : ∃ y, bd.getD 1 0 = y := ⟨_, rfl⟩
  have b1 := HBB.out 1
  rw [hy1] at b1
  have HY1 := Lib.hid hy1; clear hy1
  have G1 := Lib.hid b1; clear b1
  obtain ⟨y2, hy2⟩ : ∃ y, bd.getD 2 0 = y := ⟨_, rfl⟩
  have b2 := HBB.out 2
  rw [hy2] at b2
  have HY2 := Lib.hid hy2; clear hy2
  have G2 := Lib.hid b2; clear b2
  obtain ⟨y3, hy3⟩ : ∃ y, bd.getD 3 0 = y := ⟨_, rfl⟩
  have b3 := HBB.out 3
  rw [hy3] at b3
  have HY3 := Lib.hid hy3; clear hy3
  have G3 := Lib.hid b3; clear b3
  obtain ⟨y4, hy4⟩ : ∃ y, bd.getD 4 0 = y := ⟨_, rfl⟩
  have b4 := HBB.out 4
  rw [hy4] at b4
  have HY4 := Lib.hid hy4; clear hy4
  have G4 := Lib.hid b4; clear b4
  obtain ⟨y5, hy5⟩ : ∃ y, bd.getD 5 0 = y := ⟨_, rfl⟩
  have b5 := HBB.out 5
  rw [hy5] at b5
  have HY5 := Lib.hid hy5; clear hy5
  have G5 := Lib.hid b5; clear b5
  obtain ⟨y6, hy6⟩ : ∃ y, bd.getD 6 0 = y := ⟨_, rfl⟩
  have b6 := HBB.out 6
  rw [hy6] at b6
  have HY6 := Lib.hid hy6; clear hy6
  have G6 := Lib.hid b6; clear b6
  obtain ⟨y7, hy7⟩ : ∃ y, bd.getD 7 0 = y := ⟨_, rfl⟩
  have b7 := HBB.out 7
  rw [hy7] at b7
  have HY7 := Lib.hid hy7; clear hy7
  have G7 := Lib.hid b7; clear b7
  obtain ⟨y8, hy8⟩ : ∃ y, bd.getD 8 0 = y := ⟨_, rfl⟩
  have b8 := HBB.out 8
  rw [hy8] at b8
  have HY8 := Lib.hid hy8; clear hy8
  have G8 := Lib.hid b8; clear b8
  obtain ⟨y9, hy9⟩ : ∃ y, bd.getD 9 0 = y := ⟨_, rfl⟩
  have b9 := HBB.out 9
  rw [hy9] at b9
  have HY9 := Lib.hid hy9; clear hy9
  have G9 := Lib.hid b9; clear b9
  obtain ⟨y34, hy34⟩ : ∃ y, bd.getD 34 0 = y := ⟨_, rfl⟩
  have b34 := HBB.out 34
  rw [hy34] at b34
  have HY34 := Lib.hid hy34; clear hy34
  have G34 := Lib.hid b34; clear b34
  obtain ⟨on, hon⟩ : ∃ b, (y0 == 1) = b := ⟨_, rfl⟩
  obtain ⟨fr, hfr⟩ : ∃ z, wordI y1 y2 = z := ⟨_, rfl⟩
  have Hfr := Lib.hid hfr; clear hfr
  obtain ⟨td, htd⟩ : ∃ z, wordI y3 y4 = z := ⟨_, rfl⟩
  have Htd := Lib.hid htd; clear htd
  obtain ⟨ino, hino⟩ : ∃ z, wordI y5 y6 = z := ⟨_, rfl⟩
  have Hino := Lib.hid hino; clear hino
  obtain ⟨old, hold⟩ : ∃ z, wordI y7 y8 = z := ⟨_, rfl⟩
  have Hold := Lib.hid hold; clear hold
  have nfn := take_size (bd.drop 10) y9.toNat
  obtain ⟨fn, hfn⟩ : ∃ z, strOf ((bd.drop 10).take (min y9.toNat 24)) = z := ⟨_, rfl⟩
  rw [hfn] at nfn
  have Hfn := Lib.hid hfn; clear hfn
  have ntn := take_size (bd.drop 35) y34.toNat
  obtain ⟨tn, htn⟩ : ∃ z, strOf ((bd.drop 35).take (min y34.toNat 24)) = z := ⟨_, rfl⟩
  rw [htn] at ntn
  have Htn := Lib.hid htn; clear htn
  have hdec := decR_eq HY0.out HY1.out HY2.out HY3.out HY4.out HY5.out HY6.out HY7.out HY8.out HY9.out HY34.out hon Hfr.out Htd.out Hino.out Hold.out Hfn.out Htn.out
  have HDEC := Lib.hid hdec; clear hdec
  have HON := Lib.hid hon
  have HBD := Lib.hid hbd
  go_enter Try.func13, Try.ntmps13
  go_upto_region 5 with (first | (go_at_call 39; refine (Open_yes _ 82 (hr.alloc _) hc (by decide) HE.out).mono ?_; rintro e w2 ⟨v2, rfl, hn2⟩; obtain ⟨A2, c2, rfl⟩ := hn2.1.shape; have HN2 := Lib.hid (hbd ▸ hn2); clear hn2 hbd))
  obtain ⟨g2, hcc, hA2⟩ : ∃ g2, 123 ≤ c2 ∧ A2 = some ⟨g2, 0, none⟩ := by
    rcases HN2.out.1.2 with ⟨_, h0⟩ | ⟨g, cap, cur, hv, _, _, hnc, _⟩
    · omega
    · injection hv with e1 e2 e3
      exact ⟨g, by omega, e1⟩
  subst hA2
  have HF2 : Hid (Fresh w w2) := ((Keep.refl (fun _ => False) w).alloc _).trans HN2.out.2.1 (fun _ _ f => f)
  have k2 : Fresh w2 (w2.alloc (.cells #[.slice (some ⟨g2, 0, none⟩) 123 c2] 24)).drew := ((Keep.refl _ w2).alloc _).drew
  have hrd := (Rd.of_own HN2.out.1).fresh k2
  have hS : ReadS w2.heap.size g2 c2 y0 bd (w2.alloc (.cells #[.slice (some ⟨g2, 0, none⟩) 123 c2] 24)).drew := ⟨(Blk.drew (Blk.new w2 24 #[.slice (some ⟨g2, 0, none⟩) 123 c2])).cell 0, byte_at hrd 0 (by omega) HY0.out, hrd⟩
  have HFS : Hid (Fresh (w2.alloc (.cells #[.slice (some ⟨g2, 0, none⟩) 123 c2] 24)).drew (w2.alloc (.cells #[.slice (some ⟨g2, 0, none⟩) 123 c2] 24)).drew) := Keep.refl _ _
  have HF0 := Lib.hid (HF2.out.trans k2 (fun _ _ f => f))
  have HG2 := Lib.hid ((HB0.out.fresh HN2.out.2.1).fresh k2)
  have hg2 : g2 < w2.heap.size := own_lt HN2.out.1 rfl
  have hww : w.heap.size ≤ w2.heap.size := HF2.out.size
  clear hrd k2
  have cn9 : ¬ c2 = 9 := by omega
  have cn34 : ¬ c2 = 34 := by omega
  have cl9 : (9 : Int) ≤ (c2 : Int) := by omega
  go_cut [7] (fun s7 wx => ∃ g7 : Nat, s7 = .pointer (some ⟨g7, 0, none⟩) ∧ Hid (Blk wx g7 23 #[.bool on, .int .i64 fr, .int .i64 td, .int .i64 ino, .int .i64 old, .string fn, .string tn]) ∧ Hid (Fresh w wx) ∧ Hid (Blk wx w.heap.size 23 zeroR) ∧ Hid (g7 ≠ w.heap.size))
  case first =>
    go_wp2_with fail
    refine wp_region_held_drew (S := ReadS w2.heap.size g2 c2 y0 bd) (by kernel_rfl) hS (fun hs => ?_)
    clear hS
    (refine wpAnyC_do 0 (some 19) (.slice (some ⟨g2, 0, none⟩) 123 c2) rfl rfl (by kernel_rfl) (by kernel_rfl) (by kernel_rfl) (fun _ _ _ h => h) (by rfl) ?_ (by assumption) ?_; (intro w' hS'; obtain ⟨s1, s2, -⟩ := hS'; go_simp; try with_reducible rfl); try simp only [Act.put, List.setIfInBounds_toArray, List.set_cons_zero, List.set_cons_succ])
    (refine wpAnyC_do 1 (some 20) ?_ rfl rfl (by kernel_rfl) (by kernel_rfl) (by kernel_rfl) (fun _ _ _ h => h) (by rfl) ?_ (by assumption) ?_; rotate_left; (intro w' hS'; obtain ⟨s1, s2, -⟩ := hS'; go_simp; try with_reducible rfl); try simp only [Act.put, List.setIfInBounds_toArray, List.set_cons_zero, List.set_cons_succ])
    (refine wpAnyC_do 2 (some 21) (.int .u8 y0) rfl rfl (by kernel_rfl) (by kernel_rfl) (by kernel_rfl) (fun _ _ _ h => h) (by rfl) ?_ (by assumption) ?_; (intro w' hS'; obtain ⟨s1, s2, -⟩ := hS'; go_simp; try with_reducible rfl); try simp only [Act.put, List.setIfInBounds_toArray, List.set_cons_zero, List.set_cons_succ])
    (refine wpAnyC_do 3 (some 22) (.bool on) rfl rfl (by kernel_rfl) (by kernel_rfl) (by kernel_rfl) (fun _ _ _ h => h) (by rfl) ?_ (by assumption) ?_; (intro w' hS'; obtain ⟨s1, s2, -⟩ := hS'; go_simp; try with_reducible rfl); try simp only [Act.put, List.setIfInBounds_toArray, List.set_cons_zero, List.set_cons_succ])
    (refine wpAnyC_do 4 (some 23) ?_ rfl rfl (by kernel_rfl) (by kernel_rfl) (by kernel_rfl) (fun _ _ _ h => h) (by rfl) ?_ (by assumption) ?_; rotate_left; (intro w' hS'; obtain ⟨s1, s2, -⟩ := hS'; go_simp; try with_reducible rfl); try simp only [Act.put, List.setIfInBounds_toArray, List.set_cons_zero, List.set_cons_succ])
    (refine wpAnyC_do 6 (some 25) ?_ rfl rfl (by kernel_rfl) (by kernel_rfl) (by kernel_rfl) (fun _ _ _ h => h) (by rfl) ?_ (by assumption) ?_; rotate_left; (intro w' hS'; obtain ⟨s1, s2, -⟩ := hS'; go_simp; try with_reducible rfl); try simp only [Act.put, List.setIfInBounds_toArray, List.set_cons_zero, List.set_cons_succ])
    (refine wpAnyC_do 8 (some 27) ?_ rfl rfl (by kernel_rfl) (by kernel_rfl) (by kernel_rfl) (fun _ _ _ h => h) (by rfl) ?_ (by assumption) ?_; rotate_left; (intro w' hS'; obtain ⟨s1, s2, -⟩ := hS'; go_simp; try with_reducible rfl); try simp only [Act.put, List.setIfInBounds_toArray, List.set_cons_zero, List.set_cons_succ])
    (refine wpAnyC_do 10 (some 29) ?_ rfl rfl (by kernel_rfl) (by kernel_rfl) (by kernel_rfl) (fun _ _ _ h => h) (by rfl) ?_ (by assumption) ?_; rotate_left; (intro w' hS'; obtain ⟨s1, s2, -⟩ := hS'; go_simp; try with_reducible rfl); try simp only [Act.put, List.setIfInBounds_toArray, List.set_cons_zero, List.set_cons_succ])
    (refine wpAnyC_do 12 (some 31) (.slice (some ⟨g2, 0, none⟩) 123 c2) rfl rfl (by kernel_rfl) (by kernel_rfl) (by kernel_rfl) (fun _ _ _ h => h) (by rfl) ?_ (by assumption) ?_; (intro w' hS'; obtain ⟨s1, s2, -⟩ := hS'; go_simp; try with_reducible rfl); try simp only [Act.put, List.setIfInBounds_toArray, List.set_cons_zero, List.set_cons_succ])
    (refine wpAnyC_do 13 (some 32) ?_ rfl rfl (by kernel_rfl) (by kernel_rfl) (by kernel_rfl) (fun _ _ _ h => h) (by rfl) ?_ (by assumption) ?_; rotate_left; (intro w' hS'; obtain ⟨s1, s2, -⟩ := hS'; go_simp; try with_reducible rfl); try simp only [Act.put, List.setIfInBounds_toArray, List.set_cons_zero, List.set_cons_succ])
    (refine wpAnyC_do 15 (some 34) (.slice (some ⟨g2, 0, none⟩) 123 c2) rfl rfl (by kernel_rfl) (by kernel_rfl) (by kernel_rfl) (fun _ _ _ h => h) (by rfl) ?_ (by assumption) ?_; (intro w' hS'; obtain ⟨s1, s2, -⟩ := hS'; go_simp; try with_reducible rfl); try simp only [Act.put, List.setIfInBounds_toArray, List.set_cons_zero, List.set_cons_succ])
    (refine wpAnyC_do 16 (some 35) ?_ rfl rfl (by kernel_rfl) (by kernel_rfl) (by kernel_rfl) (fun _ _ _ h => h) (by rfl) ?_ (by assumption) ?_; rotate_left; (intro w' hS'; obtain ⟨s1, s2, -⟩ := hS'; go_simp; try with_reducible rfl); try simp only [Act.put, List.setIfInBounds_toArray, List.set_cons_zero, List.set_cons_succ])
    refine wpAnyC_two 5 19 rfl rfl (by kernel_rfl) (fun K' hK' => ?_) (fun K' hK' => ?_)
    · (go_simp; refine (word1_calls hcc hs.1 (byte_at hs.2.2.out 1 (by omega) HY1.out) (byte_at hs.2.2.out 2 (by omega) HY2.out) G1.out G2.out).mono ?_; rintro e w101 ⟨rfl, D⟩; rw [Hfr.out]; have HFS := Lib.hid (HFS.out.trans D.fresh (fun _ _ f => f)); have HG2 := Lib.hid (HG2.out.fresh D.fresh); refine hK' _ _ (ReadS.keep hs D.fresh) (fun hs => ?_); clear hK' K'; try simp only [Act.put, List.setIfInBounds_toArray, List.set_cons_zero, List.set_cons_succ])
      refine wpAnyC_two 7 19 rfl rfl (by kernel_rfl) (fun K' hK' => ?_) (fun K' hK' => ?_)
      · (go_simp; refine (word3_calls hcc hs.1 (byte_at hs.2.2.out 3 (by omega) HY3.out) (byte_at hs.2.2.out 4 (by omega) HY4.out) G3.out G4.out).mono ?_; rintro e w102 ⟨rfl, D⟩; rw [Htd.out]; have HFS := Lib.hid (HFS.out.trans D.fresh (fun _ _ f => f)); have HG2 := Lib.hid (HG2.out.fresh D.fresh); refine hK' _ _ (ReadS.keep hs D.fresh) (fun hs => ?_); clear hK' K'; try simp only [Act.put, List.setIfInBounds_toArray, List.set_cons_zero, List.set_cons_succ])
        refine wpAnyC_two 9 19 rfl rfl (by kernel_rfl) (fun K' hK' => ?_) (fun K' hK' => ?_)
        · (go_simp; refine (word5_calls hcc hs.1 (byte_at hs.2.2.out 5 (by omega) HY5.out) (byte_at hs.2.2.out 6 (by omega) HY6.out) G5.out G6.out).mono ?_; rintro e w103 ⟨rfl, D⟩; rw [Hino.out]; have HFS := Lib.hid (HFS.out.trans D.fresh (fun _ _ f => f)); have HG2 := Lib.hid (HG2.out.fresh D.fresh); refine hK' _ _ (ReadS.keep hs D.fresh) (fun hs => ?_); clear hK' K'; try simp only [Act.put, List.setIfInBounds_toArray, List.set_cons_zero, List.set_cons_succ])
          refine wpAnyC_two 11 19 rfl rfl (by kernel_rfl) (fun K' hK' => ?_) (fun K' hK' => ?_)
          · (go_simp; refine (word7_calls hcc hs.1 (byte_at hs.2.2.out 7 (by omega) HY7.out) (byte_at hs.2.2.out 8 (by omega) HY8.out) G7.out G8.out).mono ?_; rintro e w104 ⟨rfl, D⟩; rw [Hold.out]; have HFS := Lib.hid (HFS.out.trans D.fresh (fun _ _ f => f)); have HG2 := Lib.hid (HG2.out.fresh D.fresh); refine hK' _ _ (ReadS.keep hs D.fresh) (fun hs => ?_); clear hK' K'; try simp only [Act.put, List.setIfInBounds_toArray, List.set_cons_zero, List.set_cons_succ])
            refine wpAnyC_two 14 19 rfl rfl (by kernel_rfl) (fun K' hK' => ?_) (fun K' hK' => ?_)
            · (go_simp; refine (name9_calls hs.2.2.out HY9.out G9.out (by omega)).mono ?_; rintro e _ ⟨rfl, rfl⟩; rw [Hfn.out]; refine hK' _ _ hs (fun hs => ?_); clear hK' K'; try simp only [Act.put, List.setIfInBounds_toArray, List.set_cons_zero, List.set_cons_succ])
              refine wpAnyC_two 17 19 rfl rfl (by kernel_rfl) (fun K' hK' => ?_) (fun K' hK' => ?_)
              · (go_simp; refine (name34_calls hs.2.2.out HY34.out G34.out (by omega)).mono ?_; rintro e _ ⟨rfl, rfl⟩; rw [Htn.out]; refine hK' _ _ hs (fun hs => ?_); clear hK' K'; try simp only [Act.put, List.setIfInBounds_toArray, List.set_cons_zero, List.set_cons_succ])
                (refine wpAnyC_do 18 (some 37) ?_ rfl rfl (by kernel_rfl) (by kernel_rfl) (by kernel_rfl) (fun _ _ _ h => h) (by rfl) ?_ (by assumption) ?_; rotate_left; (intro w' hS'; obtain ⟨s1, s2, -⟩ := hS'; go_simp; try with_reducible rfl); try simp only [Act.put, List.setIfInBounds_toArray, List.set_cons_zero, List.set_cons_succ])
                (refine wpAnyC_one 19 rfl (by kernel_rfl) (fun K' hK' => ?_); go_simp; refine hK' _ _ (hs.keep ((Keep.refl (fun _ => False) w104).alloc _)) (fun hs => ?_); clear hK' K'; try simp only [Act.put, List.setIfInBounds_toArray, List.set_cons_zero, List.set_cons_succ])
                have hsz : w2.heap.size + 1 ≤ w104.heap.size := by have := HFS.out.size; simp at this; omega
                have HB7 := Blk.new w104 23 zeroR
                have HB7 := Lib.hid HB7
                have HFS := Lib.hid (HFS.out.alloc (.cells zeroR 23))
                have HG2 := Lib.hid (HG2.out.alloc (.cells zeroR 23))
                refine wpAnyC_one 20 rfl (by kernel_rfl) (fun K' hK' => ?_)
                rw [if_pos (by rfl)]
                refine wp_store_blk HB7.out 23 (.tmp 7) (.tmp 37) rfl 0 #[.bool on, .int .i64 fr, .int .i64 td, .int .i64 ino, .int .i64 old, .string fn, .string tn] (by go_simp) (by go_simp) (show 0 + 7 ≤ 7 by decide) rec_size (one_rec _ _ _ _ _ _ _) ?_
                intro w20 hb20 k20
                refine hK' _ _ (hs.keepS k20 (fun e => by omega) (fun e => by omega)) (fun _ => ?_)
                clear hK' K'
                try simp only [Act.put, List.setIfInBounds_toArray]
                refine wpAnyH_done (by kernel_rfl) ?_ _
                go_wp2_with fail
                go_meet
                have hb20 := hb20.out
                rw [show layC zeroR 0 _ = _ from lay_rec zeroR rfl _ _ _ _ _ _ _] at hb20
                exact ⟨_, rfl, hb20, (HF0.out.trans HFS.out (fun _ _ f => f)).trans k20 (fun b hb e => by omega), HG2.out.keep k20 (fun e => by omega), show _ ≠ _ from fun e => by omega⟩
              · (go_simp; refine hK' _ _ (hs.keep ((Keep.refl (fun _ => False) w104).alloc _)) (fun hs => ?_); clear hK' K'; try simp only [Act.put, List.setIfInBounds_toArray, List.set_cons_zero, List.set_cons_succ])
                have hsz : w2.heap.size + 1 ≤ w104.heap.size := by have := HFS.out.size; simp at this; omega
                have HB7 := Blk.new w104 23 zeroR
                have HB7 := Lib.hid HB7
                have HFS := Lib.hid (HFS.out.alloc (.cells zeroR 23))
                have HG2 := Lib.hid (HG2.out.alloc (.cells zeroR 23))
                (refine wpAnyC_one 17 rfl (by kernel_rfl) (fun K' hK' => ?_); go_simp; refine (name34_calls hs.2.2.out HY34.out G34.out (by omega)).mono ?_; rintro e _ ⟨rfl, rfl⟩; rw [Htn.out]; refine hK' _ _ hs (fun hs => ?_); clear hK' K'; try simp only [Act.put, List.setIfInBounds_toArray, List.set_cons_zero, List.set_cons_succ])
                (refine wpAnyC_do 18 (some 37) ?_ rfl rfl (by kernel_rfl) (by kernel_rfl) (by kernel_rfl) (fun _ _ _ h => h) (by rfl) ?_ (by assumption) ?_; rotate_left; (intro w' hS'; obtain ⟨s1, s2, -⟩ := hS'; go_simp; try with_reducible rfl); try simp only [Act.put, List.setIfInBounds_toArray, List.set_cons_zero, List.set_cons_succ])
                refine wpAnyC_one 20 rfl (by kernel_rfl) (fun K' hK' => ?_)
                rw [if_pos (by rfl)]
                refine wp_store_blk HB7.out 23 (.tmp 7) (.tmp 37) rfl 0 #[.bool on, .int .i64 fr, .int .i64 td, .int .i64 ino, .int .i64 old, .string fn, .string tn] (by go_simp) (by go_simp) (show 0 + 7 ≤ 7 by decide) rec_size (one_rec _ _ _ _ _ _ _) ?_
                intro w20 hb20 k20
                refine hK' _ _ (hs.keepS k20 (fun e => by omega) (fun e => by omega)) (fun _ => ?_)
                clear hK' K'
                try simp only [Act.put, List.setIfInBounds_toArray]
                refine wpAnyH_done (by kernel_rfl) ?_ _
                go_wp2_with fail
                go_meet
                have hb20 := hb20.out
                rw [show layC zeroR 0 _ = _ from lay_rec zeroR rfl _ _ _ _ _ _ _] at hb20
                exact ⟨_, rfl, hb20, (HF0.out.trans HFS.out (fun _ _ f => f)).trans k20 (fun b hb e => by omega), HG2.out.keep k20 (fun e => by omega), show _ ≠ _ from fun e => by omega⟩
            · (go_simp; refine hK' _ _ (hs.keep ((Keep.refl (fun _ => False) w104).alloc _)) (fun hs => ?_); clear hK' K'; try simp only [Act.put, List.setIfInBounds_toArray, List.set_cons_zero, List.set_cons_succ])
              have hsz : w2.heap.size + 1 ≤ w104.heap.size := by have := HFS.out.size; simp at this; omega
              have HB7 := Blk.new w104 23 zeroR
              have HB7 := Lib.hid HB7
              have HFS := Lib.hid (HFS.out.alloc (.cells zeroR 23))
              have HG2 := Lib.hid (HG2.out.alloc (.cells zeroR 23))
              (refine wpAnyC_one 14 rfl (by kernel_rfl) (fun K' hK' => ?_); go_simp; refine (name9_calls hs.2.2.out HY9.out G9.out (by omega)).mono ?_; rintro e _ ⟨rfl, rfl⟩; rw [Hfn.out]; refine hK' _ _ hs (fun hs => ?_); clear hK' K'; try simp only [Act.put, List.setIfInBounds_toArray, List.set_cons_zero, List.set_cons_succ])
              (refine wpAnyC_one 17 rfl (by kernel_rfl) (fun K' hK' => ?_); go_simp; refine (name34_calls hs.2.2.out HY34.out G34.out (by omega)).mono ?_; rintro e _ ⟨rfl, rfl⟩; rw [Htn.out]; refine hK' _ _ hs (fun hs => ?_); clear hK' K'; try simp only [Act.put, List.setIfInBounds_toArray, List.set_cons_zero, List.set_cons_succ])
              (refine wpAnyC_do 18 (some 37) ?_ rfl rfl (by kernel_rfl) (by kernel_rfl) (by kernel_rfl) (fun _ _ _ h => h) (by rfl) ?_ (by assumption) ?_; rotate_left; (intro w' hS'; obtain ⟨s1, s2, -⟩ := hS'; go_simp; try with_reducible rfl); try simp only [Act.put, List.setIfInBounds_toArray, List.set_cons_zero, List.set_cons_succ])
              refine wpAnyC_one 20 rfl (by kernel_rfl) (fun K' hK' => ?_)
              rw [if_pos (by rfl)]
              refine wp_store_blk HB7.out 23 (.tmp 7) (.tmp 37) rfl 0 #[.bool on, .int .i64 fr, .int .i64 td, .int .i64 ino, .int .i64 old, .string fn, .string tn] (by go_simp) (by go_simp) (show 0 + 7 ≤ 7 by decide) rec_size (one_rec _ _ _ _ _ _ _) ?_
              intro w20 hb20 k20
              refine hK' _ _ (hs.keepS k20 (fun e => by omega) (fun e => by omega)) (fun _ => ?_)
              clear hK' K'
              try simp only [Act.put, List.setIfInBounds_toArray]
              refine wpAnyH_done (by kernel_rfl) ?_ _
              go_wp2_with fail
              go_meet
              have hb20 := hb20.out
              rw [show layC zeroR 0 _ = _ from lay_rec zeroR rfl _ _ _ _ _ _ _] at hb20
              exact ⟨_, rfl, hb20, (HF0.out.trans HFS.out (fun _ _ f => f)).trans k20 (fun b hb e => by omega), HG2.out.keep k20 (fun e => by omega), show _ ≠ _ from fun e => by omega⟩
          · (go_simp; refine hK' _ _ (hs.keep ((Keep.refl (fun _ => False) w103).alloc _)) (fun hs => ?_); clear hK' K'; try simp only [Act.put, List.setIfInBounds_toArray, List.set_cons_zero, List.set_cons_succ])
            have hsz : w2.heap.size + 1 ≤ w103.heap.size := by have := HFS.out.size; simp at this; omega
            have HB7 := Blk.new w103 23 zeroR
            have HB7 := Lib.hid HB7
            have HFS := Lib.hid (HFS.out.alloc (.cells zeroR 23))
            have HG2 := Lib.hid (HG2.out.alloc (.cells zeroR 23))
            (refine wpAnyC_one 11 rfl (by kernel_rfl) (fun K' hK' => ?_); go_simp; refine (word7_calls hcc hs.1 (byte_at hs.2.2.out 7 (by omega) HY7.out) (byte_at hs.2.2.out 8 (by omega) HY8.out) G7.out G8.out).mono ?_; rintro e w105 ⟨rfl, D⟩; rw [Hold.out]; have HFS := Lib.hid (HFS.out.trans D.fresh (fun _ _ f => f)); have HG2 := Lib.hid (HG2.out.fresh D.fresh); have HB7 := Lib.hid (HB7.out.fresh D.fresh); refine hK' _ _ (ReadS.keep hs D.fresh) (fun hs => ?_); clear hK' K'; try simp only [Act.put, List.setIfInBounds_toArray, List.set_cons_zero, List.set_cons_succ])
            (refine wpAnyC_one 14 rfl (by kernel_rfl) (fun K' hK' => ?_); go_simp; refine (name9_calls hs.2.2.out HY9.out G9.out (by omega)).mono ?_; rintro e _ ⟨rfl, rfl⟩; rw [Hfn.out]; refine hK' _ _ hs (fun hs => ?_); clear hK' K'; try simp only [Act.put, List.setIfInBounds_toArray, List.set_cons_zero, List.set_cons_succ])
            (refine wpAnyC_one 17 rfl (by kernel_rfl) (fun K' hK' => ?_); go_simp; refine (name34_calls hs.2.2.out HY34.out G34.out (by omega)).mono ?_; rintro e _ ⟨rfl, rfl⟩; rw [Htn.out]; refine hK' _ _ hs (fun hs => ?_); clear hK' K'; try simp only [Act.put, List.setIfInBounds_toArray, List.set_cons_zero, List.set_cons_succ])
            (refine wpAnyC_do 18 (some 37) ?_ rfl rfl (by kernel_rfl) (by kernel_rfl) (by kernel_rfl) (fun _ _ _ h => h) (by rfl) ?_ (by assumption) ?_; rotate_left; (intro w' hS'; obtain ⟨s1, s2, -⟩ := hS'; go_simp; try with_reducible rfl); try simp only [Act.put, List.setIfInBounds_toArray, List.set_cons_zero, List.set_cons_succ])
            refine wpAnyC_one 20 rfl (by kernel_rfl) (fun K' hK' => ?_)
            rw [if_pos (by rfl)]
            refine wp_store_blk HB7.out 23 (.tmp 7) (.tmp 37) rfl 0 #[.bool on, .int .i64 fr, .int .i64 td, .int .i64 ino, .int .i64 old, .string fn, .string tn] (by go_simp) (by go_simp) (show 0 + 7 ≤ 7 by decide) rec_size (one_rec _ _ _ _ _ _ _) ?_
            intro w20 hb20 k20
            refine hK' _ _ (hs.keepS k20 (fun e => by omega) (fun e => by omega)) (fun _ => ?_)
            clear hK' K'
            try simp only [Act.put, List.setIfInBounds_toArray]
            refine wpAnyH_done (by kernel_rfl) ?_ _
            go_wp2_with fail
            go_meet
            have hb20 := hb20.out
            rw [show layC zeroR 0 _ = _ from lay_rec zeroR rfl _ _ _ _ _ _ _] at hb20
            exact ⟨_, rfl, hb20, (HF0.out.trans HFS.out (fun _ _ f => f)).trans k20 (fun b hb e => by omega), HG2.out.keep k20 (fun e => by omega), show _ ≠ _ from fun e => by omega⟩
        · (go_simp; refine hK' _ _ (hs.keep ((Keep.refl (fun _ => False) w102).alloc _)) (fun hs => ?_); clear hK' K'; try simp only [Act.put, List.setIfInBounds_toArray, List.set_cons_zero, List.set_cons_succ])
          have hsz : w2.heap.size + 1 ≤ w102.heap.size := by have := HFS.out.size; simp at this; omega
          have HB7 := Blk.new w102 23 zeroR
          have HB7 := Lib.hid HB7
          have HFS := Lib.hid (HFS.out.alloc (.cells zeroR 23))
          have HG2 := Lib.hid (HG2.out.alloc (.cells zeroR 23))
          (refine wpAnyC_one 9 rfl (by kernel_rfl) (fun K' hK' => ?_); go_simp; refine (word5_calls hcc hs.1 (byte_at hs.2.2.out 5 (by omega) HY5.out) (byte_at hs.2.2.out 6 (by omega) HY6.out) G5.out G6.out).mono ?_; rintro e w106 ⟨rfl, D⟩; rw [Hino.out]; have HFS := Lib.hid (HFS.out.trans D.fresh (fun _ _ f => f)); have HG2 := Lib.hid (HG2.out.fresh D.fresh); have HB7 := Lib.hid (HB7.out.fresh D.fresh); refine hK' _ _ (ReadS.keep hs D.fresh) (fun hs => ?_); clear hK' K'; try simp only [Act.put, List.setIfInBounds_toArray, List.set_cons_zero, List.set_cons_succ])
          (refine wpAnyC_one 11 rfl (by kernel_rfl) (fun K' hK' => ?_); go_simp; refine (word7_calls hcc hs.1 (byte_at hs.2.2.out 7 (by omega) HY7.out) (byte_at hs.2.2.out 8 (by omega) HY8.out) G7.out G8.out).mono ?_; rintro e w107 ⟨rfl, D⟩; rw [Hold.out]; have HFS := Lib.hid (HFS.out.trans D.fresh (fun _ _ f => f)); have HG2 := Lib.hid (HG2.out.fresh D.fresh); have HB7 := Lib.hid (HB7.out.fresh D.fresh); refine hK' _ _ (ReadS.keep hs D.fresh) (fun hs => ?_); clear hK' K'; try simp only [Act.put, List.setIfInBounds_toArray, List.set_cons_zero, List.set_cons_succ])
          (refine wpAnyC_one 14 rfl (by kernel_rfl) (fun K' hK' => ?_); go_simp; refine (name9_calls hs.2.2.out HY9.out G9.out (by omega)).mono ?_; rintro e _ ⟨rfl, rfl⟩; rw [Hfn.out]; refine hK' _ _ hs (fun hs => ?_); clear hK' K'; try simp only [Act.put, List.setIfInBounds_toArray, List.set_cons_zero, List.set_cons_succ])
          (refine wpAnyC_one 17 rfl (by kernel_rfl) (fun K' hK' => ?_); go_simp; refine (name34_calls hs.2.2.out HY34.out G34.out (by omega)).mono ?_; rintro e _ ⟨rfl, rfl⟩; rw [Htn.out]; refine hK' _ _ hs (fun hs => ?_); clear hK' K'; try simp only [Act.put, List.setIfInBounds_toArray, List.set_cons_zero, List.set_cons_succ])
          (refine wpAnyC_do 18 (some 37) ?_ rfl rfl (by kernel_rfl) (by kernel_rfl) (by kernel_rfl) (fun _ _ _ h => h) (by rfl) ?_ (by assumption) ?_; rotate_left; (intro w' hS'; obtain ⟨s1, s2, -⟩ := hS'; go_simp; try with_reducible rfl); try simp only [Act.put, List.setIfInBounds_toArray, List.set_cons_zero, List.set_cons_succ])
          refine wpAnyC_one 20 rfl (by kernel_rfl) (fun K' hK' => ?_)
          rw [if_pos (by rfl)]
          refine wp_store_blk HB7.out 23 (.tmp 7) (.tmp 37) rfl 0 #[.bool on, .int .i64 fr, .int .i64 td, .int .i64 ino, .int .i64 old, .string fn, .string tn] (by go_simp) (by go_simp) (show 0 + 7 ≤ 7 by decide) rec_size (one_rec _ _ _ _ _ _ _) ?_
          intro w20 hb20 k20
          refine hK' _ _ (hs.keepS k20 (fun e => by omega) (fun e => by omega)) (fun _ => ?_)
          clear hK' K'
          try simp only [Act.put, List.setIfInBounds_toArray]
          refine wpAnyH_done (by kernel_rfl) ?_ _
          go_wp2_with fail
          go_meet
          have hb20 := hb20.out
          rw [show layC zeroR 0 _ = _ from lay_rec zeroR rfl _ _ _ _ _ _ _] at hb20
          exact ⟨_, rfl, hb20, (HF0.out.trans HFS.out (fun _ _ f => f)).trans k20 (fun b hb e => by omega), HG2.out.keep k20 (fun e => by omega), show _ ≠ _ from fun e => by omega⟩
      · (go_simp; refine hK' _ _ (hs.keep ((Keep.refl (fun _ => False) w101).alloc _)) (fun hs => ?_); clear hK' K'; try simp only [Act.put, List.setIfInBounds_toArray, List.set_cons_zero, List.set_cons_succ])
        have hsz : w2.heap.size + 1 ≤ w101.heap.size := by have := HFS.out.size; simp at this; omega
        have HB7 := Blk.new w101 23 zeroR
        have HB7 := Lib.hid HB7
        have HFS := Lib.hid (HFS.out.alloc (.cells zeroR 23))
        have HG2 := Lib.hid (HG2.out.alloc (.cells zeroR 23))
        (refine wpAnyC_one 7 rfl (by kernel_rfl) (fun K' hK' => ?_); go_simp; refine (word3_calls hcc hs.1 (byte_at hs.2.2.out 3 (by omega) HY3.out) (byte_at hs.2.2.out 4 (by omega) HY4.out) G3.out G4.out).mono ?_; rintro e w108 ⟨rfl, D⟩; rw [Htd.out]; have HFS := Lib.hid (HFS.out.trans D.fresh (fun _ _ f => f)); have HG2 := Lib.hid (HG2.out.fresh D.fresh); have HB7 := Lib.hid (HB7.out.fresh D.fresh); refine hK' _ _ (ReadS.keep hs D.fresh) (fun hs => ?_); clear hK' K'; try simp only [Act.put, List.setIfInBounds_toArray, List.set_cons_zero, List.set_cons_succ])
        (refine wpAnyC_one 9 rfl (by kernel_rfl) (fun K' hK' => ?_); go_simp; refine (word5_calls hcc hs.1 (byte_at hs.2.2.out 5 (by omega) HY5.out) (byte_at hs.2.2.out 6 (by omega) HY6.out) G5.out G6.out).mono ?_; rintro e w109 ⟨rfl, D⟩; rw [Hino.out]; have HFS := Lib.hid (HFS.out.trans D.fresh (fun _ _ f => f)); have HG2 := Lib.hid (HG2.out.fresh D.fresh); have HB7 := Lib.hid (HB7.out.fresh D.fresh); refine hK' _ _ (ReadS.keep hs D.fresh) (fun hs => ?_); clear hK' K'; try simp only [Act.put, List.setIfInBounds_toArray, List.set_cons_zero, List.set_cons_succ])
        (refine wpAnyC_one 11 rfl (by kernel_rfl) (fun K' hK' => ?_); go_simp; refine (word7_calls hcc hs.1 (byte_at hs.2.2.out 7 (by omega) HY7.out) (byte_at hs.2.2.out 8 (by omega) HY8.out) G7.out G8.out).mono ?_; rintro e w110 ⟨rfl, D⟩; rw [Hold.out]; have HFS := Lib.hid (HFS.out.trans D.fresh (fun _ _ f => f)); have HG2 := Lib.hid (HG2.out.fresh D.fresh); have HB7 := Lib.hid (HB7.out.fresh D.fresh); refine hK' _ _ (ReadS.keep hs D.fresh) (fun hs => ?_); clear hK' K'; try simp only [Act.put, List.setIfInBounds_toArray, List.set_cons_zero, List.set_cons_succ])
        (refine wpAnyC_one 14 rfl (by kernel_rfl) (fun K' hK' => ?_); go_simp; refine (name9_calls hs.2.2.out HY9.out G9.out (by omega)).mono ?_; rintro e _ ⟨rfl, rfl⟩; rw [Hfn.out]; refine hK' _ _ hs (fun hs => ?_); clear hK' K'; try simp only [Act.put, List.setIfInBounds_toArray, List.set_cons_zero, List.set_cons_succ])
        (refine wpAnyC_one 17 rfl (by kernel_rfl) (fun K' hK' => ?_); go_simp; refine (name34_calls hs.2.2.out HY34.out G34.out (by omega)).mono ?_; rintro e _ ⟨rfl, rfl⟩; rw [Htn.out]; refine hK' _ _ hs (fun hs => ?_); clear hK' K'; try simp only [Act.put, List.setIfInBounds_toArray, List.set_cons_zero, List.set_cons_succ])
        (refine wpAnyC_do 18 (some 37) ?_ rfl rfl (by kernel_rfl) (by kernel_rfl) (by kernel_rfl) (fun _ _ _ h => h) (by rfl) ?_ (by assumption) ?_; rotate_left; (intro w' hS'; obtain ⟨s1, s2, -⟩ := hS'; go_simp; try with_reducible rfl); try simp only [Act.put, List.setIfInBounds_toArray, List.set_cons_zero, List.set_cons_succ])
        refine wpAnyC_one 20 rfl (by kernel_rfl) (fun K' hK' => ?_)
        rw [if_pos (by rfl)]
        refine wp_store_blk HB7.out 23 (.tmp 7) (.tmp 37) rfl 0 #[.bool on, .int .i64 fr, .int .i64 td, .int .i64 ino, .int .i64 old, .string fn, .string tn] (by go_simp) (by go_simp) (show 0 + 7 ≤ 7 by decide) rec_size (one_rec _ _ _ _ _ _ _) ?_
        intro w20 hb20 k20
        refine hK' _ _ (hs.keepS k20 (fun e => by omega) (fun e => by omega)) (fun _ => ?_)
        clear hK' K'
        try simp only [Act.put, List.setIfInBounds_toArray]
        refine wpAnyH_done (by kernel_rfl) ?_ _
        go_wp2_with fail
        go_meet
        have hb20 := hb20.out
        rw [show layC zeroR 0 _ = _ from lay_rec zeroR rfl _ _ _ _ _ _ _] at hb20
        exact ⟨_, rfl, hb20, (HF0.out.trans HFS.out (fun _ _ f => f)).trans k20 (fun b hb e => by omega), HG2.out.keep k20 (fun e => by omega), show _ ≠ _ from fun e => by omega⟩
    · (go_simp; refine hK' _ _ (hs.keep ((Keep.refl (fun _ => False) (w2.alloc (.cells #[.slice (some ⟨g2, 0, none⟩) 123 c2] 24)).drew).alloc _)) (fun hs => ?_); clear hK' K'; try simp only [Act.put, List.setIfInBounds_toArray, List.set_cons_zero, List.set_cons_succ])
      have hsz : w2.heap.size + 1 ≤ (w2.alloc (.cells #[.slice (some ⟨g2, 0, none⟩) 123 c2] 24)).drew.heap.size := by simp
      have HB7 := Blk.new (w2.alloc (.cells #[.slice (some ⟨g2, 0, none⟩) 123 c2] 24)).drew 23 zeroR
      rw [show (w2.alloc (.cells #[.slice (some ⟨g2, 0, none⟩) 123 c2] 24)).drew.heap.size = w2.heap.size + 1 from by simp] at HB7 hsz
      have HB7 := Lib.hid HB7
      have HFS := Lib.hid (HFS.out.alloc (.cells zeroR 23))
      have HG2 := Lib.hid (HG2.out.alloc (.cells zeroR 23))
      (refine wpAnyC_one 5 rfl (by kernel_rfl) (fun K' hK' => ?_); go_simp; refine (word1_calls hcc hs.1 (byte_at hs.2.2.out 1 (by omega) HY1.out) (byte_at hs.2.2.out 2 (by omega) HY2.out) G1.out G2.out).mono ?_; rintro e w111 ⟨rfl, D⟩; rw [Hfr.out]; have HFS := Lib.hid (HFS.out.trans D.fresh (fun _ _ f => f)); have HG2 := Lib.hid (HG2.out.fresh D.fresh); have HB7 := Lib.hid (HB7.out.fresh D.fresh); refine hK' _ _ (ReadS.keep hs D.fresh) (fun hs => ?_); clear hK' K'; try simp only [Act.put, List.setIfInBounds_toArray, List.set_cons_zero, List.set_cons_succ])
      (refine wpAnyC_one 7 rfl (by kernel_rfl) (fun K' hK' => ?_); go_simp; refine (word3_calls hcc hs.1 (byte_at hs.2.2.out 3 (by omega) HY3.out) (byte_at hs.2.2.out 4 (by omega) HY4.out) G3.out G4.out).mono ?_; rintro e w112 ⟨rfl, D⟩; rw [Htd.out]; have HFS := Lib.hid (HFS.out.trans D.fresh (fun _ _ f => f)); have HG2 := Lib.hid (HG2.out.fresh D.fresh); have HB7 := Lib.hid (HB7.out.fresh D.fresh); refine hK' _ _ (ReadS.keep hs D.fresh) (fun hs => ?_); clear hK' K'; try simp only [Act.put, List.setIfInBounds_toArray, List.set_cons_zero, List.set_cons_succ])
      (refine wpAnyC_one 9 rfl (by kernel_rfl) (fun K' hK' => ?_); go_simp; refine (word5_calls hcc hs.1 (byte_at hs.2.2.out 5 (by omega) HY5.out) (byte_at hs.2.2.out 6 (by omega) HY6.out) G5.out G6.out).mono ?_; rintro e w113 ⟨rfl, D⟩; rw [Hino.out]; have HFS := Lib.hid (HFS.out.trans D.fresh (fun _ _ f => f)); have HG2 := Lib.hid (HG2.out.fresh D.fresh); have HB7 := Lib.hid (HB7.out.fresh D.fresh); refine hK' _ _ (ReadS.keep hs D.fresh) (fun hs => ?_); clear hK' K'; try simp only [Act.put, List.setIfInBounds_toArray, List.set_cons_zero, List.set_cons_succ])
      (refine wpAnyC_one 11 rfl (by kernel_rfl) (fun K' hK' => ?_); go_simp; refine (word7_calls hcc hs.1 (byte_at hs.2.2.out 7 (by omega) HY7.out) (byte_at hs.2.2.out 8 (by omega) HY8.out) G7.out G8.out).mono ?_; rintro e w114 ⟨rfl, D⟩; rw [Hold.out]; have HFS := Lib.hid (HFS.out.trans D.fresh (fun _ _ f => f)); have HG2 := Lib.hid (HG2.out.fresh D.fresh); have HB7 := Lib.hid (HB7.out.fresh D.fresh); refine hK' _ _ (ReadS.keep hs D.fresh) (fun hs => ?_); clear hK' K'; try simp only [Act.put, List.setIfInBounds_toArray, List.set_cons_zero, List.set_cons_succ])
      (refine wpAnyC_one 14 rfl (by kernel_rfl) (fun K' hK' => ?_); go_simp; refine (name9_calls hs.2.2.out HY9.out G9.out (by omega)).mono ?_; rintro e _ ⟨rfl, rfl⟩; rw [Hfn.out]; refine hK' _ _ hs (fun hs => ?_); clear hK' K'; try simp only [Act.put, List.setIfInBounds_toArray, List.set_cons_zero, List.set_cons_succ])
      (refine wpAnyC_one 17 rfl (by kernel_rfl) (fun K' hK' => ?_); go_simp; refine (name34_calls hs.2.2.out HY34.out G34.out (by omega)).mono ?_; rintro e _ ⟨rfl, rfl⟩; rw [Htn.out]; refine hK' _ _ hs (fun hs => ?_); clear hK' K'; try simp only [Act.put, List.setIfInBounds_toArray, List.set_cons_zero, List.set_cons_succ])
      (refine wpAnyC_do 18 (some 37) ?_ rfl rfl (by kernel_rfl) (by kernel_rfl) (by kernel_rfl) (fun _ _ _ h => h) (by rfl) ?_ (by assumption) ?_; rotate_left; (intro w' hS'; obtain ⟨s1, s2, -⟩ := hS'; go_simp; try with_reducible rfl); try simp only [Act.put, List.setIfInBounds_toArray, List.set_cons_zero, List.set_cons_succ])
      refine wpAnyC_one 20 rfl (by kernel_rfl) (fun K' hK' => ?_)
      rw [if_pos (by rfl)]
      refine wp_store_blk HB7.out 23 (.tmp 7) (.tmp 37) rfl 0 #[.bool on, .int .i64 fr, .int .i64 td, .int .i64 ino, .int .i64 old, .string fn, .string tn] (by go_simp) (by go_simp) (show 0 + 7 ≤ 7 by decide) rec_size (one_rec _ _ _ _ _ _ _) ?_
      intro w20 hb20 k20
      refine hK' _ _ (hs.keepS k20 (fun e => by omega) (fun e => by omega)) (fun _ => ?_)
      clear hK' K'
      try simp only [Act.put, List.setIfInBounds_toArray]
      refine wpAnyH_done (by kernel_rfl) ?_ _
      go_wp2_with fail
      go_meet
      have hb20 := hb20.out
      rw [show layC zeroR 0 _ = _ from lay_rec zeroR rfl _ _ _ _ _ _ _] at hb20
      exact ⟨_, rfl, hb20, (HF0.out.trans HFS.out (fun _ _ f => f)).trans k20 (fun b hb e => by omega), HG2.out.keep k20 (fun e => by omega), show _ ≠ _ from fun e => by omega⟩
  case rest =>
    obtain ⟨g7, rfl, HB7, HF7, HG7, hg7⟩ := hcut
    have hlr := hr.fresh HF7.out
    have hwg := hg7.out
    by_cases hok : mayR ⟨on, fr, td, ino, old, fn, tn⟩ = true
    · have HOK := Lib.hid hok; clear hok
      by_cases hs : sealL 82 (bodyRL ⟨on, fr, td, ino, old, fn, tn⟩) = l
      · have HD1 := Lib.hid (decide_eq_true hs)
        have HS := Lib.hid hs; clear hs
        go_wp2_with (first
          | (refine wpList_load_blk HB7.out rfl 23 (.tmp 7) rfl rfl rec_und rfl rec_size ?_)
          | (go_at_call 11; refine (RcLay_calls ⟨on, fr, td, ino, old, fn, tn⟩ _ (by show fn.size ≤ _; omega) (by show tn.size ≤ _; omega)).mono ?_; rintro e w4 (⟨hno, -, -⟩ | ⟨-, v4, rfl, h4⟩); (exact absurd HOK.out (by rw [hno]; decide)); obtain ⟨A4, c4, rfl⟩ := h4.1.shape; have HB8 := Lib.hid (HB7.out.fresh h4.2.1); have HG8 := Lib.hid (HG7.out.fresh h4.2.1))
          | (go_at_call 42; refine (BytesEqual_calls _ (Rd.of_own h4.1) (hlr.fresh h4.2.1) (seal_bytes (by omega) (bodyRL_bytes (by show fn.size ≤ _; omega) (by show tn.size ≤ _; omega))) HB8'.out).mono ?_; rintro e w5 ⟨rfl, rfl⟩; rw [HD1.out])
          | (refine wpList_load_blk HB8.out rfl 23 (.tmp 7) rfl rfl rec_und rfl rec_size ?_)
          | (refine wpList_store_blk HG8.out rfl 23 (.tmp 2) (.tmp 52) rfl 0 #[.bool on, .int .i64 fr, .int .i64 td, .int .i64 ino, .int .i64 old, .string fn, .string tn] rfl rfl (show 0 + 7 ≤ 7 by decide) rec_size (one_rec _ _ _ _ _ _ _) ?_; intro w6 hb6 k6))
        (try simp only [Exit.inBlock, Exit.then])
        have hb6 := hb6.out
        rw [show layC zeroR 0 _ = _ from lay_rec zeroR rfl _ _ _ _ _ _ _] at hb6
        refine ret_cell hb6 rfl rfl rfl rfl rec_und rfl rec_size ?_
        exact rread_good HE.out HBD.out HDEC.out HOK.out HS.out rfl ((HF7.out.trans h4.2.1 (fun _ _ f => f)).trans k6 (fun b hb e => by omega))
      · have HD1 := Lib.hid (decide_eq_false hs)
        have HS := Lib.hid hs; clear hs
        go_wp2_with (first
          | (refine wpList_load_blk HB7.out rfl 23 (.tmp 7) rfl rfl rec_und rfl rec_size ?_)
          | (go_at_call 11; refine (RcLay_calls ⟨on, fr, td, ino, old, fn, tn⟩ _ (by show fn.size ≤ _; omega) (by show tn.size ≤ _; omega)).mono ?_; rintro e w4 (⟨hno, -, -⟩ | ⟨-, v4, rfl, h4⟩); (exact absurd HOK.out (by rw [hno]; decide)); obtain ⟨A4, c4, rfl⟩ := h4.1.shape; have HG8 := Lib.hid (HG7.out.fresh h4.2.1))
          | (go_at_call 42; refine (BytesEqual_calls _ (Rd.of_own h4.1) (hlr.fresh h4.2.1) (seal_bytes (by omega) (bodyRL_bytes (by show fn.size ≤ _; omega) (by show tn.size ≤ _; omega))) HB8'.out).mono ?_; rintro e w5 ⟨rfl, rfl⟩; rw [HD1.out])
          | (refine wpList_store_blk HG8.out rfl 23 (.tmp 2) (.tmp 51) rfl 0 zeroR rfl rfl (show 0 + 7 ≤ 7 by decide) rec_size (one_rec _ _ _ _ _ _ _) ?_; intro w6 hb6 k6))
        (try simp only [Exit.inBlock, Exit.then])
        have hb6 := hb6.out
        rw [show layC zeroR 0 zeroR.toList = zeroR from lay_rec zeroR rfl _ _ _ _ _ _ _] at hb6
        refine ret_cell hb6 rfl rfl rfl rfl rec_und rfl rec_size ?_
        exact rread_bad HBD.out HDEC.out (fun h => HS.out h.2) rfl ((HF7.out.trans h4.2.1 (fun _ _ f => f)).trans k6 (fun b hb e => by omega))
    · have HOK := Lib.hid hok; clear hok
      go_wp2_with (first
        | (refine wpList_load_blk HB7.out rfl 23 (.tmp 7) rfl rfl rec_und rfl rec_size ?_)
        | (go_at_call 11; refine (RcLay_calls ⟨on, fr, td, ino, old, fn, tn⟩ _ (by show fn.size ≤ _; omega) (by show tn.size ≤ _; omega)).mono ?_; rintro e w4 (⟨-, rfl, h4⟩ | ⟨hyes, -⟩); rotate_left; (exact absurd hyes HOK.out); have HG8 := Lib.hid (HG7.out.fresh h4))
        | (refine wpList_store_blk HG8.out rfl 23 (.tmp 2) (.tmp 51) rfl 0 zeroR rfl rfl (show 0 + 7 ≤ 7 by decide) rec_size (one_rec _ _ _ _ _ _ _) ?_; intro w6 hb6 k6))
      (try simp only [Exit.inBlock, Exit.then])
      have hb6 := hb6.out
      rw [show layC zeroR 0 zeroR.toList = zeroR from lay_rec zeroR rfl _ _ _ _ _ _ _] at hb6
      refine ret_cell hb6 rfl rfl rfl rfl rec_und rfl rec_size ?_
      exact rread_bad HBD.out HDEC.out (fun h => HOK.out h.1) rfl ((HF7.out.trans h4 (fun _ _ f => f)).trans k6 (fun b hb e => by omega))
end Go.Proofs.Ytcjackjoonijnaa
