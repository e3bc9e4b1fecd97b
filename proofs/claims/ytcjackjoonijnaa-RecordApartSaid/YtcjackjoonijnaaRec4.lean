/-
  Records: laid; walked.
-/
import Derived.Test.YtcjackjoonijnaaRec3
namespace Go.Proofs.Ytcjackjoonijnaa
open Go.RowKit

def goneR (on : Bool) (fr td ino old k : Int) : List Int := if k = 0 then [onI on] else if k = 1 then onI on :: be2 fr else if k = 2 then onI on :: (be2 fr ++ be2 td) else if k = 3 then onI on :: (be2 fr ++ be2 td ++ be2 ino) else onI on :: (be2 fr ++ be2 td ++ be2 ino ++ be2 old)
theorem gR1 (on : Bool) (fr td ino old : Int) : goneR on fr td ino old 0 ++ [fr / 256 % 256, fr % 256] = goneR on fr td ino old (0 + 1) := rfl
theorem gR2 (on : Bool) (fr td ino old : Int) : goneR on fr td ino old 1 ++ [td / 256 % 256, td % 256] = goneR on fr td ino old (1 + 1) := rfl
theorem gR3 (on : Bool) (fr td ino old : Int) : goneR on fr td ino old 2 ++ [ino / 256 % 256, ino % 256] = goneR on fr td ino old (2 + 1) := rfl
theorem gR4 (on : Bool) (fr td ino old : Int) : goneR on fr td ino old 3 ++ [old / 256 % 256, old % 256] = goneR on fr td ino old (3 + 1) := rfl
theorem gR5 (on : Bool) (fr td ino old : Int) : goneR on fr td ino old 4 = onI on :: (be2 fr ++ be2 td ++ be2 ino ++ be2 old) := rfl
theorem Blk.c4 {w : World} {g : Nat} {t : TypeId} {a0 a1 a2 a3 : Value} (h : Blk w g t #[a0, a1, a2, a3]) : w.cell? ⟨g, 0, none⟩ = some a0 ∧ w.cell? ⟨g, 1, none⟩ = some a1 ∧ w.cell? ⟨g, 2, none⟩ = some a2 ∧ w.cell? ⟨g, 3, none⟩ = some a3 := ⟨h.cell 0, h.cell 1, h.cell 2, h.cell 3⟩
theorem two_lit (w : World) (a b : Int) : Rd (w.alloc (.cells #[.int .u8 a, .int .u8 b] 5)) 1 (some ⟨w.heap.size, 0, none⟩) 2 (iv .u8 [a, b]) := Rd.lit' w (iv .u8 [a, b]) 5 1 2 w.heap.size rfl rfl (by omega)
theorem one_new {w0 w : World} (x : Int) (ty : TypeId) (cs : Array Value) (hk : Fresh w0 w) :
    NewB w0 ((w.alloc (.cells #[.int .u8 x] 5)).alloc (.cells cs ty)) 5 .u8 (.slice (some ⟨w.heap.size, 0, none⟩) 1 1) 1 [x] := by
  have := World.ownsRow_lit (size := 1) (base := 0) (e := 5) w #[.int .u8 x] 1 (Nat.zero_le _) (by simp [maxLen]) rfl
  exact ⟨World.ownsRow.alloc this _, (hk.alloc _).alloc _, fun k hk' => by simp [Value.ownBlock] at hk'; have := hk.size; omega⟩
theorem second_new {w : World} (o : Obj) (t : TypeId) (cs : Array Value) : Blk ((w.alloc o).alloc (.cells cs t)) (w.heap.size + 1) t cs := by
  have := Blk.new (w.alloc o) t cs
  rwa [show (w.alloc o).heap.size = w.heap.size + 1 from by simp] at this

set_option maxRecDepth 100000 in
set_option maxHeartbeats 4000000 in
theorem RcLay_calls (r : Rcd) (w : World) (hs1 : r.fn.size ≤ 1000000) (hs2 : r.tn.size ≤ 1000000) : Calls Try.prog 11 #[r.val] w (LayRPost r w) := by
  have hl := bodyRL_len (r := r)
  have hz := mayR_sizes (r := r)
  have hbody : bodyRL r = numL r ++ namedL r.fn ++ namedL r.tn := rfl
  have hnum : numL r = onI r.on :: (be2 r.fr ++ be2 r.td ++ be2 r.ino ++ be2 r.old) := rfl
  cases hm : mayR r
  · have hpost : ∀ e w', e = .returned (.tuple #[.slice none 0 0, .int .i64 2]) ∧ Fresh w w' → LayRPost r w e w' := fun e w' h => .inl ⟨hm, h⟩
    have HM := Lib.hid hm; clear hm
    refine Calls.mono ?_ hpost
    clear hpost hl hz hbody hnum
    obtain ⟨on, fr, td, ino, old, fn, tn⟩ := r
    unfold Rcd.val Rcd.cells
    dsimp only at hs1 hs2 ⊢
    go_enter Try.func11, Try.ntmps11
    go_wp2_with (first | (go_at_call 16; refine (RcMay_calls ⟨on, fr, td, ino, old, fn, tn⟩ _ hs1 hs2).mono ?_; rintro e w2 ⟨rfl, k2⟩; rw [HM.out]))
    go_ret2
    exact ⟨rfl, ((Keep.refl _ w).alloc _).trans k2 (fun _ _ f => f)⟩
  · have hpost : ∀ e w', SealPost w (sealL 82 (bodyRL r)) e w' → LayRPost r w e w' := fun e w' h => .inr ⟨hm, h⟩
    refine Calls.mono ?_ hpost
    obtain ⟨hz1, hz2⟩ := hz hm
    have hl := hl hm
    have HM := Lib.hid hm; clear hm
    clear hpost hz
    obtain ⟨b, hb⟩ : ∃ b, bodyRL r = b := ⟨_, rfl⟩
    obtain ⟨q, hq⟩ : ∃ q, numL r = q := ⟨_, rfl⟩
    rw [hb] at hl hbody ⊢
    rw [hq] at hbody hnum
    clear hb hq
    obtain ⟨on, fr, td, ino, old, fn, tn⟩ := r
    unfold Rcd.val Rcd.cells
    dsimp only at hz1 hz2 hbody hnum hs1 hs2 ⊢
    have HB := Lib.hid hbody; clear hbody
    have HN := Lib.hid hnum; clear hnum
    have HLN := Lib.hid hl; clear hl
    have HX0 := Lib.hid (Blk.new w 23 #[.bool on, .int .i64 fr, .int .i64 td, .int .i64 ino, .int .i64 old, .string fn, .string tn])
    cases on
    case false =>
      go_enter Try.func11, Try.ntmps11
      go_wp2_with (first | (go_at_call 16; refine (RcMay_calls ⟨false, fr, td, ino, old, fn, tn⟩ _ hs1 hs2).mono ?_; rintro e w2 ⟨rfl, k2⟩; rw [HM.out]; have HX := Lib.hid (HX0.out.fresh k2); obtain ⟨a0, a1, a2, a3, a4, a5, a6⟩ := Blk.c7 HX.out; have hsz : w.heap.size < w2.heap.size := HX.out.lt))
      have hn0 := Lib.hid (one_new (onI false) 3 #[.int .i64 fr, .int .i64 td, .int .i64 ino, .int .i64 old] k2)
      have hi0 := Lib.hid (second_new (w := w2) (.cells #[.int .u8 (onI false)] 5) 3 #[.int .i64 fr, .int .i64 td, .int .i64 ino, .int .i64 old])
      go_loopw [4, 25] (fun v i wr => ∃ (k : Int) (n : Nat), (k = 0 ∨ k = 1 ∨ k = 2 ∨ k = 3 ∨ k = 4) ∧ i = .int .i64 k ∧ Hid ((n : Int) = 1 + 2 * k) ∧ Hid (NewB (w.alloc (.cells #[.bool false, .int .i64 fr, .int .i64 td, .int .i64 ino, .int .i64 old, .string fn, .string tn] 23)) wr 5 .u8 v n (goneR false fr td ino old k)) ∧ Hid (Blk wr (w2.heap.size + 1) 3 #[.int .i64 fr, .int .i64 td, .int .i64 ino, .int .i64 old])) (fun _ i _ => 4 - (intOf i).toNat)
      case atStart => exact ⟨0, 1, by omega, rfl, (by decide : ((1 : Nat) : Int) = 1 + 2 * 0), hn0, hi0⟩
      case round =>
        obtain ⟨k, n, hk, rfl, HC, HV, HI⟩ := hrel
        obtain ⟨A, c, rfl⟩ := HV.out.1.shape
        obtain ⟨b0, b1, b2, b3⟩ := Blk.c4 HI.out
        obtain rfl | rfl | rfl | rfl | rfl := hk
        · have hr2 := Lib.hid (two_lit wr (fr / 256 % 256) (fr % 256))
          go_wp2_with (first | (at_builtin; refine app_u8 (l := goneR false fr td ino old 0) rfl (.tmp 29) (.tmp 35) rfl (World.ownsRow.alloc HV.out.1 _) rfl hr2.out rfl (by have := HC.out; omega) ?_; intro v1 w1 hw1 hg1 hb1; have h1 := Lib.hid (newB_app (HV.out.2.1.alloc _) HV.out.2.2 hw1 hg1 hb1); have hi1 := Lib.hid (Blk.grown (Blk.alloc HI.out _) hg1 (fun e => own_blk_ne (World.ownsRow.alloc HV.out.1 (.cells #[.int .u8 (fr / 256 % 256), .int .u8 (fr % 256)] 5)) (Blk.alloc HI.out _) (by decide) e.symm))))
          go_round
          case rel => exact ⟨_, n + 2, by omega, rfl, by have := HC.out; show ((n + 2 : Nat) : Int) = _; omega, gR1 false fr td ino old ▸ h1, hi1⟩
          case measure => simp [intOf]
        · have hr2 := Lib.hid (two_lit wr (td / 256 % 256) (td % 256))
          go_wp2_with (first | (at_builtin; refine app_u8 (l := goneR false fr td ino old 1) rfl (.tmp 29) (.tmp 35) rfl (World.ownsRow.alloc HV.out.1 _) rfl hr2.out rfl (by have := HC.out; omega) ?_; intro v1 w1 hw1 hg1 hb1; have h1 := Lib.hid (newB_app (HV.out.2.1.alloc _) HV.out.2.2 hw1 hg1 hb1); have hi1 := Lib.hid (Blk.grown (Blk.alloc HI.out _) hg1 (fun e => own_blk_ne (World.ownsRow.alloc HV.out.1 (.cells #[.int .u8 (td / 256 % 256), .int .u8 (td % 256)] 5)) (Blk.alloc HI.out _) (by decide) e.symm))))
          go_round
          case rel => exact ⟨_, n + 2, by omega, rfl, by have := HC.out; show ((n + 2 : Nat) : Int) = _; omega, gR2 false fr td ino old ▸ h1, hi1⟩
          case measure => simp [intOf]
        · have hr2 := Lib.hid (two_lit wr (ino / 256 % 256) (ino % 256))
          go_wp2_with (first | (at_builtin; refine app_u8 (l := goneR false fr td ino old 2) rfl (.tmp 29) (.tmp 35) rfl (World.ownsRow.alloc HV.out.1 _) rfl hr2.out rfl (by have := HC.out; omega) ?_; intro v1 w1 hw1 hg1 hb1; have h1 := Lib.hid (newB_app (HV.out.2.1.alloc _) HV.out.2.2 hw1 hg1 hb1); have hi1 := Lib.hid (Blk.grown (Blk.alloc HI.out _) hg1 (fun e => own_blk_ne (World.ownsRow.alloc HV.out.1 (.cells #[.int .u8 (ino / 256 % 256), .int .u8 (ino % 256)] 5)) (Blk.alloc HI.out _) (by decide) e.symm))))
          go_round
          case rel => exact ⟨_, n + 2, by omega, rfl, by have := HC.out; show ((n + 2 : Nat) : Int) = _; omega, gR3 false fr td ino old ▸ h1, hi1⟩
          case measure => simp [intOf]
        · have hr2 := Lib.hid (two_lit wr (old / 256 % 256) (old % 256))
          go_wp2_with (first | (at_builtin; refine app_u8 (l := goneR false fr td ino old 3) rfl (.tmp 29) (.tmp 35) rfl (World.ownsRow.alloc HV.out.1 _) rfl hr2.out rfl (by have := HC.out; omega) ?_; intro v1 w1 hw1 hg1 hb1; have h1 := Lib.hid (newB_app (HV.out.2.1.alloc _) HV.out.2.2 hw1 hg1 hb1); have hi1 := Lib.hid (Blk.grown (Blk.alloc HI.out _) hg1 (fun e => own_blk_ne (World.ownsRow.alloc HV.out.1 (.cells #[.int .u8 (old / 256 % 256), .int .u8 (old % 256)] 5)) (Blk.alloc HI.out _) (by decide) e.symm))))
          go_round
          case rel => exact ⟨_, n + 2, by omega, rfl, by have := HC.out; show ((n + 2 : Nat) : Int) = _; omega, gR4 false fr td ino old ▸ h1, hi1⟩
          case measure => simp [intOf]
        · obtain rfl : n = 9 := by have := HC.out; omega
          have h3 := newB_drew HV.out
          rw [gR5, ← show q = _ from HN.out] at h3
          have H3 := Lib.hid h3; clear h3
          go_wp2
          have hS := blk_s HX0.out H3.out.2.1
          refine wp_region_held_drew (S := fun w' => w'.cell? ⟨w.heap.size, 5, none⟩ = some (.string fn) ∧ w'.cell? ⟨w.heap.size, 6, none⟩ = some (.string tn)) (by kernel_rfl) hS (fun _ => ?_)
          clear hS
          (refine wpAnyC_do 0 (some 38) ?_ rfl rfl (by kernel_rfl) (by kernel_rfl) (by kernel_rfl) (fun _ _ _ h => h) (by rfl) ?_ (by assumption) ?_; rotate_left; (intro w' hS'; (try dsimp only at hS'); go_simp; try with_reducible rfl); try simp only [Act.put, List.setIfInBounds_toArray, List.set_cons_zero, List.set_cons_succ])
          (refine wpAnyC_do 1 (some 39) ?_ rfl rfl (by kernel_rfl) (by kernel_rfl) (by kernel_rfl) (fun _ _ _ h => h) (by rfl) ?_ (by assumption) ?_; rotate_left; (intro w' hS'; (try dsimp only at hS'); go_simp; try with_reducible rfl); try simp only [Act.put, List.setIfInBounds_toArray, List.set_cons_zero, List.set_cons_succ])
          (refine wpAnyC_do 2 (some 40) (.string fn) rfl rfl (by kernel_rfl) (by kernel_rfl) (by kernel_rfl) (fun _ _ _ h => h) (by rfl) ?_ (by assumption) ?_; (intro w' hS'; (try dsimp only at hS'); go_simp; try with_reducible rfl); try simp only [Act.put, List.setIfInBounds_toArray, List.set_cons_zero, List.set_cons_succ])
          (refine wpAnyC_do 5 (some 43) ?_ rfl rfl (by kernel_rfl) (by kernel_rfl) (by kernel_rfl) (fun _ _ _ h => h) (by rfl) ?_ (by assumption) ?_; rotate_left; (intro w' hS'; (try dsimp only at hS'); go_simp; try with_reducible rfl); try simp only [Act.put, List.setIfInBounds_toArray, List.set_cons_zero, List.set_cons_succ])
          (refine wpAnyC_do 6 (some 44) (.string tn) rfl rfl (by kernel_rfl) (by kernel_rfl) (by kernel_rfl) (fun _ _ _ h => h) (by rfl) ?_ (by assumption) ?_; (intro w' hS'; (try dsimp only at hS'); go_simp; try with_reducible rfl); try simp only [Act.put, List.setIfInBounds_toArray, List.set_cons_zero, List.set_cons_succ])
          (refine wpAnyC_one 3 rfl (by kernel_rfl) (fun K' hK' => ?_); go_simp; refine (named_calls fn _ hz1).mono ?_; rintro e w4 ⟨v4, rfl, h4⟩; obtain ⟨A4, c4, rfl⟩ := h4.1.shape; have h5 := H3.out.2.1.trans h4.2.1 (fun _ _ f => f); refine hK' _ _ (blk_s HX0.out h5) (fun _ => ?_); clear hK' K'; try simp only [Act.put, List.setIfInBounds_toArray, List.set_cons_zero, List.set_cons_succ])
          refine wpAnyC_one 4 rfl (by kernel_rfl) (fun K' hK' => ?_)
          refine step_u8 (l := q) rfl (.tmp 38) (.tmp 41) rfl (own_keep H3.out.1 h4.2.1 (fun _ _ f => f)) (by rfl) (Rd.of_own h4.1) (by rfl) (by decide) ?_
          intro v5 w5 ho5 hg5 hb5
          have h6 := newB_app h5 H3.out.2.2 ho5 hg5 hb5
          obtain ⟨A5, c5, rfl⟩ := h6.1.shape
          refine hK' _ _ (blk_s HX0.out h6.2.1) (fun _ => ?_)
          clear hK' K' ho5 hg5 hb5
          try simp only [Act.put, List.setIfInBounds_toArray, List.set_cons_zero, List.set_cons_succ]
          (refine wpAnyC_one 7 rfl (by kernel_rfl) (fun K' hK' => ?_); go_simp; refine (named_calls tn _ hz2).mono ?_; rintro e w7 ⟨v7, rfl, h7⟩; obtain ⟨A7, c7, rfl⟩ := h7.1.shape; have h8 := h6.2.1.trans h7.2.1 (fun _ _ f => f); refine hK' _ _ (blk_s HX0.out h8) (fun _ => ?_); clear hK' K'; try simp only [Act.put, List.setIfInBounds_toArray, List.set_cons_zero, List.set_cons_succ])
          refine wpAnyC_one 8 rfl (by kernel_rfl) (fun K' hK' => ?_)
          refine step_u8 (l := q ++ namedL fn) rfl (.tmp 42) (.tmp 45) rfl (own_keep h6.1 h7.2.1 (fun _ _ f => f)) (by rfl) (Rd.of_own h7.1) (by rfl) (by decide) ?_
          intro v9 w9 ho9 hg9 hb9
          have h10 := newB_app h8 h6.2.2 ho9 hg9 hb9
          obtain ⟨A9, c9, rfl⟩ := h10.1.shape
          refine hK' _ _ (blk_s HX0.out h10.2.1) (fun _ => ?_)
          clear hK' K' ho9 hg9 hb9
          rw [← show b = _ from HB.out] at h10
          try simp only [Act.put, List.setIfInBounds_toArray, List.set_cons_zero, List.set_cons_succ]
          (refine wpAnyC_one 9 rfl (by kernel_rfl) (fun K' hK' => ?_); go_simp; refine (Seal_calls _ 82 (Rd.of_own h10.1) (by decide) (by decide)).mono ?_; rintro e w11 ⟨v11, rfl, h11⟩; refine hK' _ _ (blk_s HX0.out (h10.2.1.trans h11.2.1 (fun _ _ f => f))) (fun _ => ?_); clear hK' K'; try simp only [Act.put, List.setIfInBounds_toArray, List.set_cons_zero, List.set_cons_succ])
          (refine wpAnyC_do 10 (some 48) ?_ rfl rfl (by kernel_rfl) (by kernel_rfl) (by kernel_rfl) (fun _ _ _ h => h) (by rfl) ?_ (by assumption) ?_; rotate_left; (intro w' hS'; (try dsimp only at hS'); go_simp; try with_reducible rfl); try simp only [Act.put, List.setIfInBounds_toArray, List.set_cons_zero, List.set_cons_succ])
          (refine wpAnyC_do 11 (some 49) ?_ rfl rfl (by kernel_rfl) (by kernel_rfl) (by kernel_rfl) (fun _ _ _ h => h) (by rfl) ?_ (by assumption) ?_; rotate_left; (intro w' hS'; (try dsimp only at hS'); go_simp; try with_reducible rfl); try simp only [Act.put, List.setIfInBounds_toArray, List.set_cons_zero, List.set_cons_succ])
          (refine wpAnyC_do 12 (some 2) ?_ rfl rfl (by kernel_rfl) (by kernel_rfl) (by kernel_rfl) (fun _ _ _ h => h) (by rfl) ?_ (by assumption) ?_; rotate_left; (intro w' hS'; (try dsimp only at hS'); go_simp; try with_reducible rfl); try simp only [Act.put, List.setIfInBounds_toArray, List.set_cons_zero, List.set_cons_succ])
          (refine wpAnyC_do 13 (some 3) ?_ rfl rfl (by kernel_rfl) (by kernel_rfl) (by kernel_rfl) (fun _ _ _ h => h) (by rfl) ?_ (by assumption) ?_; rotate_left; (intro w' hS'; (try dsimp only at hS'); go_simp; try with_reducible rfl); try simp only [Act.put, List.setIfInBounds_toArray, List.set_cons_zero, List.set_cons_succ])
          refine wpAnyH_done (by kernel_rfl) ?_ _
          go_wp2
          go_ret2
          have hw0 : Fresh w (w.alloc (.cells #[.bool false, .int .i64 fr, .int .i64 td, .int .i64 ino, .int .i64 old, .string fn, .string tn] 23)) := (Keep.refl _ w).alloc _
          exact ⟨_, rfl, h11.1, (hw0.trans h10.2.1 (fun _ _ f => f)).trans h11.2.1 (fun _ _ f => f), fun b hb => Nat.le_trans (Nat.le_trans hw0.size h10.2.1.size) (h11.2.2 b hb)⟩
    case true =>
      go_enter Try.func11, Try.ntmps11
      go_wp2_with (first | (go_at_call 16; refine (RcMay_calls ⟨true, fr, td, ino, old, fn, tn⟩ _ hs1 hs2).mono ?_; rintro e w2 ⟨rfl, k2⟩; rw [HM.out]; have HX := Lib.hid (HX0.out.fresh k2); obtain ⟨a0, a1, a2, a3, a4, a5, a6⟩ := Blk.c7 HX.out; have hsz : w.heap.size < w2.heap.size := HX.out.lt))
      have hn0 := Lib.hid (one_new (onI true) 3 #[.int .i64 fr, .int .i64 td, .int .i64 ino, .int .i64 old] k2)
      have hi0 := Lib.hid (second_new (w := w2) (.cells #[.int .u8 (onI true)] 5) 3 #[.int .i64 fr, .int .i64 td, .int .i64 ino, .int .i64 old])
      go_loopw [4, 25] (fun v i wr => ∃ (k : Int) (n : Nat), (k = 0 ∨ k = 1 ∨ k = 2 ∨ k = 3 ∨ k = 4) ∧ i = .int .i64 k ∧ Hid ((n : Int) = 1 + 2 * k) ∧ Hid (NewB (w.alloc (.cells #[.bool true, .int .i64 fr, .int .i64 td, .int .i64 ino, .int .i64 old, .string fn, .string tn] 23)) wr 5 .u8 v n (goneR true fr td ino old k)) ∧ Hid (Blk wr (w2.heap.size + 1) 3 #[.int .i64 fr, .int .i64 td, .int .i64 ino, .int .i64 old])) (fun _ i _ => 4 - (intOf i).toNat)
      case atStart => exact ⟨0, 1, by omega, rfl, (by decide : ((1 : Nat) : Int) = 1 + 2 * 0), hn0, hi0⟩
      case round =>
        obtain ⟨k, n, hk, rfl, HC, HV, HI⟩ := hrel
        obtain ⟨A, c, rfl⟩ := HV.out.1.shape
        obtain ⟨b0, b1, b2, b3⟩ := Blk.c4 HI.out
        obtain rfl | rfl | rfl | rfl | rfl := hk
        · have hr2 := Lib.hid (two_lit wr (fr / 256 % 256) (fr % 256))
          go_wp2_with (first | (at_builtin; refine app_u8 (l := goneR true fr td ino old 0) rfl (.tmp 29) (.tmp 35) rfl (World.ownsRow.alloc HV.out.1 _) rfl hr2.out rfl (by have := HC.out; omega) ?_; intro v1 w1 hw1 hg1 hb1; have h1 := Lib.hid (newB_app (HV.out.2.1.alloc _) HV.out.2.2 hw1 hg1 hb1); have hi1 := Lib.hid (Blk.grown (Blk.alloc HI.out _) hg1 (fun e => own_blk_ne (World.ownsRow.alloc HV.out.1 (.cells #[.int .u8 (fr / 256 % 256), .int .u8 (fr % 256)] 5)) (Blk.alloc HI.out _) (by decide) e.symm))))
          go_round
          case rel => exact ⟨_, n + 2, by omega, rfl, by have := HC.out; show ((n + 2 : Nat) : Int) = _; omega, gR1 true fr td ino old ▸ h1, hi1⟩
          case measure => simp [intOf]
        · have hr2 := Lib.hid (two_lit wr (td / 256 % 256) (td % 256))
          go_wp2_with (first | (at_builtin; refine app_u8 (l := goneR true fr td ino old 1) rfl (.tmp 29) (.tmp 35) rfl (World.ownsRow.alloc HV.out.1 _) rfl hr2.out rfl (by have := HC.out; omega) ?_; intro v1 w1 hw1 hg1 hb1; have h1 := Lib.hid (newB_app (HV.out.2.1.alloc _) HV.out.2.2 hw1 hg1 hb1); have hi1 := Lib.hid (Blk.grown (Blk.alloc HI.out _) hg1 (fun e => own_blk_ne (World.ownsRow.alloc HV.out.1 (.cells #[.int .u8 (td / 256 % 256), .int .u8 (td % 256)] 5)) (Blk.alloc HI.out _) (by decide) e.symm))))
          go_round
          case rel => exact ⟨_, n + 2, by omega, rfl, by have := HC.out; show ((n + 2 : Nat) : Int) = _; omega, gR2 true fr td ino old ▸ h1, hi1⟩
          case measure => simp [intOf]
        · have hr2 := Lib.hid (two_lit wr (ino / 256 % 256) (ino % 256))
          go_wp2_with (first | (at_builtin; refine app_u8 (l := goneR true fr td ino old 2) rfl (.tmp 29) (.tmp 35) rfl (World.ownsRow.alloc HV.out.1 _) rfl hr2.out rfl (by have := HC.out; omega) ?_; intro v1 w1 hw1 hg1 hb1; have h1 := Lib.hid (newB_app (HV.out.2.1.alloc _) HV.out.2.2 hw1 hg1 hb1); have hi1 := Lib.hid (Blk.grown (Blk.alloc HI.out _) hg1 (fun e => own_blk_ne (World.ownsRow.alloc HV.out.1 (.cells #[.int .u8 (ino / 256 % 256), .int .u8 (ino % 256)] 5)) (Blk.alloc HI.out _) (by decide) e.symm))))
          go_round
          case rel => exact ⟨_, n + 2, by omega, rfl, by have := HC.out; show ((n + 2 : Nat) : Int) = _; omega, gR3 true fr td ino old ▸ h1, hi1⟩
          case measure => simp [intOf]
        · have hr2 := Lib.hid (two_lit wr (old / 256 % 256) (old % 256))
          go_wp2_with (first | (at_builtin; refine app_u8 (l := goneR true fr td ino old 3) rfl (.tmp 29) (.tmp 35) rfl (World.ownsRow.alloc HV.out.1 _) rfl hr2.out rfl (by have := HC.out; omega) ?_; intro v1 w1 hw1 hg1 hb1; have h1 := Lib.hid (newB_app (HV.out.2.1.alloc _) HV.out.2.2 hw1 hg1 hb1); have hi1 := Lib.hid (Blk.grown (Blk.alloc HI.out _) hg1 (fun e => own_blk_ne (World.ownsRow.alloc HV.out.1 (.cells #[.int .u8 (old / 256 % 256), .int .u8 (old % 256)] 5)) (Blk.alloc HI.out _) (by decide) e.symm))))
          go_round
          case rel => exact ⟨_, n + 2, by omega, rfl, by have := HC.out; show ((n + 2 : Nat) : Int) = _; omega, gR4 true fr td ino old ▸ h1, hi1⟩
          case measure => simp [intOf]
        · obtain rfl : n = 9 := by have := HC.out; omega
          have h3 := newB_drew HV.out
          rw [gR5, ← show q = _ from HN.out] at h3
          have H3 := Lib.hid h3; clear h3
          go_wp2
          have hS := blk_s HX0.out H3.out.2.1
          refine wp_region_held_drew (S := fun w' => w'.cell? ⟨w.heap.size, 5, none⟩ = some (.string fn) ∧ w'.cell? ⟨w.heap.size, 6, none⟩ = some (.string tn)) (by kernel_rfl) hS (fun _ => ?_)
          clear hS
          (refine wpAnyC_do 0 (some 38) ?_ rfl rfl (by kernel_rfl) (by kernel_rfl) (by kernel_rfl) (fun _ _ _ h => h) (by rfl) ?_ (by assumption) ?_; rotate_left; (intro w' hS'; (try dsimp only at hS'); go_simp; try with_reducible rfl); try simp only [Act.put, List.setIfInBounds_toArray, List.set_cons_zero, List.set_cons_succ])
          (refine wpAnyC_do 1 (some 39) ?_ rfl rfl (by kernel_rfl) (by kernel_rfl) (by kernel_rfl) (fun _ _ _ h => h) (by rfl) ?_ (by assumption) ?_; rotate_left; (intro w' hS'; (try dsimp only at hS'); go_simp; try with_reducible rfl); try simp only [Act.put, List.setIfInBounds_toArray, List.set_cons_zero, List.set_cons_succ])
          (refine wpAnyC_do 2 (some 40) (.string fn) rfl rfl (by kernel_rfl) (by kernel_rfl) (by kernel_rfl) (fun _ _ _ h => h) (by rfl) ?_ (by assumption) ?_; (intro w' hS'; (try dsimp only at hS'); go_simp; try with_reducible rfl); try simp only [Act.put, List.setIfInBounds_toArray, List.set_cons_zero, List.set_cons_succ])
          (refine wpAnyC_do 5 (some 43) ?_ rfl rfl (by kernel_rfl) (by kernel_rfl) (by kernel_rfl) (fun _ _ _ h => h) (by rfl) ?_ (by assumption) ?_; rotate_left; (intro w' hS'; (try dsimp only at hS'); go_simp; try with_reducible rfl); try simp only [Act.put, List.setIfInBounds_toArray, List.set_cons_zero, List.set_cons_succ])
          (refine wpAnyC_do 6 (some 44) (.string tn) rfl rfl (by kernel_rfl) (by kernel_rfl) (by kernel_rfl) (fun _ _ _ h => h) (by rfl) ?_ (by assumption) ?_; (intro w' hS'; (try dsimp only at hS'); go_simp; try with_reducible rfl); try simp only [Act.put, List.setIfInBounds_toArray, List.set_cons_zero, List.set_cons_succ])
          (refine wpAnyC_one 3 rfl (by kernel_rfl) (fun K' hK' => ?_); go_simp; refine (named_calls fn _ hz1).mono ?_; rintro e w4 ⟨v4, rfl, h4⟩; obtain ⟨A4, c4, rfl⟩ := h4.1.shape; have h5 := H3.out.2.1.trans h4.2.1 (fun _ _ f => f); refine hK' _ _ (blk_s HX0.out h5) (fun _ => ?_); clear hK' K'; try simp only [Act.put, List.setIfInBounds_toArray, List.set_cons_zero, List.set_cons_succ])
          refine wpAnyC_one 4 rfl (by kernel_rfl) (fun K' hK' => ?_)
          refine step_u8 (l := q) rfl (.tmp 38) (.tmp 41) rfl (own_keep H3.out.1 h4.2.1 (fun _ _ f => f)) (by rfl) (Rd.of_own h4.1) (by rfl) (by decide) ?_
          intro v5 w5 ho5 hg5 hb5
          have h6 := newB_app h5 H3.out.2.2 ho5 hg5 hb5
          obtain ⟨A5, c5, rfl⟩ := h6.1.shape
          refine hK' _ _ (blk_s HX0.out h6.2.1) (fun _ => ?_)
          clear hK' K' ho5 hg5 hb5
          try simp only [Act.put, List.setIfInBounds_toArray, List.set_cons_zero, List.set_cons_succ]
          (refine wpAnyC_one 7 rfl (by kernel_rfl) (fun K' hK' => ?_); go_simp; refine (named_calls tn _ hz2).mono ?_; rintro e w7 ⟨v7, rfl, h7⟩; obtain ⟨A7, c7, rfl⟩ := h7.1.shape; have h8 := h6.2.1.trans h7.2.1 (fun _ _ f => f); refine hK' _ _ (blk_s HX0.out h8) (fun _ => ?_); clear hK' K'; try simp only [Act.put, List.setIfInBounds_toArray, List.set_cons_zero, List.set_cons_succ])
          refine wpAnyC_one 8 rfl (by kernel_rfl) (fun K' hK' => ?_)
          refine step_u8 (l := q ++ namedL fn) rfl (.tmp 42) (.tmp 45) rfl (own_keep h6.1 h7.2.1 (fun _ _ f => f)) (by rfl) (Rd.of_own h7.1) (by rfl) (by decide) ?_
          intro v9 w9 ho9 hg9 hb9
          have h10 := newB_app h8 h6.2.2 ho9 hg9 hb9
          obtain ⟨A9, c9, rfl⟩ := h10.1.shape
          refine hK' _ _ (blk_s HX0.out h10.2.1) (fun _ => ?_)
          clear hK' K' ho9 hg9 hb9
          rw [← show b = _ from HB.out] at h10
          try simp only [Act.put, List.setIfInBounds_toArray, List.set_cons_zero, List.set_cons_succ]
          (refine wpAnyC_one 9 rfl (by kernel_rfl) (fun K' hK' => ?_); go_simp; refine (Seal_calls _ 82 (Rd.of_own h10.1) (by decide) (by decide)).mono ?_; rintro e w11 ⟨v11, rfl, h11⟩; refine hK' _ _ (blk_s HX0.out (h10.2.1.trans h11.2.1 (fun _ _ f => f))) (fun _ => ?_); clear hK' K'; try simp only [Act.put, List.setIfInBounds_toArray, List.set_cons_zero, List.set_cons_succ])
          (refine wpAnyC_do 10 (some 48) ?_ rfl rfl (by kernel_rfl) (by kernel_rfl) (by kernel_rfl) (fun _ _ _ h => h) (by rfl) ?_ (by assumption) ?_; rotate_left; (intro w' hS'; (try dsimp only at hS'); go_simp; try with_reducible rfl); try simp only [Act.put, List.setIfInBounds_toArray, List.set_cons_zero, List.set_cons_succ])
          (refine wpAnyC_do 11 (some 49) ?_ rfl rfl (by kernel_rfl) (by kernel_rfl) (by kernel_rfl) (fun _ _ _ h => h) (by rfl) ?_ (by assumption) ?_; rotate_left; (intro w' hS'; (try dsimp only at hS'); go_simp; try with_reducible rfl); try simp only [Act.put, List.setIfInBounds_toArray, List.set_cons_zero, List.set_cons_succ])
          (refine wpAnyC_do 12 (some 2) ?_ rfl rfl (by kernel_rfl) (by kernel_rfl) (by kernel_rfl) (fun _ _ _ h => h) (by rfl) ?_ (by assumption) ?_; rotate_left; (intro w' hS'; (try dsimp only at hS'); go_simp; try with_reducible rfl); try simp only [Act.put, List.setIfInBounds_toArray, List.set_cons_zero, List.set_cons_succ])
          (refine wpAnyC_do 13 (some 3) ?_ rfl rfl (by kernel_rfl) (by kernel_rfl) (by kernel_rfl) (fun _ _ _ h => h) (by rfl) ?_ (by assumption) ?_; rotate_left; (intro w' hS'; (try dsimp only at hS'); go_simp; try with_reducible rfl); try simp only [Act.put, List.setIfInBounds_toArray, List.set_cons_zero, List.set_cons_succ])
          refine wpAnyH_done (by kernel_rfl) ?_ _
          go_wp2
          go_ret2
          have hw0 : Fresh w (w.alloc (.cells #[.bool true, .int .i64 fr, .int .i64 td, .int .i64 ino, .int .i64 old, .string fn, .string tn] 23)) := (Keep.refl _ w).alloc _
          exact ⟨_, rfl, h11.1, (hw0.trans h10.2.1 (fun _ _ f => f)).trans h11.2.1 (fun _ _ f => f), fun b hb => Nat.le_trans (Nat.le_trans hw0.size h10.2.1.size) (h11.2.2 b hb)⟩
end Go.Proofs.Ytcjackjoonijnaa
