/-
  Records: laid in the document's own text; walked.
-/
import Derived.Test.YtcjackjoonijnaaRec2
namespace Go.Proofs.Ytcjackjoonijnaa
open Go.RowKit

def be2 (x : Int) : List Int := [x / 256 % 256, x % 256]
def onI (b : Bool) : Int := if b then 1 else 0
def numL (r : Rcd) : List Int := onI r.on :: (be2 r.fr ++ be2 r.td ++ be2 r.ino ++ be2 r.old)
def bodyRL (r : Rcd) : List Int := numL r ++ namedL r.fn ++ namedL r.tn
def LayRPost (r : Rcd) (w : World) (e : Ending) (w' : World) : Prop := (mayR r = false ∧ e = .returned (.tuple #[.slice none 0 0, .int .i64 2]) ∧ Fresh w w') ∨ (mayR r = true ∧ SealPost w (sealL 82 (bodyRL r)) e w')
theorem mayR_sizes {r : Rcd} (h : mayR r = true) : r.fn.size ≤ 24 ∧ r.tn.size ≤ 24 := by
  unfold mayR at h
  rcases Bool.or_eq_true _ _ ▸ h with h | h
  · rw [eqRB_iff] at h
    subst h
    exact ⟨by decide, by decide⟩
  · simp only [restB, Bool.and_eq_true] at h
    obtain ⟨-, -, -, -, -, -, -, h1, h2⟩ := h
    exact ⟨(nameB_size h1).2, (nameB_size h2).2⟩
theorem bodyRL_len {r : Rcd} (h : mayR r = true) : (bodyRL r).length = 59 := by
  have := mayR_sizes h
  simp [bodyRL, numL, be2, namedL_len _ this.1, namedL_len _ this.2]
theorem blk_s {w W : World} {g : Nat} {t : TypeId} {a0 a1 a2 a3 a4 a5 a6 : Value} (h : Blk w g t #[a0, a1, a2, a3, a4, a5, a6]) (k : Fresh w W) : W.cell? ⟨g, 5, none⟩ = some a5 ∧ W.cell? ⟨g, 6, none⟩ = some a6 := ⟨(h.fresh k).cell 5, (h.fresh k).cell 6⟩

theorem newB_drew {w w' : World} {e : TypeId} {ki : IntKind} {v : Value} {n : Nat} {l : List Int} (h : NewB w w' e ki v n l) : NewB w w'.drew e ki v n l := ⟨own_keep h.1 (Keep.refl (fun _ => False) w').drew (fun _ _ f => f), h.2.1.drew, h.2.2⟩
theorem num_lit {w0 w : World} (on : Bool) (fr td ino old : Int) (hk : Fresh w0 w) :
    NewB w0 (w.alloc (.cells #[.int .u8 (onI on), .int .u8 (fr / 256 % 256), .int .u8 (fr % 256), .int .u8 (td / 256 % 256), .int .u8 (td % 256), .int .u8 (ino / 256 % 256), .int .u8 (ino % 256), .int .u8 (old / 256 % 256), .int .u8 (old % 256)] 5)) 5 .u8 (.slice (some ⟨w.heap.size, 0, none⟩) 9 9) 9 (onI on :: (be2 fr ++ be2 td ++ be2 ino ++ be2 old)) := by
  have := World.ownsRow_lit (size := 1) (base := 0) (e := 5) w #[.int .u8 (onI on), .int .u8 (fr / 256 % 256), .int .u8 (fr % 256), .int .u8 (td / 256 % 256), .int .u8 (td % 256), .int .u8 (ino / 256 % 256), .int .u8 (ino % 256), .int .u8 (old / 256 % 256), .int .u8 (old % 256)] 9 (Nat.zero_le _) (by simp [maxLen]) rfl
  exact ⟨this, hk.alloc _, fun k hk' => by simp [Value.ownBlock] at hk'; have := hk.size; omega⟩
theorem rec_fresh {w0 w' : World} {o : Obj} {e : TypeId} {ki : IntKind} {v : Value} {n : Nat} {l : List Int} (h : NewB (w0.alloc o) w' e ki v n l) : Fresh (w0.alloc o) w' := h.2.1

set_option maxRecDepth 100000 in
set_option maxHeartbeats 4000000 in
theorem RcRLay_calls (r : Rcd) (w : World) : Calls Try.prog 12 #[r.val] w (LayRPost r w) := by
  have hl := bodyRL_len (r := r)
  have hz := mayR_sizes (r := r)
  have hbody : bodyRL r = numL r ++ namedL r.fn ++ namedL r.tn := rfl
  have hnum : numL r = onI r.on :: (be2 r.fr ++ be2 r.td ++ be2 r.ino ++ be2 r.old) := rfl
  cases hm : mayR r
  · have hpost : ∀ e w', e = .returned (.tuple #[.slice none 0 0, .int .i64 2]) ∧ Fresh w w' → LayRPost r w e w' := fun e w' h => .inl ⟨hm, h⟩
    have HM := Lib.hid hm; clear hm
    refine Calls.mono ?_ hpost
    clear hpost hl hz hbody hnum
    obtain ⟨on, fr, td, ino, old, fn, tn⟩ := r
    unfold Rcd.val Rcd.cells
    dsimp only
    go_enter Try.func12, Try.ntmps12
    go_wp2_with (first | (go_at_call 17; refine (RRcMay_calls ⟨on, fr, td, ino, old, fn, tn⟩ _).mono ?_; rintro e w2 ⟨rfl, k2⟩; rw [HM.out]))
    go_ret2
    exact ⟨rfl, ((Keep.refl _ w).alloc _).trans k2 (fun _ _ f => f)⟩
  · have hpost : ∀ e w', SealPost w (sealL 82 (bodyRL r)) e w' → LayRPost r w e w' := fun e w' h => .inr ⟨hm, h⟩
    refine Calls.mono ?_ hpost
    obtain ⟨hz1, hz2⟩ := hz hm
    have hl := hl hm
    have HM := Lib.hid hm; clear hm
    clear hpost hz
    obtain ⟨b, hb⟩ : ∃ b, bodyRL r = b := ⟨_, rfl⟩
    obtain ⟨q, hq⟩ : ∃ q, numL r = q := ⟨_, rfl⟩
    rw [hb] at hl hbody ⊢
    rw [hq] at hbody hnum
    clear hb hq
    obtain ⟨on, fr, td, ino, old, fn, tn⟩ := r
    unfold Rcd.val Rcd.cells
    dsimp only at hz1 hz2 hbody hnum ⊢
    have HB := Lib.hid hbody; clear hbody
    have HN := Lib.hid hnum; clear hnum
    have HLN := Lib.hid hl; clear hl
    have HX0 := Lib.hid (Blk.new w 23 #[.bool on, .int .i64 fr, .int .i64 td, .int .i64 ino, .int .i64 old, .string fn, .string tn])
    cases on
    case false =>
      go_enter Try.func12, Try.ntmps12
      go_wp2_with (first | (go_at_call 17; refine (RRcMay_calls ⟨false, fr, td, ino, old, fn, tn⟩ _).mono ?_; rintro e w2 ⟨rfl, k2⟩; rw [HM.out]; have HX := Lib.hid (HX0.out.fresh k2); obtain ⟨a0, a1, a2, a3, a4, a5, a6⟩ := Blk.c7 HX.out; have hsz : w.heap.size < w2.heap.size := HX.out.lt))
      have h3 := newB_drew (num_lit false fr td ino old k2)
      rw [← show q = _ from HN.out] at h3
      have H3 := Lib.hid h3; clear h3
      have hS := blk_s HX.out (((Keep.refl (fun _ => False) w2).alloc (.cells #[.int .u8 0, .int .u8 (fr / 256 % 256), .int .u8 (fr % 256), .int .u8 (td / 256 % 256), .int .u8 (td % 256), .int .u8 (ino / 256 % 256), .int .u8 (ino % 256), .int .u8 (old / 256 % 256), .int .u8 (old % 256)] 5)).drew)
      refine wp_region_held_drew (S := fun w' => w'.cell? ⟨w.heap.size, 5, none⟩ = some (.string fn) ∧ w'.cell? ⟨w.heap.size, 6, none⟩ = some (.string tn)) (by kernel_rfl) hS (fun _ => ?_)
      clear hS a0 a1 a2 a3 a4 a5 a6
      (refine wpAnyC_do 0 (some 41) ?_ rfl rfl (by kernel_rfl) (by kernel_rfl) (by kernel_rfl) (fun _ _ _ h => h) (by rfl) ?_ (by assumption) ?_; rotate_left; (intro w' hS'; (try dsimp only at hS'); go_simp; try with_reducible rfl); try simp only [Act.put, List.setIfInBounds_toArray, List.set_cons_zero, List.set_cons_succ])
      (refine wpAnyC_do 1 (some 42) ?_ rfl rfl (by kernel_rfl) (by kernel_rfl) (by kernel_rfl) (fun _ _ _ h => h) (by rfl) ?_ (by assumption) ?_; rotate_left; (intro w' hS'; (try dsimp only at hS'); go_simp; try with_reducible rfl); try simp only [Act.put, List.setIfInBounds_toArray, List.set_cons_zero, List.set_cons_succ])
      (refine wpAnyC_do 2 (some 43) (.string fn) rfl rfl (by kernel_rfl) (by kernel_rfl) (by kernel_rfl) (fun _ _ _ h => h) (by rfl) ?_ (by assumption) ?_; (intro w' hS'; (try dsimp only at hS'); go_simp; try with_reducible rfl); try simp only [Act.put, List.setIfInBounds_toArray, List.set_cons_zero, List.set_cons_succ])
      (refine wpAnyC_do 4 (some 45) ?_ rfl rfl (by kernel_rfl) (by kernel_rfl) (by kernel_rfl) (fun _ _ _ h => h) (by rfl) ?_ (by assumption) ?_; rotate_left; (intro w' hS'; (try dsimp only at hS'); go_simp; try with_reducible rfl); try simp only [Act.put, List.setIfInBounds_toArray, List.set_cons_zero, List.set_cons_succ])
      (refine wpAnyC_do 5 (some 46) (.string tn) rfl rfl (by kernel_rfl) (by kernel_rfl) (by kernel_rfl) (fun _ _ _ h => h) (by rfl) ?_ (by assumption) ?_; (intro w' hS'; (try dsimp only at hS'); go_simp; try with_reducible rfl); try simp only [Act.put, List.setIfInBounds_toArray, List.set_cons_zero, List.set_cons_succ])
      (refine wpAnyC_one 3 rfl (by kernel_rfl) (fun K' hK' => ?_); go_simp; refine (rnamed_calls fn hz1 H3.out (by decide)).mono ?_; rintro e w4 ⟨A4, c4, rfl, h4⟩; refine hK' _ _ (blk_s HX0.out h4.2.1) (fun _ => ?_); clear hK' K'; try simp only [Act.put, List.setIfInBounds_toArray, List.set_cons_zero, List.set_cons_succ])
      (refine wpAnyC_one 6 rfl (by kernel_rfl) (fun K' hK' => ?_); go_simp; refine (rnamed_calls tn hz2 h4 (by decide)).mono ?_; rintro e w5 ⟨A5, c5, rfl, h5⟩; refine hK' _ _ (blk_s HX0.out h5.2.1) (fun _ => ?_); clear hK' K'; try simp only [Act.put, List.setIfInBounds_toArray, List.set_cons_zero, List.set_cons_succ])
      rw [← show b = _ from HB.out] at h5
      (refine wpAnyC_one 7 rfl (by kernel_rfl) (fun K' hK' => ?_); go_simp; refine (RSeal_calls _ 82 (Rd.of_own h5.1) (by decide) (by decide)).mono ?_; rintro e w6 ⟨v6, rfl, h6⟩; refine hK' _ _ (blk_s HX0.out (h5.2.1.trans h6.2.1 (fun _ _ f => f))) (fun _ => ?_); clear hK' K'; try simp only [Act.put, List.setIfInBounds_toArray, List.set_cons_zero, List.set_cons_succ])
      (refine wpAnyC_do 8 (some 49) ?_ rfl rfl (by kernel_rfl) (by kernel_rfl) (by kernel_rfl) (fun _ _ _ h => h) (by rfl) ?_ (by assumption) ?_; rotate_left; (intro w' hS'; (try dsimp only at hS'); go_simp; try with_reducible rfl); try simp only [Act.put, List.setIfInBounds_toArray, List.set_cons_zero, List.set_cons_succ])
      (refine wpAnyC_do 9 (some 50) ?_ rfl rfl (by kernel_rfl) (by kernel_rfl) (by kernel_rfl) (fun _ _ _ h => h) (by rfl) ?_ (by assumption) ?_; rotate_left; (intro w' hS'; (try dsimp only at hS'); go_simp; try with_reducible rfl); try simp only [Act.put, List.setIfInBounds_toArray, List.set_cons_zero, List.set_cons_succ])
      (refine wpAnyC_do 10 (some 2) ?_ rfl rfl (by kernel_rfl) (by kernel_rfl) (by kernel_rfl) (fun _ _ _ h => h) (by rfl) ?_ (by assumption) ?_; rotate_left; (intro w' hS'; (try dsimp only at hS'); go_simp; try with_reducible rfl); try simp only [Act.put, List.setIfInBounds_toArray, List.set_cons_zero, List.set_cons_succ])
      (refine wpAnyC_do 11 (some 3) ?_ rfl rfl (by kernel_rfl) (by kernel_rfl) (by kernel_rfl) (fun _ _ _ h => h) (by rfl) ?_ (by assumption) ?_; rotate_left; (intro w' hS'; (try dsimp only at hS'); go_simp; try with_reducible rfl); try simp only [Act.put, List.setIfInBounds_toArray, List.set_cons_zero, List.set_cons_succ])
      refine wpAnyH_done (by kernel_rfl) ?_ _
      go_wp2
      go_ret2
      have hw0 : Fresh w (w.alloc (.cells #[.bool false, .int .i64 fr, .int .i64 td, .int .i64 ino, .int .i64 old, .string fn, .string tn] 23)) := (Keep.refl _ w).alloc _
      exact ⟨_, rfl, h6.1, (hw0.trans h5.2.1 (fun _ _ f => f)).trans h6.2.1 (fun _ _ f => f), fun b hb => Nat.le_trans (Nat.le_trans hw0.size h5.2.1.size) (h6.2.2 b hb)⟩
    case true =>
      go_enter Try.func12, Try.ntmps12
      go_wp2_with (first | (go_at_call 17; refine (RRcMay_calls ⟨true, fr, td, ino, old, fn, tn⟩ _).mono ?_; rintro e w2 ⟨rfl, k2⟩; rw [HM.out]; have HX := Lib.hid (HX0.out.fresh k2); obtain ⟨a0, a1, a2, a3, a4, a5, a6⟩ := Blk.c7 HX.out; have hsz : w.heap.size < w2.heap.size := HX.out.lt))
      have h3 := newB_drew (num_lit true fr td ino old k2)
      rw [← show q = _ from HN.out] at h3
      have H3 := Lib.hid h3; clear h3
      have hS := blk_s HX.out (((Keep.refl (fun _ => False) w2).alloc (.cells #[.int .u8 1, .int .u8 (fr / 256 % 256), .int .u8 (fr % 256), .int .u8 (td / 256 % 256), .int .u8 (td % 256), .int .u8 (ino / 256 % 256), .int .u8 (ino % 256), .int .u8 (old / 256 % 256), .int .u8 (old % 256)] 5)).drew)
      refine wp_region_held_drew (S := fun w' => w'.cell? ⟨w.heap.size, 5, none⟩ = some (.string fn) ∧ w'.cell? ⟨w.heap.size, 6, none⟩ = some (.string tn)) (by kernel_rfl) hS (fun _ => ?_)
      clear hS a0 a1 a2 a3 a4 a5 a6
      (refine wpAnyC_do 0 (some 41) ?_ rfl rfl (by kernel_rfl) (by kernel_rfl) (by kernel_rfl) (fun _ _ _ h => h) (by rfl) ?_ (by assumption) ?_; rotate_left; (intro w' hS'; (try dsimp only at hS'); go_simp; try with_reducible rfl); try simp only [Act.put, List.setIfInBounds_toArray, List.set_cons_zero, List.set_cons_succ])
      (refine wpAnyC_do 1 (some 42) ?_ rfl rfl (by kernel_rfl) (by kernel_rfl) (by kernel_rfl) (fun _ _ _ h => h) (by rfl) ?_ (by assumption) ?_; rotate_left; (intro w' hS'; (try dsimp only at hS'); go_simp; try with_reducible rfl); try simp only [Act.put, List.setIfInBounds_toArray, List.set_cons_zero, List.set_cons_succ])
      (refine wpAnyC_do 2 (some 43) (.string fn) rfl rfl (by kernel_rfl) (by kernel_rfl) (by kernel_rfl) (fun _ _ _ h => h) (by rfl) ?_ (by assumption) ?_; (intro w' hS'; (try dsimp only at hS'); go_simp; try with_reducible rfl); try simp only [Act.put, List.setIfInBounds_toArray, List.set_cons_zero, List.set_cons_succ])
      (refine wpAnyC_do 4 (some 45) ?_ rfl rfl (by kernel_rfl) (by kernel_rfl) (by kernel_rfl) (fun _ _ _ h => h) (by rfl) ?_ (by assumption) ?_; rotate_left; (intro w' hS'; (try dsimp only at hS'); go_simp; try with_reducible rfl); try simp only [Act.put, List.setIfInBounds_toArray, List.set_cons_zero, List.set_cons_succ])
      (refine wpAnyC_do 5 (some 46) (.string tn) rfl rfl (by kernel_rfl) (by kernel_rfl) (by kernel_rfl) (fun _ _ _ h => h) (by rfl) ?_ (by assumption) ?_; (intro w' hS'; (try dsimp only at hS'); go_simp; try with_reducible rfl); try simp only [Act.put, List.setIfInBounds_toArray, List.set_cons_zero, List.set_cons_succ])
      (refine wpAnyC_one 3 rfl (by kernel_rfl) (fun K' hK' => ?_); go_simp; refine (rnamed_calls fn hz1 H3.out (by decide)).mono ?_; rintro e w4 ⟨A4, c4, rfl, h4⟩; refine hK' _ _ (blk_s HX0.out h4.2.1) (fun _ => ?_); clear hK' K'; try simp only [Act.put, List.setIfInBounds_toArray, List.set_cons_zero, List.set_cons_succ])
      (refine wpAnyC_one 6 rfl (by kernel_rfl) (fun K' hK' => ?_); go_simp; refine (rnamed_calls tn hz2 h4 (by decide)).mono ?_; rintro e w5 ⟨A5, c5, rfl, h5⟩; refine hK' _ _ (blk_s HX0.out h5.2.1) (fun _ => ?_); clear hK' K'; try simp only [Act.put, List.setIfInBounds_toArray, List.set_cons_zero, List.set_cons_succ])
      rw [← show b = _ from HB.out] at h5
      (refine wpAnyC_one 7 rfl (by kernel_rfl) (fun K' hK' => ?_); go_simp; refine (RSeal_calls _ 82 (Rd.of_own h5.1) (by decide) (by decide)).mono ?_; rintro e w6 ⟨v6, rfl, h6⟩; refine hK' _ _ (blk_s HX0.out (h5.2.1.trans h6.2.1 (fun _ _ f => f))) (fun _ => ?_); clear hK' K'; try simp only [Act.put, List.setIfInBounds_toArray, List.set_cons_zero, List.set_cons_succ])
      (refine wpAnyC_do 8 (some 49) ?_ rfl rfl (by kernel_rfl) (by kernel_rfl) (by kernel_rfl) (fun _ _ _ h => h) (by rfl) ?_ (by assumption) ?_; rotate_left; (intro w' hS'; (try dsimp only at hS'); go_simp; try with_reducible rfl); try simp only [Act.put, List.setIfInBounds_toArray, List.set_cons_zero, List.set_cons_succ])
      (refine wpAnyC_do 9 (some 50) ?_ rfl rfl (by kernel_rfl) (by kernel_rfl) (by kernel_rfl) (fun _ _ _ h => h) (by rfl) ?_ (by assumption) ?_; rotate_left; (intro w' hS'; (try dsimp only at hS'); go_simp; try with_reducible rfl); try simp only [Act.put, List.setIfInBounds_toArray, List.set_cons_zero, List.set_cons_succ])
      (refine wpAnyC_do 10 (some 2) ?_ rfl rfl (by kernel_rfl) (by kernel_rfl) (by kernel_rfl) (fun _ _ _ h => h) (by rfl) ?_ (by assumption) ?_; rotate_left; (intro w' hS'; (try dsimp only at hS'); go_simp; try with_reducible rfl); try simp only [Act.put, List.setIfInBounds_toArray, List.set_cons_zero, List.set_cons_succ])
      (refine wpAnyC_do 11 (some 3) ?_ rfl rfl (by kernel_rfl) (by kernel_rfl) (by kernel_rfl) (fun _ _ _ h => h) (by rfl) ?_ (by assumption) ?_; rotate_left; (intro w' hS'; (try dsimp only at hS'); go_simp; try with_reducible rfl); try simp only [Act.put, List.setIfInBounds_toArray, List.set_cons_zero, List.set_cons_succ])
      refine wpAnyH_done (by kernel_rfl) ?_ _
      go_wp2
      go_ret2
      have hw0 : Fresh w (w.alloc (.cells #[.bool true, .int .i64 fr, .int .i64 td, .int .i64 ino, .int .i64 old, .string fn, .string tn] 23)) := (Keep.refl _ w).alloc _
      exact ⟨_, rfl, h6.1, (hw0.trans h5.2.1 (fun _ _ f => f)).trans h6.2.1 (fun _ _ f => f), fun b hb => Nat.le_trans (Nat.le_trans hw0.size h5.2.1.size) (h6.2.2 b hb)⟩
end Go.Proofs.Ytcjackjoonijnaa
