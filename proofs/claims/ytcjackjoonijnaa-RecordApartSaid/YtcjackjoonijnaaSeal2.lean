/-
  Sealed sectors: sealed, in both texts; bytes compared.
-/
import Derived.Laws.BytesArg
import Derived.Deep.CutBlock
import Derived.Deep.DeepCutAuto
import Derived.Test.YtcjackjoonijnaaSeal1
import Derived.Test.YtcjackjoonijnaaCopyIn
namespace Go.Proofs.Ytcjackjoonijnaa
open Go.RowKit

/-! ### what is sealed -/
def be4 (s : Int) : List Int := [s / 16777216, s / 65536 % 256, s / 256 % 256, s % 256]
def bodyL (k : Int) (body : List Int) : List Int := k :: (body ++ List.replicate (123 - body.length) 0)
def sealL (k : Int) (body : List Int) : List Int := bodyL k body ++ be4 (sumL (bodyL k body))
theorem bodyL_len (k : Int) (body : List Int) (h : body.length ≤ 123) : (bodyL k body).length = 124 := by simp [bodyL]; omega
theorem sealL_len (k : Int) (body : List Int) (h : body.length ≤ 123) : (sealL k body).length = 128 := by simp [sealL, bodyL_len k body h, be4]

theorem make_sector (w : World) : (Instr.makeSlice 24 (.int .i64 124) (.int .i64 128)).run Try.prog w = .ok (.slice (some ⟨w.heap.size, 0, none⟩) 124 128) (w.alloc (.cells (madeCells #[.int .u8 0] 128) 5)) := by
  obtain ⟨i, hi, hz, hs, hb⟩ := info_parts info_u8
  have := run_make (P := Try.prog) w 24 5 i (.int .u8 0) Try.underlying24 hi hz .i64 .i64 124 128 (by omega) (by omega) (by rw [hb]; omega) (by omega)
  rw [hs] at this
  exact this
def SealPost (w : World) (l : List Int) (e : Ending) (w' : World) : Prop := ∃ v, e = .returned (.tuple #[v, .int .i64 0]) ∧ NewB w w' 5 .u8 v 128 l
theorem splice_zeros (k : Int) (body : List Int) (N : Nat) : splice ((iv .u8 (List.replicate (N + 1) 0)).set 0 (.int .u8 k)) 1 (iv .u8 body) = iv .u8 (k :: (body ++ List.replicate (N - body.length) 0)) := by
  unfold splice
  rw [show 1 + (iv .u8 body).length = body.length + 1 from by simp [iv]; omega]
  simp [iv, List.replicate_succ]
theorem splice_body (k : Int) (body : List Int) (h : body.length ≤ 123) : splice ((iv .u8 (List.replicate 124 0)).set 0 (.int .u8 k)) 1 ((iv .u8 body).take (min body.length 123)) = iv .u8 (bodyL k body) := by
  rw [Nat.min_eq_left h, List.take_of_length_le (by simp)]
  exact splice_zeros k body 123
theorem body_of {w : World} {g : Nat} {k : Int} {n : Nat} {body : List Int} (hl : body.length = n) (hn : n ≤ 123) (h : Own w 5 1 (.slice (some ⟨g, 0, none⟩) 124 128) 124 (splice ((iv .u8 (List.replicate 124 0)).set 0 (.int .u8 k)) 1 ((iv .u8 body).take (min n 123)))) :
    Own w 5 1 (.slice (some ⟨g, 0, none⟩) 124 128) 124 (iv .u8 (bodyL k body)) := by
  subst hl
  rwa [splice_body k body hn] at h
set_option maxRecDepth 100000 in
set_option maxHeartbeats 1000000 in
theorem Seal_calls (w : World) (k : Int) {A : Option Addr} {n c : Nat} {body : List Int} (hr : Rd w 1 A n (iv .u8 body)) (hk : k ≠ 0) (hn : n ≤ 123) :
    Calls Try.prog 35 #[.int .u8 k, .slice A n c] w (SealPost w (sealL k body)) := by
  have hb : (k == 0) = false := by rw [beq_eq_false_iff_ne]; exact hk
  have hl := hr.len
  have hmk := make_sector
  have hO := (made_row w 128 (by simp [maxLen])).fewer (n := 124) (by omega)
  rw [show (iv .u8 (List.replicate 128 0)).take 124 = iv .u8 (List.replicate 124 0) from by simp [iv]] at hO
  have hO2 : Own ((w.alloc (.cells (madeCells #[.int .u8 0] 128) 5)).setCell ⟨w.heap.size, 0, none⟩ (.int .u8 k)) 5 1 (.slice (some ⟨w.heap.size, 0, none⟩) 124 128) 124 ((iv .u8 (List.replicate 124 0)).set 0 (.int .u8 k)) := (hO.stored 0 (.int .u8 k)).1
  rw [World.setCell_alloc_at _ _ _ _ _ rfl] at hO2
  have hc0 : ∃ u, (w.alloc (.cells (madeCells #[.int .u8 0] 128) 5)).cell? ⟨w.heap.size, 0, none⟩ = some u := by
    rw [hO.cellAt 0 (by omega)]
    exact ⟨_, List.getElem?_eq_getElem (by simp)⟩
  obtain ⟨u0, hc0⟩ := hc0
  have hf0 := hO.frozenAt 0
  have hF2 : Fresh w (w.alloc (.cells ((madeCells #[.int .u8 0] 128).setIfInBounds 0 (.int .u8 k)) 5)) := (Keep.refl _ w).alloc _
  have hrA := hr.fresh hF2
  obtain ⟨s, hs⟩ : ∃ s, sumL (bodyL k body) = s := ⟨_, rfl⟩
  obtain ⟨hs0, hs1⟩ := sumL_lo (bodyL k body)
  have hfin : sealL k body = bodyL k body ++ be4 s := by unfold sealL; rw [hs]
  rw [hs] at hs0 hs1
  have HL := Lib.hid hl; clear hl
  have HO2 := Lib.hid hO2; clear hO2
  have HS := Lib.hid hs; clear hs
  have HFIN := Lib.hid hfin; clear hfin
  have HF2 := Lib.hid hF2; clear hF2
  go_enter Try.func35, Try.ntmps35
  go_wp2_with (first | (refine wpList_copy_in rfl (.tmp 20) (.tmp 21) rfl Try.underlying24 (by kernel_rfl) HO2.out rfl (fun _ => rfl) (by omega) hrA rfl (iv_one _ _) ?_; intro w2 ho2 hk2; have hS2 := body_of HL.out hn ho2.out; have hF3 := HF2.out.trans hk2 (fun b hb e => by omega)) | (go_at_call 46; refine (Sum_calls _ (Rd.of_own hS2)).mono ?_; rintro e w' ⟨rfl, rfl⟩; rw [HS.out]) | (at_builtin; refine app_u8 (l := bodyL k body) rfl (.tmp 25) (.tmp 37) rfl (hS2.alloc _) rfl (Rd.lit' _ (iv .u8 (be4 s)) _ 1 4 w2.heap.size rfl rfl (by omega)) rfl (by omega) ?_; intro v3 w3 ho3 hg3 hb3))
  go_ret2
  rw [← HFIN.out] at ho3
  exact ⟨_, rfl, newB_app (hF3.alloc _) (freshV_new _ _ _ _ _) ho3 hg3 hb3⟩

set_option maxRecDepth 100000 in
set_option maxHeartbeats 1000000 in
theorem RSeal_calls (w : World) (k : Int) {A : Option Addr} {n c : Nat} {body : List Int} (hr : Rd w 1 A n (iv .u8 body)) (hk : k ≠ 0) (hn : n ≤ 123) :
    Calls Try.prog 37 #[.int .u8 k, .slice A n c] w (SealPost w (sealL k body)) := by
  have hb : (k == 0) = false := by rw [beq_eq_false_iff_ne]; exact hk
  have hl := hr.len
  have h1 : NewB w (w.alloc (.cells #[.int .u8 k] 5)) 5 .u8 (.slice (some ⟨w.heap.size, 0, none⟩) 1 1) 1 [k] :=
    ⟨World.ownsRow_lit (size := 1) (base := 0) w #[.int .u8 k] 1 (Nat.zero_le _) (by simp [maxLen]) rfl, (Keep.refl _ w).alloc _, freshV_new _ _ _ _ _⟩
  obtain ⟨s, hs⟩ : ∃ s, sumL (bodyL k body) = s := ⟨_, rfl⟩
  obtain ⟨hs0, hs1⟩ := sumL_lo (bodyL k body)
  have hfin : sealL k body = bodyL k body ++ be4 s := by unfold sealL; rw [hs]
  rw [hs] at hs0 hs1
  have hbl : [k] ++ body ++ List.replicate (123 - n) 0 = bodyL k body := by rw [← hl]; simp [bodyL]
  obtain ⟨m, hm⟩ : ∃ m, m = 1 + n + (123 - n) := ⟨_, rfl⟩
  have hm' : m = 124 := by omega
  have HM := Lib.hid hm; clear hm
  have HM2 := Lib.hid hm'; clear hm'
  have HL := Lib.hid hl; clear hl
  have HS := Lib.hid hs; clear hs
  have HFIN := Lib.hid hfin; clear hfin
  have HBL := Lib.hid hbl; clear hbl
  have hrA := hr.fresh h1.2.1
  go_enter Try.func37, Try.ntmps37
  go_wp2_with (first | (at_builtin; refine app_u8 (l := [k]) rfl (.tmp 16) (.tmp 17) rfl h1.1 rfl hrA rfl (by omega) ?_; intro v2 w2 ho2 hg2 hb2; obtain ⟨A2, c2, rfl⟩ := ho2.shape; have h2 := newB_app h1.2.1 h1.2.2 ho2 hg2 hb2) | (refine app_zeros rfl (.tmp 19) (.tmp 22) rfl h2.1 rfl rfl (123 - n) (by omega) (by omega) ?_; intro A3 c3 w3 hL3; have h3 := hL3.newB h2; rw [HBL.out, ← HM.out] at h3; have h3' := h3; rw [HM2.out] at h3'; rw [← HM.out]) | (go_at_call 47; refine (RSum_calls _ (Rd.of_own h3.1)).mono ?_; rintro e w' ⟨rfl, rfl⟩; rw [HS.out]) | (at_builtin; refine app_u8 (l := bodyL k body) rfl (.tmp 26) (.tmp 38) rfl (h3.1.alloc _) rfl (Rd.lit' _ (iv .u8 (be4 s)) _ 1 4 w3.heap.size rfl rfl (by omega)) rfl (by have := HM2.out; omega) ?_; intro v4 w4 ho4 hg4 hb4))
  go_ret2
  rw [← HFIN.out, HM2.out] at ho4
  rw [HM2.out] at hg4 hb4
  exact ⟨_, rfl, newB_app (h3'.2.1.alloc _) h3'.2.2 ho4 hg4 hb4⟩
end Go.Proofs.Ytcjackjoonijnaa
