/-
  DirTakes, walked.
-/
import Derived.Deep.RegionHeld3
import Derived.Test.YtcjackjoonijnaaTakes1
namespace Go.Proofs.Ytcjackjoonijnaa
open Go.RowKit

set_option maxRecDepth 100000 in
set_option maxHeartbeats 16000000 in
theorem DirTakes_calls (w : World) {A : Option Addr} {n c : Nat} {l : List Int} (hr : Rd w 1 A n (iv .i64 l)) (which : Int) :
    Calls Try.prog 8 #[.slice A n c, .int .i64 which] w fun e w' => e = .returned (.bool true) ∧ Fresh w w' := by
  have hle := hr.le
  have hlen := hr.len
  have HLEN := Lib.hid hlen; clear hlen
  go_enter Try.func8, Try.ntmps8
  go_wp2
  go_loopw [6] (fun i wr => ∃ (k : Int), (k = 0 ∨ k = 1 ∨ k = 2 ∨ k = 3 ∨ k = 4) ∧ i = .int .i64 k ∧ Hid (Blk wr w.heap.size 40 (tkC l k)) ∧ Hid (Keep (fun b => b = w.heap.size) (w.alloc (.cells zeroC 40)) wr)) (fun i _ => 4 - (intOf i).toNat)
  case atStart => exact ⟨0, by omega, rfl, Blk.new w _ _, Keep.refl _ _⟩
  case round =>
    obtain ⟨k, hk, rfl, HB, HK⟩ := hrel
    by_cases hgo : k < 4 ∧ k < n
    · obtain ⟨hk4, hkn⟩ := hgo
      obtain rfl | rfl | rfl | rfl | rfl := hk
      · have hn : 0 < n := by omega
        have hni : (0 : Int) < n := by omega
        obtain ⟨ad, rfl, h0⟩ := hr.int hn
        have hne : ad.block ≠ w.heap.size := by have := World.block_lt_of_cell? w _ h0; rw [block_of_add] at this; omega
        obtain ⟨x, hx⟩ : ∃ x, l.getD 0 0 = x := ⟨_, rfl⟩
        rw [hx] at h0
        have HX := Lib.hid hx; clear hx
        have hlt := (World.block_lt_of_cell? w _ h0)
        have h1 : wr.cell? (ad.add 0) = some (.int .i64 x) := HK.out.cell_some (((Keep.refl (fun _ => False) w).alloc _).cell_some h0 (fun f => f)) (by rw [block_of_add]; exact hne)
        rw [show ad.add 0 = ad from by simp [Addr.add]] at h1
        obtain ⟨u, hu⟩ : ∃ u, lowI x 60000 = u := ⟨_, rfl⟩
        obtain ⟨v, hv⟩ : ∃ v, lowI x 3 = v := ⟨_, rfl⟩
        obtain ⟨y, hy⟩ : ∃ y, lowI x 26 = y := ⟨_, rfl⟩
        have bu := And.intro (lowI_nn x 60000 (by decide)) (lowI_lt x 60000 (by decide))
        have bv := And.intro (lowI_nn x 3 (by decide)) (lowI_lt x 3 (by decide))
        have by' := And.intro (lowI_nn x 26 (by decide)) (lowI_lt x 26 (by decide))
        rw [hu] at bu
        rw [hv] at bv
        rw [hy] at by'
        have HU := Lib.hid hu; clear hu
        have HV := Lib.hid hv; clear hv
        have HY := Lib.hid hy; clear hy
        have p1 : IntKind.i64.wrap (1 + u) = 1 + u := by rw [IntKind.wrap_i64]; omega
        have p2 : IntKind.i64.wrap (1 + v) = 1 + v := by rw [IntKind.wrap_i64]; omega
        have p3 : IntKind.i64.wrap (97 + y) = 97 + y := by rw [IntKind.wrap_i64]; omega
        have p4 : IntKind.u8.wrap (97 + y) = 97 + y := by rw [IntKind.wrap_u8]; omega
        have q1 : IntKind.i64.wrap 97 = 97 := by decide
        have q2 : IntKind.u8.wrap 97 = 97 := by decide
        have hcv := two_conv wr 97 (97 + y)
        have HBA := Lib.hid (Blk.drew (HB.out.alloc (.cells #[.int .u8 97, .int .u8 (97 + y)] 5)))
        have HKA := Lib.hid (Keep.drew (HK.out.alloc (.cells #[.int .u8 97, .int .u8 (97 + y)] 5)))
        go_wp2
        have hS : wr.drew.cell? ad = some (.int .i64 x) := h1
        have hS2 : (wr.alloc (.cells #[.int .u8 97, .int .u8 (97 + y)] 5)).drew.cell? ad = some (.int .i64 x) := alloc_cell h1 _
        refine wp_region_held_drew (S := fun w' => w'.cell? ad = some (.int .i64 x)) (by kernel_rfl) hS (fun _ => ?_)
        (refine wpAnyC_do 0 (some 24) ?_ rfl rfl (by kernel_rfl) (by kernel_rfl) (by kernel_rfl) (fun _ _ _ h => h) (by rfl) ?_ (by assumption) ?_; rotate_left; (intro w' hS'; (try dsimp only at hS'); go_simp; try with_reducible rfl); try simp only [Act.put, List.setIfInBounds_toArray, List.set_cons_zero, List.set_cons_succ])
        (refine wpAnyC_do 1 (some 25) ?_ rfl rfl (by kernel_rfl) (by kernel_rfl) (by kernel_rfl) (fun _ _ _ h => h) (by rfl) ?_ (by assumption) ?_; rotate_left; (intro w' hS'; (try dsimp only at hS'); go_simp; try with_reducible rfl); try simp only [Act.put, List.setIfInBounds_toArray, List.set_cons_zero, List.set_cons_succ])
        (refine wpAnyC_do 2 (some 26) ?_ rfl rfl (by kernel_rfl) (by kernel_rfl) (by kernel_rfl) (fun _ _ _ h => h) (by rfl) ?_ (by assumption) ?_; rotate_left; (intro w' hS'; (try dsimp only at hS'); go_simp; try with_reducible rfl); try simp only [Act.put, List.setIfInBounds_toArray, List.set_cons_zero, List.set_cons_succ])
        (refine wpAnyC_do 3 (some 27) ?_ rfl rfl (by kernel_rfl) (by kernel_rfl) (by kernel_rfl) (fun _ _ _ h => h) (by rfl) ?_ (by assumption) ?_; rotate_left; (intro w' hS'; (try dsimp only at hS'); go_simp; try with_reducible rfl); try simp only [Act.put, List.setIfInBounds_toArray, List.set_cons_zero, List.set_cons_succ])
        (refine wpAnyC_do 4 (some 28) (.int .i64 x) rfl rfl (by kernel_rfl) (by kernel_rfl) (by kernel_rfl) (fun _ _ _ h => h) (by rfl) ?_ (by assumption) ?_; (intro w' hS'; (try dsimp only at hS'); go_simp; try with_reducible rfl); try simp only [Act.put, List.setIfInBounds_toArray, List.set_cons_zero, List.set_cons_succ])
        (refine wpAnyC_call 5 (some 29) Try.func20 (by kernel_rfl) (by kernel_rfl) (.int .i64 u) #[.int .i64 x, .int .i64 60000] (xs := #[.tmp 28, .const (.int .i64 60000)]) rfl rfl rfl (by go_simp) (by kernel_rfl) (by kernel_rfl) (by kernel_rfl) (fun _ _ _ h => h) (by rfl) (fun w' _ => (Low_calls x 60000 w' (by decide) (by decide)).mono fun e w2 ⟨he, hw⟩ => ⟨by rw [he, HU.out], hw⟩) (by assumption) ?_; try simp only [Act.put, List.setIfInBounds_toArray, List.set_cons_zero, List.set_cons_succ])
        (refine wpAnyC_do 6 (some 30) ?_ rfl rfl (by kernel_rfl) (by kernel_rfl) (by kernel_rfl) (fun _ _ _ h => h) (by rfl) ?_ (by assumption) ?_; rotate_left; (intro w' hS'; (try dsimp only at hS'); go_simp; try with_reducible rfl); try simp only [Act.put, List.setIfInBounds_toArray, List.set_cons_zero, List.set_cons_succ])
        (refine wpAnyC_do 7 (some 31) ?_ rfl rfl (by kernel_rfl) (by kernel_rfl) (by kernel_rfl) (fun _ _ _ h => h) (by rfl) ?_ (by assumption) ?_; rotate_left; (intro w' hS'; (try dsimp only at hS'); go_simp; try with_reducible rfl); try simp only [Act.put, List.setIfInBounds_toArray, List.set_cons_zero, List.set_cons_succ])
        (refine wpAnyC_do 8 (some 32) ?_ rfl rfl (by kernel_rfl) (by kernel_rfl) (by kernel_rfl) (fun _ _ _ h => h) (by rfl) ?_ (by assumption) ?_; rotate_left; (intro w' hS'; (try dsimp only at hS'); go_simp; try with_reducible rfl); try simp only [Act.put, List.setIfInBounds_toArray, List.set_cons_zero, List.set_cons_succ])
        (refine wpAnyC_do 9 (some 33) ?_ rfl rfl (by kernel_rfl) (by kernel_rfl) (by kernel_rfl) (fun _ _ _ h => h) (by rfl) ?_ (by assumption) ?_; rotate_left; (intro w' hS'; (try dsimp only at hS'); go_simp; try with_reducible rfl); try simp only [Act.put, List.setIfInBounds_toArray, List.set_cons_zero, List.set_cons_succ])
        (refine wpAnyC_do 10 (some 34) (.int .i64 x) rfl rfl (by kernel_rfl) (by kernel_rfl) (by kernel_rfl) (fun _ _ _ h => h) (by rfl) ?_ (by assumption) ?_; (intro w' hS'; (try dsimp only at hS'); go_simp; try with_reducible rfl); try simp only [Act.put, List.setIfInBounds_toArray, List.set_cons_zero, List.set_cons_succ])
        (refine wpAnyC_call 11 (some 35) Try.func20 (by kernel_rfl) (by kernel_rfl) (.int .i64 v) #[.int .i64 x, .int .i64 3] (xs := #[.tmp 34, .const (.int .i64 3)]) rfl rfl rfl (by go_simp) (by kernel_rfl) (by kernel_rfl) (by kernel_rfl) (fun _ _ _ h => h) (by rfl) (fun w' _ => (Low_calls x 3 w' (by decide) (by decide)).mono fun e w2 ⟨he, hw⟩ => ⟨by rw [he, HV.out], hw⟩) (by assumption) ?_; try simp only [Act.put, List.setIfInBounds_toArray, List.set_cons_zero, List.set_cons_succ])
        (refine wpAnyC_do 12 (some 36) ?_ rfl rfl (by kernel_rfl) (by kernel_rfl) (by kernel_rfl) (fun _ _ _ h => h) (by rfl) ?_ (by assumption) ?_; rotate_left; (intro w' hS'; (try dsimp only at hS'); go_simp; try with_reducible rfl); try simp only [Act.put, List.setIfInBounds_toArray, List.set_cons_zero, List.set_cons_succ])
        (refine wpAnyC_do 13 (some 37) ?_ rfl rfl (by kernel_rfl) (by kernel_rfl) (by kernel_rfl) (fun _ _ _ h => h) (by rfl) ?_ (by assumption) ?_; rotate_left; (intro w' hS'; (try dsimp only at hS'); go_simp; try with_reducible rfl); try simp only [Act.put, List.setIfInBounds_toArray, List.set_cons_zero, List.set_cons_succ])
        (refine wpAnyC_do 14 (some 38) ?_ rfl rfl (by kernel_rfl) (by kernel_rfl) (by kernel_rfl) (fun _ _ _ h => h) (by rfl) ?_ (by assumption) ?_; rotate_left; (intro w' hS'; (try dsimp only at hS'); go_simp; try with_reducible rfl); try simp only [Act.put, List.setIfInBounds_toArray, List.set_cons_zero, List.set_cons_succ])
        (refine wpAnyC_do 15 (some 39) ?_ rfl rfl (by kernel_rfl) (by kernel_rfl) (by kernel_rfl) (fun _ _ _ h => h) (by rfl) ?_ (by assumption) ?_; rotate_left; (intro w' hS'; (try dsimp only at hS'); go_simp; try with_reducible rfl); try simp only [Act.put, List.setIfInBounds_toArray, List.set_cons_zero, List.set_cons_succ])
        (refine wpAnyC_do 16 (some 40) ?_ rfl rfl (by kernel_rfl) (by kernel_rfl) (by kernel_rfl) (fun _ _ _ h => h) (by rfl) ?_ (by assumption) ?_; rotate_left; (intro w' hS'; (try dsimp only at hS'); go_simp; try with_reducible rfl); try simp only [Act.put, List.setIfInBounds_toArray, List.set_cons_zero, List.set_cons_succ])
        (refine wpAnyC_do 17 (some 41) ?_ rfl rfl (by kernel_rfl) (by kernel_rfl) (by kernel_rfl) (fun _ _ _ h => h) (by rfl) ?_ (by assumption) ?_; rotate_left; (intro w' hS'; (try dsimp only at hS'); go_simp; try with_reducible rfl); try simp only [Act.put, List.setIfInBounds_toArray, List.set_cons_zero, List.set_cons_succ])
        (refine wpAnyC_do 18 (some 42) ?_ rfl rfl (by kernel_rfl) (by kernel_rfl) (by kernel_rfl) (fun _ _ _ h => h) (by rfl) ?_ (by assumption) ?_; rotate_left; (intro w' hS'; (try dsimp only at hS'); go_simp; try with_reducible rfl); try simp only [Act.put, List.setIfInBounds_toArray, List.set_cons_zero, List.set_cons_succ])
        (refine wpAnyC_do 19 (some 43) (.int .i64 x) rfl rfl (by kernel_rfl) (by kernel_rfl) (by kernel_rfl) (fun _ _ _ h => h) (by rfl) ?_ (by assumption) ?_; (intro w' hS'; (try dsimp only at hS'); go_simp; try with_reducible rfl); try simp only [Act.put, List.setIfInBounds_toArray, List.set_cons_zero, List.set_cons_succ])
        (refine wpAnyC_call 20 (some 44) Try.func20 (by kernel_rfl) (by kernel_rfl) (.int .i64 y) #[.int .i64 x, .int .i64 26] (xs := #[.tmp 43, .const (.int .i64 26)]) rfl rfl rfl (by go_simp) (by kernel_rfl) (by kernel_rfl) (by kernel_rfl) (fun _ _ _ h => h) (by rfl) (fun w' _ => (Low_calls x 26 w' (by decide) (by decide)).mono fun e w2 ⟨he, hw⟩ => ⟨by rw [he, HY.out], hw⟩) (by assumption) ?_; try simp only [Act.put, List.setIfInBounds_toArray, List.set_cons_zero, List.set_cons_succ])
        (refine wpAnyC_do 21 (some 45) ?_ rfl rfl (by kernel_rfl) (by kernel_rfl) (by kernel_rfl) (fun _ _ _ h => h) (by rfl) ?_ (by assumption) ?_; rotate_left; (intro w' hS'; (try dsimp only at hS'); go_simp; try with_reducible rfl); try simp only [Act.put, List.setIfInBounds_toArray, List.set_cons_zero, List.set_cons_succ])
        (refine wpAnyC_do 22 (some 46) ?_ rfl rfl (by kernel_rfl) (by kernel_rfl) (by kernel_rfl) (fun _ _ _ h => h) (by rfl) ?_ (by assumption) ?_; rotate_left; (intro w' hS'; (try dsimp only at hS'); go_simp; try with_reducible rfl); try simp only [Act.put, List.setIfInBounds_toArray, List.set_cons_zero, List.set_cons_succ])
        (refine wpAnyC_one 23 rfl (by kernel_rfl) (fun K' hK' => ?_); go_simp; refine hK' _ _ hS2 (fun _ => ?_); clear hK' K'; try simp only [Act.put, List.setIfInBounds_toArray, List.set_cons_zero, List.set_cons_succ])
        (refine wpAnyC_one 24 rfl (by kernel_rfl) (fun K' hK' => ?_); go_simp; refine hK' _ _ hS2 (fun _ => ?_); clear hK' K'; try simp only [Act.put, List.setIfInBounds_toArray, List.set_cons_zero, List.set_cons_succ])
        (refine wpAnyC_do 25 (some 49) ?_ rfl rfl (by kernel_rfl) (by kernel_rfl) (by kernel_rfl) (fun _ _ _ h => h) (by rfl) ?_ (by assumption) ?_; rotate_left; (intro w' hS'; (try dsimp only at hS'); go_simp; try with_reducible rfl); try simp only [Act.put, List.setIfInBounds_toArray, List.set_cons_zero, List.set_cons_succ])
        (refine wpAnyC_do 26 (some 50) ?_ rfl rfl (by kernel_rfl) (by kernel_rfl) (by kernel_rfl) (fun _ _ _ h => h) (by rfl) ?_ (by assumption) ?_; rotate_left; (intro w' hS'; (try dsimp only at hS'); go_simp; try with_reducible rfl); try simp only [Act.put, List.setIfInBounds_toArray, List.set_cons_zero, List.set_cons_succ])
        refine wpAnyC_one 27 rfl (by kernel_rfl) (fun K' hK' => ?_)
        rw [if_pos (by rfl)]
        refine wp_store_blk HBA.out 39 (.tmp 50) (.tmp 49) rfl 0 #[.int .i64 (1 + u), .int .i64 (1 + v), .string (strOf [97, 97 + y])] (by go_simp) (by go_simp) (by simp [tkC, sltsC]) (by kernel_rfl) (by simp [Value.oneCell']) ?_
        intro w5 hb5 k5
        refine hK' _ _ (k5.cell_some hS2 hne) (fun _ => ?_)
        clear hK' K'
        try simp only [Act.put, List.setIfInBounds_toArray]
        refine wpAnyH_done (by kernel_rfl) ?_ _
        have HB5 := Lib.hid (tk_step0 (by rw [HLEN.out]; exact hn) HX.out HU.out HV.out HY.out ▸ hb5.out)
        go_wp2
        go_round
        case rel => exact ⟨_, by omega, rfl, HB5.out, HKA.out.trans k5 (fun b hb e => e)⟩
        case measure => simp [intOf]
      · have hn : 1 < n := by omega
        have hni : (1 : Int) < n := by omega
        obtain ⟨ad, rfl, h0⟩ := hr.int hn
        have hne : ad.block ≠ w.heap.size := by have := World.block_lt_of_cell? w _ h0; rw [block_of_add] at this; omega
        obtain ⟨x, hx⟩ : ∃ x, l.getD 1 0 = x := ⟨_, rfl⟩
        rw [hx] at h0
        have HX := Lib.hid hx; clear hx
        have hlt := (World.block_lt_of_cell? w _ h0)
        have h1 : wr.cell? (ad.add 1) = some (.int .i64 x) := HK.out.cell_some (((Keep.refl (fun _ => False) w).alloc _).cell_some h0 (fun f => f)) (by rw [block_of_add]; exact hne)
        rw [show ad.add 1 = ⟨ad.block, ad.off + 1, none⟩ from by simp [Addr.add]] at h1
        obtain ⟨u, hu⟩ : ∃ u, lowI x 60000 = u := ⟨_, rfl⟩
        obtain ⟨v, hv⟩ : ∃ v, lowI x 3 = v := ⟨_, rfl⟩
        obtain ⟨y, hy⟩ : ∃ y, lowI x 26 = y := ⟨_, rfl⟩
        have bu := And.intro (lowI_nn x 60000 (by decide)) (lowI_lt x 60000 (by decide))
        have bv := And.intro (lowI_nn x 3 (by decide)) (lowI_lt x 3 (by decide))
        have by' := And.intro (lowI_nn x 26 (by decide)) (lowI_lt x 26 (by decide))
        rw [hu] at bu
        rw [hv] at bv
        rw [hy] at by'
        have HU := Lib.hid hu; clear hu
        have HV := Lib.hid hv; clear hv
        have HY := Lib.hid hy; clear hy
        have p1 : IntKind.i64.wrap (1 + u) = 1 + u := by rw [IntKind.wrap_i64]; omega
        have p2 : IntKind.i64.wrap (1 + v) = 1 + v := by rw [IntKind.wrap_i64]; omega
        have p3 : IntKind.i64.wrap (97 + y) = 97 + y := by rw [IntKind.wrap_i64]; omega
        have p4 : IntKind.u8.wrap (97 + y) = 97 + y := by rw [IntKind.wrap_u8]; omega
        have q1 : IntKind.i64.wrap 98 = 98 := by decide
        have q2 : IntKind.u8.wrap 98 = 98 := by decide
        have hcv := two_conv wr 98 (97 + y)
        have HBA := Lib.hid (Blk.drew (HB.out.alloc (.cells #[.int .u8 98, .int .u8 (97 + y)] 5)))
        have HKA := Lib.hid (Keep.drew (HK.out.alloc (.cells #[.int .u8 98, .int .u8 (97 + y)] 5)))
        go_wp2
        have hS : wr.drew.cell? ⟨ad.block, ad.off + 1, none⟩ = some (.int .i64 x) := h1
        have hS2 : (wr.alloc (.cells #[.int .u8 98, .int .u8 (97 + y)] 5)).drew.cell? ⟨ad.block, ad.off + 1, none⟩ = some (.int .i64 x) := alloc_cell h1 _
        refine wp_region_held_drew (S := fun w' => w'.cell? ⟨ad.block, ad.off + 1, none⟩ = some (.int .i64 x)) (by kernel_rfl) hS (fun _ => ?_)
        (refine wpAnyC_do 0 (some 24) ?_ rfl rfl (by kernel_rfl) (by kernel_rfl) (by kernel_rfl) (fun _ _ _ h => h) (by rfl) ?_ (by assumption) ?_; rotate_left; (intro w' hS'; (try dsimp only at hS'); go_simp; try with_reducible rfl); try simp only [Act.put, List.setIfInBounds_toArray, List.set_cons_zero, List.set_cons_succ])
        (refine wpAnyC_do 1 (some 25) ?_ rfl rfl (by kernel_rfl) (by kernel_rfl) (by kernel_rfl) (fun _ _ _ h => h) (by rfl) ?_ (by assumption) ?_; rotate_left; (intro w' hS'; (try dsimp only at hS'); go_simp; try with_reducible rfl); try simp only [Act.put, List.setIfInBounds_toArray, List.set_cons_zero, List.set_cons_succ])
        (refine wpAnyC_do 2 (some 26) ?_ rfl rfl (by kernel_rfl) (by kernel_rfl) (by kernel_rfl) (fun _ _ _ h => h) (by rfl) ?_ (by assumption) ?_; rotate_left; (intro w' hS'; (try dsimp only at hS'); go_simp; try with_reducible rfl); try simp only [Act.put, List.setIfInBounds_toArray, List.set_cons_zero, List.set_cons_succ])
        (refine wpAnyC_do 3 (some 27) ?_ rfl rfl (by kernel_rfl) (by kernel_rfl) (by kernel_rfl) (fun _ _ _ h => h) (by rfl) ?_ (by assumption) ?_; rotate_left; (intro w' hS'; (try dsimp only at hS'); go_simp; try with_reducible rfl); try simp only [Act.put, List.setIfInBounds_toArray, List.set_cons_zero, List.set_cons_succ])
        (refine wpAnyC_do 4 (some 28) (.int .i64 x) rfl rfl (by kernel_rfl) (by kernel_rfl) (by kernel_rfl) (fun _ _ _ h => h) (by rfl) ?_ (by assumption) ?_; (intro w' hS'; (try dsimp only at hS'); go_simp; try with_reducible rfl); try simp only [Act.put, List.setIfInBounds_toArray, List.set_cons_zero, List.set_cons_succ])
        (refine wpAnyC_call 5 (some 29) Try.func20 (by kernel_rfl) (by kernel_rfl) (.int .i64 u) #[.int .i64 x, .int .i64 60000] (xs := #[.tmp 28, .const (.int .i64 60000)]) rfl rfl rfl (by go_simp) (by kernel_rfl) (by kernel_rfl) (by kernel_rfl) (fun _ _ _ h => h) (by rfl) (fun w' _ => (Low_calls x 60000 w' (by decide) (by decide)).mono fun e w2 ⟨he, hw⟩ => ⟨by rw [he, HU.out], hw⟩) (by assumption) ?_; try simp only [Act.put, List.setIfInBounds_toArray, List.set_cons_zero, List.set_cons_succ])
        (refine wpAnyC_do 6 (some 30) ?_ rfl rfl (by kernel_rfl) (by kernel_rfl) (by kernel_rfl) (fun _ _ _ h => h) (by rfl) ?_ (by assumption) ?_; rotate_left; (intro w' hS'; (try dsimp only at hS'); go_simp; try with_reducible rfl); try simp only [Act.put, List.setIfInBounds_toArray, List.set_cons_zero, List.set_cons_succ])
        (refine wpAnyC_do 7 (some 31) ?_ rfl rfl (by kernel_rfl) (by kernel_rfl) (by kernel_rfl) (fun _ _ _ h => h) (by rfl) ?_ (by assumption) ?_; rotate_left; (intro w' hS'; (try dsimp only at hS'); go_simp; try with_reducible rfl); try simp only [Act.put, List.setIfInBounds_toArray, List.set_cons_zero, List.set_cons_succ])
        (refine wpAnyC_do 8 (some 32) ?_ rfl rfl (by kernel_rfl) (by kernel_rfl) (by kernel_rfl) (fun _ _ _ h => h) (by rfl) ?_ (by assumption) ?_; rotate_left; (intro w' hS'; (try dsimp only at hS'); go_simp; try with_reducible rfl); try simp only [Act.put, List.setIfInBounds_toArray, List.set_cons_zero, List.set_cons_succ])
        (refine wpAnyC_do 9 (some 33) ?_ rfl rfl (by kernel_rfl) (by kernel_rfl) (by kernel_rfl) (fun _ _ _ h => h) (by rfl) ?_ (by assumption) ?_; rotate_left; (intro w' hS'; (try dsimp only at hS'); go_simp; try with_reducible rfl); try simp only [Act.put, List.setIfInBounds_toArray, List.set_cons_zero, List.set_cons_succ])
        (refine wpAnyC_do 10 (some 34) (.int .i64 x) rfl rfl (by kernel_rfl) (by kernel_rfl) (by kernel_rfl) (fun _ _ _ h => h) (by rfl) ?_ (by assumption) ?_; (intro w' hS'; (try dsimp only at hS'); go_simp; try with_reducible rfl); try simp only [Act.put, List.setIfInBounds_toArray, List.set_cons_zero, List.set_cons_succ])
        (refine wpAnyC_call 11 (some 35) Try.func20 (by kernel_rfl) (by kernel_rfl) (.int .i64 v) #[.int .i64 x, .int .i64 3] (xs := #[.tmp 34, .const (.int .i64 3)]) rfl rfl rfl (by go_simp) (by kernel_rfl) (by kernel_rfl) (by kernel_rfl) (fun _ _ _ h => h) (by rfl) (fun w' _ => (Low_calls x 3 w' (by decide) (by decide)).mono fun e w2 ⟨he, hw⟩ => ⟨by rw [he, HV.out], hw⟩) (by assumption) ?_; try simp only [Act.put, List.setIfInBounds_toArray, List.set_cons_zero, List.set_cons_succ])
        (refine wpAnyC_do 12 (some 36) ?_ rfl rfl (by kernel_rfl) (by kernel_rfl) (by kernel_rfl) (fun _ _ _ h => h) (by rfl) ?_ (by assumption) ?_; rotate_left; (intro w' hS'; (try dsimp only at hS'); go_simp; try with_reducible rfl); try simp only [Act.put, List.setIfInBounds_toArray, List.set_cons_zero, List.set_cons_succ])
        (refine wpAnyC_do 13 (some 37) ?_ rfl rfl (by kernel_rfl) (by kernel_rfl) (by kernel_rfl) (fun _ _ _ h => h) (by rfl) ?_ (by assumption) ?_; rotate_left; (intro w' hS'; (try dsimp only at hS'); go_simp; try with_reducible rfl); try simp only [Act.put, List.setIfInBounds_toArray, List.set_cons_zero, List.set_cons_succ])
        (refine wpAnyC_do 14 (some 38) ?_ rfl rfl (by kernel_rfl) (by kernel_rfl) (by kernel_rfl) (fun _ _ _ h => h) (by rfl) ?_ (by assumption) ?_; rotate_left; (intro w' hS'; (try dsimp only at hS'); go_simp; try with_reducible rfl); try simp only [Act.put, List.setIfInBounds_toArray, List.set_cons_zero, List.set_cons_succ])
        (refine wpAnyC_do 15 (some 39) ?_ rfl rfl (by kernel_rfl) (by kernel_rfl) (by kernel_rfl) (fun _ _ _ h => h) (by rfl) ?_ (by assumption) ?_; rotate_left; (intro w' hS'; (try dsimp only at hS'); go_simp; try with_reducible rfl); try simp only [Act.put, List.setIfInBounds_toArray, List.set_cons_zero, List.set_cons_succ])
        (refine wpAnyC_do 16 (some 40) ?_ rfl rfl (by kernel_rfl) (by kernel_rfl) (by kernel_rfl) (fun _ _ _ h => h) (by rfl) ?_ (by assumption) ?_; rotate_left; (intro w' hS'; (try dsimp only at hS'); go_simp; try with_reducible rfl); try simp only [Act.put, List.setIfInBounds_toArray, List.set_cons_zero, List.set_cons_succ])
        (refine wpAnyC_do 17 (some 41) ?_ rfl rfl (by kernel_rfl) (by kernel_rfl) (by kernel_rfl) (fun _ _ _ h => h) (by rfl) ?_ (by assumption) ?_; rotate_left; (intro w' hS'; (try dsimp only at hS'); go_simp; try with_reducible rfl); try simp only [Act.put, List.setIfInBounds_toArray, List.set_cons_zero, List.set_cons_succ])
        (refine wpAnyC_do 18 (some 42) ?_ rfl rfl (by kernel_rfl) (by kernel_rfl) (by kernel_rfl) (fun _ _ _ h => h) (by rfl) ?_ (by assumption) ?_; rotate_left; (intro w' hS'; (try dsimp only at hS'); go_simp; try with_reducible rfl); try simp only [Act.put, List.setIfInBounds_toArray, List.set_cons_zero, List.set_cons_succ])
        (refine wpAnyC_do 19 (some 43) (.int .i64 x) rfl rfl (by kernel_rfl) (by kernel_rfl) (by kernel_rfl) (fun _ _ _ h => h) (by rfl) ?_ (by assumption) ?_; (intro w' hS'; (try dsimp only at hS'); go_simp; try with_reducible rfl); try simp only [Act.put, List.setIfInBounds_toArray, List.set_cons_zero, List.set_cons_succ])
        (refine wpAnyC_call 20 (some 44) Try.func20 (by kernel_rfl) (by kernel_rfl) (.int .i64 y) #[.int .i64 x, .int .i64 26] (xs := #[.tmp 43, .const (.int .i64 26)]) rfl rfl rfl (by go_simp) (by kernel_rfl) (by kernel_rfl) (by kernel_rfl) (fun _ _ _ h => h) (by rfl) (fun w' _ => (Low_calls x 26 w' (by decide) (by decide)).mono fun e w2 ⟨he, hw⟩ => ⟨by rw [he, HY.out], hw⟩) (by assumption) ?_; try simp only [Act.put, List.setIfInBounds_toArray, List.set_cons_zero, List.set_cons_succ])
        (refine wpAnyC_do 21 (some 45) ?_ rfl rfl (by kernel_rfl) (by kernel_rfl) (by kernel_rfl) (fun _ _ _ h => h) (by rfl) ?_ (by assumption) ?_; rotate_left; (intro w' hS'; (try dsimp only at hS'); go_simp; try with_reducible rfl); try simp only [Act.put, List.setIfInBounds_toArray, List.set_cons_zero, List.set_cons_succ])
        (refine wpAnyC_do 22 (some 46) ?_ rfl rfl (by kernel_rfl) (by kernel_rfl) (by kernel_rfl) (fun _ _ _ h => h) (by rfl) ?_ (by assumption) ?_; rotate_left; (intro w' hS'; (try dsimp only at hS'); go_simp; try with_reducible rfl); try simp only [Act.put, List.setIfInBounds_toArray, List.set_cons_zero, List.set_cons_succ])
        (refine wpAnyC_one 23 rfl (by kernel_rfl) (fun K' hK' => ?_); go_simp; refine hK' _ _ hS2 (fun _ => ?_); clear hK' K'; try simp only [Act.put, List.setIfInBounds_toArray, List.set_cons_zero, List.set_cons_succ])
        (refine wpAnyC_one 24 rfl (by kernel_rfl) (fun K' hK' => ?_); go_simp; refine hK' _ _ hS2 (fun _ => ?_); clear hK' K'; try simp only [Act.put, List.setIfInBounds_toArray, List.set_cons_zero, List.set_cons_succ])
        (refine wpAnyC_do 25 (some 49) ?_ rfl rfl (by kernel_rfl) (by kernel_rfl) (by kernel_rfl) (fun _ _ _ h => h) (by rfl) ?_ (by assumption) ?_; rotate_left; (intro w' hS'; (try dsimp only at hS'); go_simp; try with_reducible rfl); try simp only [Act.put, List.setIfInBounds_toArray, List.set_cons_zero, List.set_cons_succ])
        (refine wpAnyC_do 26 (some 50) ?_ rfl rfl (by kernel_rfl) (by kernel_rfl) (by kernel_rfl) (fun _ _ _ h => h) (by rfl) ?_ (by assumption) ?_; rotate_left; (intro w' hS'; (try dsimp only at hS'); go_simp; try with_reducible rfl); try simp only [Act.put, List.setIfInBounds_toArray, List.set_cons_zero, List.set_cons_succ])
        refine wpAnyC_one 27 rfl (by kernel_rfl) (fun K' hK' => ?_)
        rw [if_pos (by rfl)]
        refine wp_store_blk HBA.out 39 (.tmp 50) (.tmp 49) rfl 3 #[.int .i64 (1 + u), .int .i64 (1 + v), .string (strOf [98, 97 + y])] (by go_simp) (by go_simp) (by simp [tkC, sltsC]) (by kernel_rfl) (by simp [Value.oneCell']) ?_
        intro w5 hb5 k5
        refine hK' _ _ (k5.cell_some hS2 hne) (fun _ => ?_)
        clear hK' K'
        try simp only [Act.put, List.setIfInBounds_toArray]
        refine wpAnyH_done (by kernel_rfl) ?_ _
        have HB5 := Lib.hid (tk_step1 (by rw [HLEN.out]; exact hn) HX.out HU.out HV.out HY.out ▸ hb5.out)
        go_wp2
        go_round
        case rel => exact ⟨_, by omega, rfl, HB5.out, HKA.out.trans k5 (fun b hb e => e)⟩
        case measure => simp [intOf]
      · have hn : 2 < n := by omega
        have hni : (2 : Int) < n := by omega
        obtain ⟨ad, rfl, h0⟩ := hr.int hn
        have hne : ad.block ≠ w.heap.size := by have := World.block_lt_of_cell? w _ h0; rw [block_of_add] at this; omega
        obtain ⟨x, hx⟩ : ∃ x, l.getD 2 0 = x := ⟨_, rfl⟩
        rw [hx] at h0
        have HX := Lib.hid hx; clear hx
        have hlt := (World.block_lt_of_cell? w _ h0)
        have h1 : wr.cell? (ad.add 2) = some (.int .i64 x) := HK.out.cell_some (((Keep.refl (fun _ => False) w).alloc _).cell_some h0 (fun f => f)) (by rw [block_of_add]; exact hne)
        rw [show ad.add 2 = ⟨ad.block, ad.off + 2, none⟩ from by simp [Addr.add]] at h1
        obtain ⟨u, hu⟩ : ∃ u, lowI x 60000 = u := ⟨_, rfl⟩
        obtain ⟨v, hv⟩ : ∃ v, lowI x 3 = v := ⟨_, rfl⟩
        obtain ⟨y, hy⟩ : ∃ y, lowI x 26 = y := ⟨_, rfl⟩
        have bu := And.intro (lowI_nn x 60000 (by decide)) (lowI_lt x 60000 (by decide))
        have bv := And.intro (lowI_nn x 3 (by decide)) (lowI_lt x 3 (by decide))
        have by' := And.intro (lowI_nn x 26 (by decide)) (lowI_lt x 26 (by decide))
        rw [hu] at bu
        rw [hv] at bv
        rw [hy] at by'
        have HU := Lib.hid hu; clear hu
        have HV := Lib.hid hv; clear hv
        have HY := Lib.hid hy; clear hy
        have p1 : IntKind.i64.wrap (1 + u) = 1 + u := by rw [IntKind.wrap_i64]; omega
        have p2 : IntKind.i64.wrap (1 + v) = 1 + v := by rw [IntKind.wrap_i64]; omega
        have p3 : IntKind.i64.wrap (97 + y) = 97 + y := by rw [IntKind.wrap_i64]; omega
        have p4 : IntKind.u8.wrap (97 + y) = 97 + y := by rw [IntKind.wrap_u8]; omega
        have q1 : IntKind.i64.wrap 99 = 99 := by decide
        have q2 : IntKind.u8.wrap 99 = 99 := by decide
        have hcv := two_conv wr 99 (97 + y)
        have HBA := Lib.hid (Blk.drew (HB.out.alloc (.cells #[.int .u8 99, .int .u8 (97 + y)] 5)))
        have HKA := Lib.hid (Keep.drew (HK.out.alloc (.cells #[.int .u8 99, .int .u8 (97 + y)] 5)))
        go_wp2
        have hS : wr.drew.cell? ⟨ad.block, ad.off + 2, none⟩ = some (.int .i64 x) := h1
        have hS2 : (wr.alloc (.cells #[.int .u8 99, .int .u8 (97 + y)] 5)).drew.cell? ⟨ad.block, ad.off + 2, none⟩ = some (.int .i64 x) := alloc_cell h1 _
        refine wp_region_held_drew (S := fun w' => w'.cell? ⟨ad.block, ad.off + 2, none⟩ = some (.int .i64 x)) (by kernel_rfl) hS (fun _ => ?_)
        (refine wpAnyC_do 0 (some 24) ?_ rfl rfl (by kernel_rfl) (by kernel_rfl) (by kernel_rfl) (fun _ _ _ h => h) (by rfl) ?_ (by assumption) ?_; rotate_left; (intro w' hS'; (try dsimp only at hS'); go_simp; try with_reducible rfl); try simp only [Act.put, List.setIfInBounds_toArray, List.set_cons_zero, List.set_cons_succ])
        (refine wpAnyC_do 1 (some 25) ?_ rfl rfl (by kernel_rfl) (by kernel_rfl) (by kernel_rfl) (fun _ _ _ h => h) (by rfl) ?_ (by assumption) ?_; rotate_left; (intro w' hS'; (try dsimp only at hS'); go_simp; try with_reducible rfl); try simp only [Act.put, List.setIfInBounds_toArray, List.set_cons_zero, List.set_cons_succ])
        (refine wpAnyC_do 2 (some 26) ?_ rfl rfl (by kernel_rfl) (by kernel_rfl) (by kernel_rfl) (fun _ _ _ h => h) (by rfl) ?_ (by assumption) ?_; rotate_left; (intro w' hS'; (try dsimp only at hS'); go_simp; try with_reducible rfl); try simp only [Act.put, List.setIfInBounds_toArray, List.set_cons_zero, List.set_cons_succ])
        (refine wpAnyC_do 3 (some 27) ?_ rfl rfl (by kernel_rfl) (by kernel_rfl) (by kernel_rfl) (fun _ _ _ h => h) (by rfl) ?_ (by assumption) ?_; rotate_left; (intro w' hS'; (try dsimp only at hS'); go_simp; try with_reducible rfl); try simp only [Act.put, List.setIfInBounds_toArray, List.set_cons_zero, List.set_cons_succ])
        (refine wpAnyC_do 4 (some 28) (.int .i64 x) rfl rfl (by kernel_rfl) (by kernel_rfl) (by kernel_rfl) (fun _ _ _ h => h) (by rfl) ?_ (by assumption) ?_; (intro w' hS'; (try dsimp only at hS'); go_simp; try with_reducible rfl); try simp only [Act.put, List.setIfInBounds_toArray, List.set_cons_zero, List.set_cons_succ])
        (refine wpAnyC_call 5 (some 29) Try.func20 (by kernel_rfl) (by kernel_rfl) (.int .i64 u) #[.int .i64 x, .int .i64 60000] (xs := #[.tmp 28, .const (.int .i64 60000)]) rfl rfl rfl (by go_simp) (by kernel_rfl) (by kernel_rfl) (by kernel_rfl) (fun _ _ _ h => h) (by rfl) (fun w' _ => (Low_calls x 60000 w' (by decide) (by decide)).mono fun e w2 ⟨he, hw⟩ => ⟨by rw [he, HU.out], hw⟩) (by assumption) ?_; try simp only [Act.put, List.setIfInBounds_toArray, List.set_cons_zero, List.set_cons_succ])
        (refine wpAnyC_do 6 (some 30) ?_ rfl rfl (by kernel_rfl) (by kernel_rfl) (by kernel_rfl) (fun _ _ _ h => h) (by rfl) ?_ (by assumption) ?_; rotate_left; (intro w' hS'; (try dsimp only at hS'); go_simp; try with_reducible rfl); try simp only [Act.put, List.setIfInBounds_toArray, List.set_cons_zero, List.set_cons_succ])
        (refine wpAnyC_do 7 (some 31) ?_ rfl rfl (by kernel_rfl) (by kernel_rfl) (by kernel_rfl) (fun _ _ _ h => h) (by rfl) ?_ (by assumption) ?_; rotate_left; (intro w' hS'; (try dsimp only at hS'); go_simp; try with_reducible rfl); try simp only [Act.put, List.setIfInBounds_toArray, List.set_cons_zero, List.set_cons_succ])
        (refine wpAnyC_do 8 (some 32) ?_ rfl rfl (by kernel_rfl) (by kernel_rfl) (by kernel_rfl) (fun _ _ _ h => h) (by rfl) ?_ (by assumption) ?_; rotate_left; (intro w' hS'; (try dsimp only at hS'); go_simp; try with_reducible rfl); try simp only [Act.put, List.setIfInBounds_toArray, List.set_cons_zero, List.set_cons_succ])
        (refine wpAnyC_do 9 (some 33) ?_ rfl rfl (by kernel_rfl) (by kernel_rfl) (by kernel_rfl) (fun _ _ _ h => h) (by rfl) ?_ (by assumption) ?_; rotate_left; (intro w' hS'; (try dsimp only at hS'); go_simp; try with_reducible rfl); try simp only [Act.put, List.setIfInBounds_toArray, List.set_cons_zero, List.set_cons_succ])
        (refine wpAnyC_do 10 (some 34) (.int .i64 x) rfl rfl (by kernel_rfl) (by kernel_rfl) (by kernel_rfl) (fun _ _ _ h => h) (by rfl) ?_ (by assumption) ?_; (intro w' hS'; (try dsimp only at hS'); go_simp; try with_reducible rfl); try simp only [Act.put, List.setIfInBounds_toArray, List.set_cons_zero, List.set_cons_succ])
        (refine wpAnyC_call 11 (some 35) Try.func20 (by kernel_rfl) (by kernel_rfl) (.int .i64 v) #[.int .i64 x, .int .i64 3] (xs := #[.tmp 34, .const (.int .i64 3)]) rfl rfl rfl (by go_simp) (by kernel_rfl) (by kernel_rfl) (by kernel_rfl) (fun _ _ _ h => h) (by rfl) (fun w' _ => (Low_calls x 3 w' (by decide) (by decide)).mono fun e w2 ⟨he, hw⟩ => ⟨by rw [he, HV.out], hw⟩) (by assumption) ?_; try simp only [Act.put, List.setIfInBounds_toArray, List.set_cons_zero, List.set_cons_succ])
        (refine wpAnyC_do 12 (some 36) ?_ rfl rfl (by kernel_rfl) (by kernel_rfl) (by kernel_rfl) (fun _ _ _ h => h) (by rfl) ?_ (by assumption) ?_; rotate_left; (intro w' hS'; (try dsimp only at hS'); go_simp; try with_reducible rfl); try simp only [Act.put, List.setIfInBounds_toArray, List.set_cons_zero, List.set_cons_succ])
        (refine wpAnyC_do 13 (some 37) ?_ rfl rfl (by kernel_rfl) (by kernel_rfl) (by kernel_rfl) (fun _ _ _ h => h) (by rfl) ?_ (by assumption) ?_; rotate_left; (intro w' hS'; (try dsimp only at hS'); go_simp; try with_reducible rfl); try simp only [Act.put, List.setIfInBounds_toArray, List.set_cons_zero, List.set_cons_succ])
        (refine wpAnyC_do 14 (some 38) ?_ rfl rfl (by kernel_rfl) (by kernel_rfl) (by kernel_rfl) (fun _ _ _ h => h) (by rfl) ?_ (by assumption) ?_; rotate_left; (intro w' hS'; (try dsimp only at hS'); go_simp; try with_reducible rfl); try simp only [Act.put, List.setIfInBounds_toArray, List.set_cons_zero, List.set_cons_succ])
        (refine wpAnyC_do 15 (some 39) ?_ rfl rfl (by kernel_rfl) (by kernel_rfl) (by kernel_rfl) (fun _ _ _ h => h) (by rfl) ?_ (by assumption) ?_; rotate_left; (intro w' hS'; (try dsimp only at hS'); go_simp; try with_reducible rfl); try simp only [Act.put, List.setIfInBounds_toArray, List.set_cons_zero, List.set_cons_succ])
        (refine wpAnyC_do 16 (some 40) ?_ rfl rfl (by kernel_rfl) (by kernel_rfl) (by kernel_rfl) (fun _ _ _ h => h) (by rfl) ?_ (by assumption) ?_; rotate_left; (intro w' hS'; (try dsimp only at hS'); go_simp; try with_reducible rfl); try simp only [Act.put, List.setIfInBounds_toArray, List.set_cons_zero, List.set_cons_succ])
        (refine wpAnyC_do 17 (some 41) ?_ rfl rfl (by kernel_rfl) (by kernel_rfl) (by kernel_rfl) (fun _ _ _ h => h) (by rfl) ?_ (by assumption) ?_; rotate_left; (intro w' hS'; (try dsimp only at hS'); go_simp; try with_reducible rfl); try simp only [Act.put, List.setIfInBounds_toArray, List.set_cons_zero, List.set_cons_succ])
        (refine wpAnyC_do 18 (some 42) ?_ rfl rfl (by kernel_rfl) (by kernel_rfl) (by kernel_rfl) (fun _ _ _ h => h) (by rfl) ?_ (by assumption) ?_; rotate_left; (intro w' hS'; (try dsimp only at hS'); go_simp; try with_reducible rfl); try simp only [Act.put, List.setIfInBounds_toArray, List.set_cons_zero, List.set_cons_succ])
        (refine wpAnyC_do 19 (some 43) (.int .i64 x) rfl rfl (by kernel_rfl) (by kernel_rfl) (by kernel_rfl) (fun _ _ _ h => h) (by rfl) ?_ (by assumption) ?_; (intro w' hS'; (try dsimp only at hS'); go_simp; try with_reducible rfl); try simp only [Act.put, List.setIfInBounds_toArray, List.set_cons_zero, List.set_cons_succ])
        (refine wpAnyC_call 20 (some 44) Try.func20 (by kernel_rfl) (by kernel_rfl) (.int .i64 y) #[.int .i64 x, .int .i64 26] (xs := #[.tmp 43, .const (.int .i64 26)]) rfl rfl rfl (by go_simp) (by kernel_rfl) (by kernel_rfl) (by kernel_rfl) (fun _ _ _ h => h) (by rfl) (fun w' _ => (Low_calls x 26 w' (by decide) (by decide)).mono fun e w2 ⟨he, hw⟩ => ⟨by rw [he, HY.out], hw⟩) (by assumption) ?_; try simp only [Act.put, List.setIfInBounds_toArray, List.set_cons_zero, List.set_cons_succ])
        (refine wpAnyC_do 21 (some 45) ?_ rfl rfl (by kernel_rfl) (by kernel_rfl) (by kernel_rfl) (fun _ _ _ h => h) (by rfl) ?_ (by assumption) ?_; rotate_left; (intro w' hS'; (try dsimp only at hS'); go_simp; try with_reducible rfl); try simp only [Act.put, List.setIfInBounds_toArray, List.set_cons_zero, List.set_cons_succ])
        (refine wpAnyC_do 22 (some 46) ?_ rfl rfl (by kernel_rfl) (by kernel_rfl) (by kernel_rfl) (fun _ _ _ h => h) (by rfl) ?_ (by assumption) ?_; rotate_left; (intro w' hS'; (try dsimp only at hS'); go_simp; try with_reducible rfl); try simp only [Act.put, List.setIfInBounds_toArray, List.set_cons_zero, List.set_cons_succ])
        (refine wpAnyC_one 23 rfl (by kernel_rfl) (fun K' hK' => ?_); go_simp; refine hK' _ _ hS2 (fun _ => ?_); clear hK' K'; try simp only [Act.put, List.setIfInBounds_toArray, List.set_cons_zero, List.set_cons_succ])
        (refine wpAnyC_one 24 rfl (by kernel_rfl) (fun K' hK' => ?_); go_simp; refine hK' _ _ hS2 (fun _ => ?_); clear hK' K'; try simp only [Act.put, List.setIfInBounds_toArray, List.set_cons_zero, List.set_cons_succ])
        (refine wpAnyC_do 25 (some 49) ?_ rfl rfl (by kernel_rfl) (by kernel_rfl) (by kernel_rfl) (fun _ _ _ h => h) (by rfl) ?_ (by assumption) ?_; rotate_left; (intro w' hS'; (try dsimp only at hS'); go_simp; try with_reducible rfl); try simp only [Act.put, List.setIfInBounds_toArray, List.set_cons_zero, List.set_cons_succ])
        (refine wpAnyC_do 26 (some 50) ?_ rfl rfl (by kernel_rfl) (by kernel_rfl) (by kernel_rfl) (fun _ _ _ h => h) (by rfl) ?_ (by assumption) ?_; rotate_left; (intro w' hS'; (try dsimp only at hS'); go_simp; try with_reducible rfl); try simp only [Act.put, List.setIfInBounds_toArray, List.set_cons_zero, List.set_cons_succ])
        refine wpAnyC_one 27 rfl (by kernel_rfl) (fun K' hK' => ?_)
        rw [if_pos (by rfl)]
        refine wp_store_blk HBA.out 39 (.tmp 50) (.tmp 49) rfl 6 #[.int .i64 (1 + u), .int .i64 (1 + v), .string (strOf [99, 97 + y])] (by go_simp) (by go_simp) (by simp [tkC, sltsC]) (by kernel_rfl) (by simp [Value.oneCell']) ?_
        intro w5 hb5 k5
        refine hK' _ _ (k5.cell_some hS2 hne) (fun _ => ?_)
        clear hK' K'
        try simp only [Act.put, List.setIfInBounds_toArray]
        refine wpAnyH_done (by kernel_rfl) ?_ _
        have HB5 := Lib.hid (tk_step2 (by rw [HLEN.out]; exact hn) HX.out HU.out HV.out HY.out ▸ hb5.out)
        go_wp2
        go_round
        case rel => exact ⟨_, by omega, rfl, HB5.out, HKA.out.trans k5 (fun b hb e => e)⟩
        case measure => simp [intOf]
      · have hn : 3 < n := by omega
        have hni : (3 : Int) < n := by omega
        obtain ⟨ad, rfl, h0⟩ := hr.int hn
        have hne : ad.block ≠ w.heap.size := by have := World.block_lt_of_cell? w _ h0; rw [block_of_add] at this; omega
        obtain ⟨x, hx⟩ : ∃ x, l.getD 3 0 = x := ⟨_, rfl⟩
        rw [hx] at h0
        have HX := Lib.hid hx; clear hx
        have hlt := (World.block_lt_of_cell? w _ h0)
        have h1 : wr.cell? (ad.add 3) = some (.int .i64 x) := HK.out.cell_some (((Keep.refl (fun _ => False) w).alloc _).cell_some h0 (fun f => f)) (by rw [block_of_add]; exact hne)
        rw [show ad.add 3 = ⟨ad.block, ad.off + 3, none⟩ from by simp [Addr.add]] at h1
        obtain ⟨u, hu⟩ : ∃ u, lowI x 60000 = u := ⟨_, rfl⟩
        obtain ⟨v, hv⟩ : ∃ v, lowI x 3 = v := ⟨_, rfl⟩
        obtain ⟨y, hy⟩ : ∃ y, lowI x 26 = y := ⟨_, rfl⟩
        have bu := And.intro (lowI_nn x 60000 (by decide)) (lowI_lt x 60000 (by decide))
        have bv := And.intro (lowI_nn x 3 (by decide)) (lowI_lt x 3 (by decide))
        have by' := And.intro (lowI_nn x 26 (by decide)) (lowI_lt x 26 (by decide))
        rw [hu] at bu
        rw [hv] at bv
        rw [hy] at by'
        have HU := Lib.hid hu; clear hu
        have HV := Lib.hid hv; clear hv
        have HY := Lib.hid hy; clear hy
        have p1 : IntKind.i64.wrap (1 + u) = 1 + u := by rw [IntKind.wrap_i64]; omega
        have p2 : IntKind.i64.wrap (1 + v) = 1 + v := by rw [IntKind.wrap_i64]; omega
        have p3 : IntKind.i64.wrap (97 + y) = 97 + y := by rw [IntKind.wrap_i64]; omega
        have p4 : IntKind.u8.wrap (97 + y) = 97 + y := by rw [IntKind.wrap_u8]; omega
        have q1 : IntKind.i64.wrap 100 = 100 := by decide
        have q2 : IntKind.u8.wrap 100 = 100 := by decide
        have hcv := two_conv wr 100 (97 + y)
        have HBA := Lib.hid (Blk.drew (HB.out.alloc (.cells #[.int .u8 100, .int .u8 (97 + y)] 5)))
        have HKA := Lib.hid (Keep.drew (HK.out.alloc (.cells #[.int .u8 100, .int .u8 (97 + y)] 5)))
        go_wp2
        have hS : wr.drew.cell? ⟨ad.block, ad.off + 3, none⟩ = some (.int .i64 x) := h1
        have hS2 : (wr.alloc (.cells #[.int .u8 100, .int .u8 (97 + y)] 5)).drew.cell? ⟨ad.block, ad.off + 3, none⟩ = some (.int .i64 x) := alloc_cell h1 _
        refine wp_region_held_drew (S := fun w' => w'.cell? ⟨ad.block, ad.off + 3, none⟩ = some (.int .i64 x)) (by kernel_rfl) hS (fun _ => ?_)
        (refine wpAnyC_do 0 (some 24) ?_ rfl rfl (by kernel_rfl) (by kernel_rfl) (by kernel_rfl) (fun _ _ _ h => h) (by rfl) ?_ (by assumption) ?_; rotate_left; (intro w' hS'; (try dsimp only at hS'); go_simp; try with_reducible rfl); try simp only [Act.put, List.setIfInBounds_toArray, List.set_cons_zero, List.set_cons_succ])
        (refine wpAnyC_do 1 (some 25) ?_ rfl rfl (by kernel_rfl) (by kernel_rfl) (by kernel_rfl) (fun _ _ _ h => h) (by rfl) ?_ (by assumption) ?_; rotate_left; (intro w' hS'; (try dsimp only at hS'); go_simp; try with_reducible rfl); try simp only [Act.put, List.setIfInBounds_toArray, List.set_cons_zero, List.set_cons_succ])
        (refine wpAnyC_do 2 (some 26) ?_ rfl rfl (by kernel_rfl) (by kernel_rfl) (by kernel_rfl) (fun _ _ _ h => h) (by rfl) ?_ (by assumption) ?_; rotate_left; (intro w' hS'; (try dsimp only at hS'); go_simp; try with_reducible rfl); try simp only [Act.put, List.setIfInBounds_toArray, List.set_cons_zero, List.set_cons_succ])
        (refine wpAnyC_do 3 (some 27) ?_ rfl rfl (by kernel_rfl) (by kernel_rfl) (by kernel_rfl) (fun _ _ _ h => h) (by rfl) ?_ (by assumption) ?_; rotate_left; (intro w' hS'; (try dsimp only at hS'); go_simp; try with_reducible rfl); try simp only [Act.put, List.setIfInBounds_toArray, List.set_cons_zero, List.set_cons_succ])
        (refine wpAnyC_do 4 (some 28) (.int .i64 x) rfl rfl (by kernel_rfl) (by kernel_rfl) (by kernel_rfl) (fun _ _ _ h => h) (by rfl) ?_ (by assumption) ?_; (intro w' hS'; (try dsimp only at hS'); go_simp; try with_reducible rfl); try simp only [Act.put, List.setIfInBounds_toArray, List.set_cons_zero, List.set_cons_succ])
        (refine wpAnyC_call 5 (some 29) Try.func20 (by kernel_rfl) (by kernel_rfl) (.int .i64 u) #[.int .i64 x, .int .i64 60000] (xs := #[.tmp 28, .const (.int .i64 60000)]) rfl rfl rfl (by go_simp) (by kernel_rfl) (by kernel_rfl) (by kernel_rfl) (fun _ _ _ h => h) (by rfl) (fun w' _ => (Low_calls x 60000 w' (by decide) (by decide)).mono fun e w2 ⟨he, hw⟩ => ⟨by rw [he, HU.out], hw⟩) (by assumption) ?_; try simp only [Act.put, List.setIfInBounds_toArray, List.set_cons_zero, List.set_cons_succ])
        (refine wpAnyC_do 6 (some 30) ?_ rfl rfl (by kernel_rfl) (by kernel_rfl) (by kernel_rfl) (fun _ _ _ h => h) (by rfl) ?_ (by assumption) ?_; rotate_left; (intro w' hS'; (try dsimp only at hS'); go_simp; try with_reducible rfl); try simp only [Act.put, List.setIfInBounds_toArray, List.set_cons_zero, List.set_cons_succ])
        (refine wpAnyC_do 7 (some 31) ?_ rfl rfl (by kernel_rfl) (by kernel_rfl) (by kernel_rfl) (fun _ _ _ h => h) (by rfl) ?_ (by assumption) ?_; rotate_left; (intro w' hS'; (try dsimp only at hS'); go_simp; try with_reducible rfl); try simp only [Act.put, List.setIfInBounds_toArray, List.set_cons_zero, List.set_cons_succ])
        (refine wpAnyC_do 8 (some 32) ?_ rfl rfl (by kernel_rfl) (by kernel_rfl) (by kernel_rfl) (fun _ _ _ h => h) (by rfl) ?_ (by assumption) ?_; rotate_left; (intro w' hS'; (try dsimp only at hS'); go_simp; try with_reducible rfl); try simp only [Act.put, List.setIfInBounds_toArray, List.set_cons_zero, List.set_cons_succ])
        (refine wpAnyC_do 9 (some 33) ?_ rfl rfl (by kernel_rfl) (by kernel_rfl) (by kernel_rfl) (fun _ _ _ h => h) (by rfl) ?_ (by assumption) ?_; rotate_left; (intro w' hS'; (try dsimp only at hS'); go_simp; try with_reducible rfl); try simp only [Act.put, List.setIfInBounds_toArray, List.set_cons_zero, List.set_cons_succ])
        (refine wpAnyC_do 10 (some 34) (.int .i64 x) rfl rfl (by kernel_rfl) (by kernel_rfl) (by kernel_rfl) (fun _ _ _ h => h) (by rfl) ?_ (by assumption) ?_; (intro w' hS'; (try dsimp only at hS'); go_simp; try with_reducible rfl); try simp only [Act.put, List.setIfInBounds_toArray, List.set_cons_zero, List.set_cons_succ])
        (refine wpAnyC_call 11 (some 35) Try.func20 (by kernel_rfl) (by kernel_rfl) (.int .i64 v) #[.int .i64 x, .int .i64 3] (xs := #[.tmp 34, .const (.int .i64 3)]) rfl rfl rfl (by go_simp) (by kernel_rfl) (by kernel_rfl) (by kernel_rfl) (fun _ _ _ h => h) (by rfl) (fun w' _ => (Low_calls x 3 w' (by decide) (by decide)).mono fun e w2 ⟨he, hw⟩ => ⟨by rw [he, HV.out], hw⟩) (by assumption) ?_; try simp only [Act.put, List.setIfInBounds_toArray, List.set_cons_zero, List.set_cons_succ])
        (refine wpAnyC_do 12 (some 36) ?_ rfl rfl (by kernel_rfl) (by kernel_rfl) (by kernel_rfl) (fun _ _ _ h => h) (by rfl) ?_ (by assumption) ?_; rotate_left; (intro w' hS'; (try dsimp only at hS'); go_simp; try with_reducible rfl); try simp only [Act.put, List.setIfInBounds_toArray, List.set_cons_zero, List.set_cons_succ])
        (refine wpAnyC_do 13 (some 37) ?_ rfl rfl (by kernel_rfl) (by kernel_rfl) (by kernel_rfl) (fun _ _ _ h => h) (by rfl) ?_ (by assumption) ?_; rotate_left; (intro w' hS'; (try dsimp only at hS'); go_simp; try with_reducible rfl); try simp only [Act.put, List.setIfInBounds_toArray, List.set_cons_zero, List.set_cons_succ])
        (refine wpAnyC_do 14 (some 38) ?_ rfl rfl (by kernel_rfl) (by kernel_rfl) (by kernel_rfl) (fun _ _ _ h => h) (by rfl) ?_ (by assumption) ?_; rotate_left; (intro w' hS'; (try dsimp only at hS'); go_simp; try with_reducible rfl); try simp only [Act.put, List.setIfInBounds_toArray, List.set_cons_zero, List.set_cons_succ])
        (refine wpAnyC_do 15 (some 39) ?_ rfl rfl (by kernel_rfl) (by kernel_rfl) (by kernel_rfl) (fun _ _ _ h => h) (by rfl) ?_ (by assumption) ?_; rotate_left; (intro w' hS'; (try dsimp only at hS'); go_simp; try with_reducible rfl); try simp only [Act.put, List.setIfInBounds_toArray, List.set_cons_zero, List.set_cons_succ])
        (refine wpAnyC_do 16 (some 40) ?_ rfl rfl (by kernel_rfl) (by kernel_rfl) (by kernel_rfl) (fun _ _ _ h => h) (by rfl) ?_ (by assumption) ?_; rotate_left; (intro w' hS'; (try dsimp only at hS'); go_simp; try with_reducible rfl); try simp only [Act.put, List.setIfInBounds_toArray, List.set_cons_zero, List.set_cons_succ])
        (refine wpAnyC_do 17 (some 41) ?_ rfl rfl (by kernel_rfl) (by kernel_rfl) (by kernel_rfl) (fun _ _ _ h => h) (by rfl) ?_ (by assumption) ?_; rotate_left; (intro w' hS'; (try dsimp only at hS'); go_simp; try with_reducible rfl); try simp only [Act.put, List.setIfInBounds_toArray, List.set_cons_zero, List.set_cons_succ])
        (refine wpAnyC_do 18 (some 42) ?_ rfl rfl (by kernel_rfl) (by kernel_rfl) (by kernel_rfl) (fun _ _ _ h => h) (by rfl) ?_ (by assumption) ?_; rotate_left; (intro w' hS'; (try dsimp only at hS'); go_simp; try with_reducible rfl); try simp only [Act.put, List.setIfInBounds_toArray, List.set_cons_zero, List.set_cons_succ])
        (refine wpAnyC_do 19 (some 43) (.int .i64 x) rfl rfl (by kernel_rfl) (by kernel_rfl) (by kernel_rfl) (fun _ _ _ h => h) (by rfl) ?_ (by assumption) ?_; (intro w' hS'; (try dsimp only at hS'); go_simp; try with_reducible rfl); try simp only [Act.put, List.setIfInBounds_toArray, List.set_cons_zero, List.set_cons_succ])
        (refine wpAnyC_call 20 (some 44) Try.func20 (by kernel_rfl) (by kernel_rfl) (.int .i64 y) #[.int .i64 x, .int .i64 26] (xs := #[.tmp 43, .const (.int .i64 26)]) rfl rfl rfl (by go_simp) (by kernel_rfl) (by kernel_rfl) (by kernel_rfl) (fun _ _ _ h => h) (by rfl) (fun w' _ => (Low_calls x 26 w' (by decide) (by decide)).mono fun e w2 ⟨he, hw⟩ => ⟨by rw [he, HY.out], hw⟩) (by assumption) ?_; try simp only [Act.put, List.setIfInBounds_toArray, List.set_cons_zero, List.set_cons_succ])
        (refine wpAnyC_do 21 (some 45) ?_ rfl rfl (by kernel_rfl) (by kernel_rfl) (by kernel_rfl) (fun _ _ _ h => h) (by rfl) ?_ (by assumption) ?_; rotate_left; (intro w' hS'; (try dsimp only at hS'); go_simp; try with_reducible rfl); try simp only [Act.put, List.setIfInBounds_toArray, List.set_cons_zero, List.set_cons_succ])
        (refine wpAnyC_do 22 (some 46) ?_ rfl rfl (by kernel_rfl) (by kernel_rfl) (by kernel_rfl) (fun _ _ _ h => h) (by rfl) ?_ (by assumption) ?_; rotate_left; (intro w' hS'; (try dsimp only at hS'); go_simp; try with_reducible rfl); try simp only [Act.put, List.setIfInBounds_toArray, List.set_cons_zero, List.set_cons_succ])
        (refine wpAnyC_one 23 rfl (by kernel_rfl) (fun K' hK' => ?_); go_simp; refine hK' _ _ hS2 (fun _ => ?_); clear hK' K'; try simp only [Act.put, List.setIfInBounds_toArray, List.set_cons_zero, List.set_cons_succ])
        (refine wpAnyC_one 24 rfl (by kernel_rfl) (fun K' hK' => ?_); go_simp; refine hK' _ _ hS2 (fun _ => ?_); clear hK' K'; try simp only [Act.put, List.setIfInBounds_toArray, List.set_cons_zero, List.set_cons_succ])
        (refine wpAnyC_do 25 (some 49) ?_ rfl rfl (by kernel_rfl) (by kernel_rfl) (by kernel_rfl) (fun _ _ _ h => h) (by rfl) ?_ (by assumption) ?_; rotate_left; (intro w' hS'; (try dsimp only at hS'); go_simp; try with_reducible rfl); try simp only [Act.put, List.setIfInBounds_toArray, List.set_cons_zero, List.set_cons_succ])
        (refine wpAnyC_do 26 (some 50) ?_ rfl rfl (by kernel_rfl) (by kernel_rfl) (by kernel_rfl) (fun _ _ _ h => h) (by rfl) ?_ (by assumption) ?_; rotate_left; (intro w' hS'; (try dsimp only at hS'); go_simp; try with_reducible rfl); try simp only [Act.put, List.setIfInBounds_toArray, List.set_cons_zero, List.set_cons_succ])
        refine wpAnyC_one 27 rfl (by kernel_rfl) (fun K' hK' => ?_)
        rw [if_pos (by rfl)]
        refine wp_store_blk HBA.out 39 (.tmp 50) (.tmp 49) rfl 9 #[.int .i64 (1 + u), .int .i64 (1 + v), .string (strOf [100, 97 + y])] (by go_simp) (by go_simp) (by simp [tkC, sltsC]) (by kernel_rfl) (by simp [Value.oneCell']) ?_
        intro w5 hb5 k5
        refine hK' _ _ (k5.cell_some hS2 hne) (fun _ => ?_)
        clear hK' K'
        try simp only [Act.put, List.setIfInBounds_toArray]
        refine wpAnyH_done (by kernel_rfl) ?_ _
        have HB5 := Lib.hid (tk_step3 (by rw [HLEN.out]; exact hn) HX.out HU.out HV.out HY.out ▸ hb5.out)
        go_wp2
        go_round
        case rel => exact ⟨_, by omega, rfl, HB5.out, HKA.out.trans k5 (fun b hb e => e)⟩
        case measure => simp [intOf]
      · omega
    · obtain ⟨wo, rfl⟩ : ∃ wo : World, wo = wr := ⟨_, rfl⟩
      have hend : tkC l k = tkC l 4 := by
        by_cases h4 : k = 4
        · rw [h4]
        · exact tk_all hk (by rw [HLEN.out]; omega)
      obtain ⟨m, hm4, hlow⟩ : ∃ m : Nat, m < 4 ∧ lowI which 4 = m := by
        have := low_pos which 4 (by decide)
        exact ⟨(lowI which 4).toNat, by omega, by omega⟩
      have HLOW := Lib.hid hlow; clear hlow
      have hb0 := HB.out
      rw [hend, tkC4] at hb0
      have hlay := fr_lay l m hm4
      rw [tkC4] at hlay
      have hok := fr_lay_ok l m
      obtain ⟨f, hf⟩ : ∃ f, freeI (frS l m 0) (frS l m 1) (frS l m 2) (frS l m 3) = f := ⟨_, rfl⟩
      have hfl := fr_free l m hm4
      rw [hf] at hfl
      have hzz := find_zzz l m
      have hf0 := find_fr l m 0 (by decide)
      have hi0 := tk_ino l 0
      have hf1 := find_fr l m 1 (by decide)
      have hi1 := tk_ino l 1
      have hf2 := find_fr l m 2 (by decide)
      have hi2 := tk_ino l 2
      have hf3 := find_fr l m 3 (by decide)
      have hi3 := tk_ino l 3
      obtain ⟨⟨pi, pk, pn⟩, hs0⟩ : ∃ z : Slt, tkS l 0 = z := ⟨_, rfl⟩
      obtain ⟨⟨x0i, x0k, x0n⟩, hx0⟩ : ∃ z : Slt, frS l m 0 = z := ⟨_, rfl⟩
      obtain ⟨⟨qi, qk, qn⟩, hs1⟩ : ∃ z : Slt, tkS l 1 = z := ⟨_, rfl⟩
      obtain ⟨⟨x1i, x1k, x1n⟩, hx1⟩ : ∃ z : Slt, frS l m 1 = z := ⟨_, rfl⟩
      obtain ⟨⟨ri, rk, rn⟩, hs2⟩ : ∃ z : Slt, tkS l 2 = z := ⟨_, rfl⟩
      obtain ⟨⟨x2i, x2k, x2n⟩, hx2⟩ : ∃ z : Slt, frS l m 2 = z := ⟨_, rfl⟩
      obtain ⟨⟨ti, tk, tn⟩, hs3⟩ : ∃ z : Slt, tkS l 3 = z := ⟨_, rfl⟩
      obtain ⟨⟨x3i, x3k, x3n⟩, hx3⟩ : ∃ z : Slt, frS l m 3 = z := ⟨_, rfl⟩
      rw [hs0, hs1, hs2, hs3] at hb0 hlay
      rw [hx0, hx1, hx2, hx3] at hlay hok hf hzz hf0 hf1 hf2 hf3
      rw [hs0] at hf0 hi0
      rw [hs1] at hf1 hi1
      rw [hs2] at hf2 hi2
      rw [hs3] at hf3 hi3
      unfold sltsC at hb0
      dsimp only at hb0 hi0 hi1 hi2 hi3
      have HB0 := Lib.hid hb0; clear hb0
      have HLAY := Lib.hid hlay; clear hlay
      have HOK := Lib.hid hok; clear hok
      have HF := Lib.hid hf; clear hf
      have HZZ := Lib.hid hzz; clear hzz
      have HF0 := Lib.hid hf0; clear hf0
      have HF1 := Lib.hid hf1; clear hf1
      have HF2 := Lib.hid hf2; clear hf2
      have HF3 := Lib.hid hf3; clear hf3
      clear hs0 hs1 hs2 hs3 hx0 hx1 hx2 hx3 hend
      have HK0 := Lib.hid (HK.out.mono (fun b hb (e : b = w.heap.size) => e))
      have HN0 := Lib.hid (Blk.new wo 40 zeroC)
      have hEQ : ∀ w, (Op.equalIn 10000 40 (.agg #[.int .i64 x0i, .int .i64 x0k, .string x0n, .int .i64 x1i, .int .i64 x1k, .string x1n, .int .i64 x2i, .int .i64 x2k, .string x2n, .int .i64 x3i, .int .i64 x3k, .string x3n]) (.agg #[.int .i64 x0i, .int .i64 x0k, .string x0n, .int .i64 x1i, .int .i64 x1k, .string x1n, .int .i64 x2i, .int .i64 x2k, .string x2n, .int .i64 x3i, .int .i64 x3k, .string x3n])).run Try.prog w = .ok true w := arr_self ⟨x0i, x0k, x0n⟩ ⟨x1i, x1k, x1n⟩ ⟨x2i, x2k, x2n⟩ ⟨x3i, x3k, x3n⟩
      have hmi : (m : Int) < 4 := by omega
      rcases (show k = 4 ∨ (k < 4 ∧ (n : Int) ≤ k) by omega) with rfl | ⟨hk4, hnk⟩
      all_goals
        go_wp2_with (first
          | (go_at_call 20; refine (Low_calls which 4 _ (by decide) (by decide)).mono ?_; rintro e w2 ⟨rfl, rfl⟩; rw [HLOW.out])
          | (refine wpList_load_blk HB0.out rfl 40 (.tmp 5) rfl rfl arr_und rfl arr_size ?_)
          | (refine wpList_store_blk HN0.out rfl 40 (.tmp 7) (.tmp 53) rfl 0 (sltsC ⟨pi, pk, pn⟩ ⟨qi, qk, qn⟩ ⟨ri, rk, rn⟩ ⟨ti, tk, tn⟩) rfl rfl (by simp [zeroC, sltsC]) arr_size (one_slts _ _ _ _) ?_; intro w3 hb3 k3; have HN1 := Lib.hid (lay_zero ⟨pi, pk, pn⟩ ⟨qi, qk, qn⟩ ⟨ri, rk, rn⟩ ⟨ti, tk, tn⟩ ▸ hb3.out))
          | (refine wpList_store_blk HN1.out rfl 39 (.tmp 56) (.tmp 55) rfl (m * 3) #[.int .i64 0, .int .i64 0, .string ⟨#[]⟩] rfl rfl (show m * 3 + 3 ≤ 12 by omega) (by kernel_rfl) (by simp [Value.oneCell']) ?_; intro w4 hb4 k4; have HN2 : Hid (Blk w4 wo.heap.size 40 #[.int .i64 x0i, .int .i64 x0k, .string x0n, .int .i64 x1i, .int .i64 x1k, .string x1n, .int .i64 x2i, .int .i64 x2k, .string x2n, .int .i64 x3i, .int .i64 x3k, .string x3n]) := Lib.hid (Eq.mp (congrArg (Blk w4 wo.heap.size 40) HLAY.out) hb4.out))
          | (refine wpList_load_blk HN2.out rfl 40 (.tmp 7) rfl rfl arr_und rfl arr_size ?_)
          | (go_at_call 23; refine (Lay_yes ⟨x0i, x0k, x0n⟩ ⟨x1i, x1k, x1n⟩ ⟨x2i, x2k, x2n⟩ ⟨x3i, x3k, x3n⟩ _ HOK.out).mono ?_; rintro e w5 ⟨v5, rfl, h5⟩; obtain ⟨A5, c5, hv5, hc5, hr5⟩ := h5.1.rd; subst hv5; have HN3 := Lib.hid (HN2.out.fresh h5.2.1))
          | (go_at_call 25; refine (Read_back _ HOK.out hr5 hc5).mono ?_; rintro e w6 ⟨rfl, k6⟩; dsimp only [sltsV]; have HN := Lib.hid ((HN3.out.fresh k6).alloc (.cells #[.int .i64 x0i, .int .i64 x0k, .string x0n, .int .i64 x1i, .int .i64 x1k, .string x1n, .int .i64 x2i, .int .i64 x2k, .string x2n, .int .i64 x3i, .int .i64 x3k, .string x3n] 40)); have HC := Lib.hid (Blk.new w6 40 #[.int .i64 x0i, .int .i64 x0k, .string x0n, .int .i64 x1i, .int .i64 x1k, .string x1n, .int .i64 x2i, .int .i64 x2k, .string x2n, .int .i64 x3i, .int .i64 x3k, .string x3n]); obtain ⟨c0, c1, c2, c3, c4, c5, c6, c7, c8, c9, c10, c11⟩ := Blk.c12 HN.out; obtain ⟨d0, d1, d2, d3, d4, d5, d6, d7, d8, d9, d10, d11⟩ := Blk.c12 HC.out; have HW := Lib.hid (Keep.refl (fun _ => False) (w6.alloc (.cells #[.int .i64 x0i, .int .i64 x0k, .string x0n, .int .i64 x1i, .int .i64 x1k, .string x1n, .int .i64 x2i, .int .i64 x2k, .string x2n, .int .i64 x3i, .int .i64 x3k, .string x3n] 40))))
          | (go_at_call 33; refine (Free_calls ⟨x0i, x0k, x0n⟩ ⟨x1i, x1k, x1n⟩ ⟨x2i, x2k, x2n⟩ ⟨x3i, x3k, x3n⟩ _).mono ?_; rintro e w7 ⟨rfl, k7⟩; rw [HF.out]; have HN := Lib.hid (HN.out.fresh k7); have HW := Lib.hid (HW.out.trans k7 (fun _ _ f => f)); obtain ⟨c0, c1, c2, c3, c4, c5, c6, c7, c8, c9, c10, c11⟩ := Blk.c12 HN.out))

        have hsz : w.heap.size < wo.heap.size := HB0.out.lt
        have HP := Lib.hid (((((((HB0.out.alloc _).keep k3 (Nat.ne_of_lt hsz)).keep k4 (Nat.ne_of_lt hsz)).fresh h5.2.1).fresh k6).alloc (.cells #[.int .i64 x0i, .int .i64 x0k, .string x0n, .int .i64 x1i, .int .i64 x1k, .string x1n, .int .i64 x2i, .int .i64 x2k, .string x2n, .int .i64 x3i, .int .i64 x3k, .string x3n] 40)).fresh HW.out)
        have f0 := ((Keep.refl (fun _ => False) w).alloc (.cells zeroC 40)).trans HK0.out (fun b hb e => by omega)
        have f1 := ((f0.alloc (.cells zeroC 40)).trans k3 (fun b hb e => by omega)).trans k4 (fun b hb e => by omega)
        have f2 := (f1.trans h5.2.1 (fun _ _ f => f)).trans k6 (fun _ _ f => f)
        have HFR := Lib.hid ((f2.alloc (.cells #[.int .i64 x0i, .int .i64 x0k, .string x0n, .int .i64 x1i, .int .i64 x1k, .string x1n, .int .i64 x2i, .int .i64 x2k, .string x2n, .int .i64 x3i, .int .i64 x3k, .string x3n] 40)).trans HW.out (fun _ _ f => f))
        clear f0 f1 f2
        clear k7 HB0 HK0 HK HB HN0 HN1 HN2 HN3 HC HW HLAY hEQ d0 d1 d2 d3 d4 d5 d6 d7 d8 d9 d10 d11 c0 c1 c2 c3 c4 c5 c6 c7 c8 c9 c10 c11
        go_loopw [12] (fun i wx => ∃ (j : Int), (j = 0 ∨ j = 1 ∨ j = 2 ∨ j = 3 ∨ j = 4) ∧ i = .int .i64 j ∧ Hid (Fresh w7 wx)) (fun i _ => 4 - (intOf i).toNat)
        case atStart => exact ⟨0, by omega, rfl, Keep.refl _ _⟩
        case round =>
          obtain ⟨j, hj, rfl, hfx⟩ := hrel
          have HP5 := Lib.hid (HP.out.fresh hfx.out)
          have HN5 := Lib.hid (HN.out.fresh hfx.out)
          obtain ⟨c0, c1, c2, c3, c4, c5, c6, c7, c8, c9, c10, c11⟩ := Blk.c12 HP5.out
          obtain ⟨d0, d1, d2, d3, d4, d5, d6, d7, d8, d9, d10, d11⟩ := Blk.c12 HN5.out
          obtain rfl | rfl | rfl | rfl | rfl := hj
          · by_cases hmj : m = 0
            · have e1 : ((0 : Int) == (m : Int)) = true := by rw [hmj]; rfl
              have HMJ := Lib.hid hmj; clear hmj
              cases hz : decide (0 < pi)
              case true =>
                have hzz := of_decide_eq_true hz
                have hf : findI pn ⟨x0i, x0k, x0n⟩ ⟨x1i, x1k, x1n⟩ ⟨x2i, x2k, x2n⟩ ⟨x3i, x3k, x3n⟩ = -1 := by
                  have h := HF0.out (by show pi ≠ 0; omega)
                  rwa [if_pos HMJ.out] at h
                have HFI := Lib.hid hf; clear hf hzz
                go_wp2
                have HP6 := Lib.hid HP5.out.drew
                have HN6 := Lib.hid HN5.out.drew
                go_region_held3 (fun w' => (w'.cell? ⟨w.heap.size, 0, none⟩ = some (.int .i64 pi) ∧ w'.cell? ⟨w.heap.size, 1, none⟩ = some (.int .i64 pk) ∧ w'.cell? ⟨w.heap.size, 2, none⟩ = some (.string pn) ∧ w'.cell? ⟨w.heap.size, 3, none⟩ = some (.int .i64 qi) ∧ w'.cell? ⟨w.heap.size, 4, none⟩ = some (.int .i64 qk) ∧ w'.cell? ⟨w.heap.size, 5, none⟩ = some (.string qn) ∧ w'.cell? ⟨w.heap.size, 6, none⟩ = some (.int .i64 ri) ∧ w'.cell? ⟨w.heap.size, 7, none⟩ = some (.int .i64 rk) ∧ w'.cell? ⟨w.heap.size, 8, none⟩ = some (.string rn) ∧ w'.cell? ⟨w.heap.size, 9, none⟩ = some (.int .i64 ti) ∧ w'.cell? ⟨w.heap.size, 10, none⟩ = some (.int .i64 tk) ∧ w'.cell? ⟨w.heap.size, 11, none⟩ = some (.string tn)) ∧ (w'.cell? ⟨wo.heap.size, 0, none⟩ = some (.int .i64 x0i) ∧ w'.cell? ⟨wo.heap.size, 1, none⟩ = some (.int .i64 x0k) ∧ w'.cell? ⟨wo.heap.size, 2, none⟩ = some (.string x0n) ∧ w'.cell? ⟨wo.heap.size, 3, none⟩ = some (.int .i64 x1i) ∧ w'.cell? ⟨wo.heap.size, 4, none⟩ = some (.int .i64 x1k) ∧ w'.cell? ⟨wo.heap.size, 5, none⟩ = some (.string x1n) ∧ w'.cell? ⟨wo.heap.size, 6, none⟩ = some (.int .i64 x2i) ∧ w'.cell? ⟨wo.heap.size, 7, none⟩ = some (.int .i64 x2k) ∧ w'.cell? ⟨wo.heap.size, 8, none⟩ = some (.string x2n) ∧ w'.cell? ⟨wo.heap.size, 9, none⟩ = some (.int .i64 x3i) ∧ w'.cell? ⟨wo.heap.size, 10, none⟩ = some (.int .i64 x3k) ∧ w'.cell? ⟨wo.heap.size, 11, none⟩ = some (.string x3n))) (first | (exact ⟨Blk.c12 HP6.out, Blk.c12 HN6.out⟩) | (exact ⟨Blk.c12 (HP6.out.fresh k7), Blk.c12 (HN6.out.fresh k7)⟩)) (first | (go_at_call 31; refine (Find_calls ⟨x0i, x0k, x0n⟩ ⟨x1i, x1k, x1n⟩ ⟨x2i, x2k, x2n⟩ ⟨x3i, x3k, x3n⟩ pn _).mono ?_; rintro e w8 ⟨rfl, k7⟩; rw [HFI.out]))
                go_wp2
                go_round
                case rel => exact ⟨1, by omega, rfl, hfx.out.drew.trans k7 (fun _ _ f => f)⟩
                case measure => simp [intOf]
              case false =>
                go_wp2
                go_quiet (fail)
                go_wp2
                go_round
                case rel => exact ⟨1, by omega, rfl, hfx.out.drewN _⟩
                case measure => simp [intOf]
            · have e1 : ((0 : Int) == (m : Int)) = false := by rw [beq_eq_false_iff_ne]; omega
              have HMJ := Lib.hid hmj; clear hmj
              cases hz : decide (0 < pi)
              case true =>
                have hzz := of_decide_eq_true hz
                have hf : findI pn ⟨x0i, x0k, x0n⟩ ⟨x1i, x1k, x1n⟩ ⟨x2i, x2k, x2n⟩ ⟨x3i, x3k, x3n⟩ = 0 := by
                  have h := HF0.out (by show pi ≠ 0; omega)
                  rwa [if_neg HMJ.out] at h
                have HFI := Lib.hid hf; clear hf hzz
                go_wp2
                have HP6 := Lib.hid HP5.out.drew
                have HN6 := Lib.hid HN5.out.drew
                go_region_held3 (fun w' => (w'.cell? ⟨w.heap.size, 0, none⟩ = some (.int .i64 pi) ∧ w'.cell? ⟨w.heap.size, 1, none⟩ = some (.int .i64 pk) ∧ w'.cell? ⟨w.heap.size, 2, none⟩ = some (.string pn) ∧ w'.cell? ⟨w.heap.size, 3, none⟩ = some (.int .i64 qi) ∧ w'.cell? ⟨w.heap.size, 4, none⟩ = some (.int .i64 qk) ∧ w'.cell? ⟨w.heap.size, 5, none⟩ = some (.string qn) ∧ w'.cell? ⟨w.heap.size, 6, none⟩ = some (.int .i64 ri) ∧ w'.cell? ⟨w.heap.size, 7, none⟩ = some (.int .i64 rk) ∧ w'.cell? ⟨w.heap.size, 8, none⟩ = some (.string rn) ∧ w'.cell? ⟨w.heap.size, 9, none⟩ = some (.int .i64 ti) ∧ w'.cell? ⟨w.heap.size, 10, none⟩ = some (.int .i64 tk) ∧ w'.cell? ⟨w.heap.size, 11, none⟩ = some (.string tn)) ∧ (w'.cell? ⟨wo.heap.size, 0, none⟩ = some (.int .i64 x0i) ∧ w'.cell? ⟨wo.heap.size, 1, none⟩ = some (.int .i64 x0k) ∧ w'.cell? ⟨wo.heap.size, 2, none⟩ = some (.string x0n) ∧ w'.cell? ⟨wo.heap.size, 3, none⟩ = some (.int .i64 x1i) ∧ w'.cell? ⟨wo.heap.size, 4, none⟩ = some (.int .i64 x1k) ∧ w'.cell? ⟨wo.heap.size, 5, none⟩ = some (.string x1n) ∧ w'.cell? ⟨wo.heap.size, 6, none⟩ = some (.int .i64 x2i) ∧ w'.cell? ⟨wo.heap.size, 7, none⟩ = some (.int .i64 x2k) ∧ w'.cell? ⟨wo.heap.size, 8, none⟩ = some (.string x2n) ∧ w'.cell? ⟨wo.heap.size, 9, none⟩ = some (.int .i64 x3i) ∧ w'.cell? ⟨wo.heap.size, 10, none⟩ = some (.int .i64 x3k) ∧ w'.cell? ⟨wo.heap.size, 11, none⟩ = some (.string x3n))) (first | (exact ⟨Blk.c12 HP6.out, Blk.c12 HN6.out⟩) | (exact ⟨Blk.c12 (HP6.out.fresh k7), Blk.c12 (HN6.out.fresh k7)⟩)) (first | (go_at_call 31; refine (Find_calls ⟨x0i, x0k, x0n⟩ ⟨x1i, x1k, x1n⟩ ⟨x2i, x2k, x2n⟩ ⟨x3i, x3k, x3n⟩ pn _).mono ?_; rintro e w8 ⟨rfl, k7⟩; rw [HFI.out]))
                go_wp2
                go_round
                case rel => exact ⟨1, by omega, rfl, hfx.out.drew.trans k7 (fun _ _ f => f)⟩
                case measure => simp [intOf]
              case false =>
                go_wp2
                go_quiet (fail)
                go_wp2
                go_round
                case rel => exact ⟨1, by omega, rfl, hfx.out.drewN _⟩
                case measure => simp [intOf]
          · by_cases hmj : m = 1
            · have e1 : ((1 : Int) == (m : Int)) = true := by rw [hmj]; rfl
              have HMJ := Lib.hid hmj; clear hmj
              cases hz : decide (0 < qi)
              case true =>
                have hzz := of_decide_eq_true hz
                have hf : findI qn ⟨x0i, x0k, x0n⟩ ⟨x1i, x1k, x1n⟩ ⟨x2i, x2k, x2n⟩ ⟨x3i, x3k, x3n⟩ = -1 := by
                  have h := HF1.out (by show qi ≠ 0; omega)
                  rwa [if_pos HMJ.out] at h
                have HFI := Lib.hid hf; clear hf hzz
                go_wp2
                have HP6 := Lib.hid HP5.out.drew
                have HN6 := Lib.hid HN5.out.drew
                go_region_held3 (fun w' => (w'.cell? ⟨w.heap.size, 0, none⟩ = some (.int .i64 pi) ∧ w'.cell? ⟨w.heap.size, 1, none⟩ = some (.int .i64 pk) ∧ w'.cell? ⟨w.heap.size, 2, none⟩ = some (.string pn) ∧ w'.cell? ⟨w.heap.size, 3, none⟩ = some (.int .i64 qi) ∧ w'.cell? ⟨w.heap.size, 4, none⟩ = some (.int .i64 qk) ∧ w'.cell? ⟨w.heap.size, 5, none⟩ = some (.string qn) ∧ w'.cell? ⟨w.heap.size, 6, none⟩ = some (.int .i64 ri) ∧ w'.cell? ⟨w.heap.size, 7, none⟩ = some (.int .i64 rk) ∧ w'.cell? ⟨w.heap.size, 8, none⟩ = some (.string rn) ∧ w'.cell? ⟨w.heap.size, 9, none⟩ = some (.int .i64 ti) ∧ w'.cell? ⟨w.heap.size, 10, none⟩ = some (.int .i64 tk) ∧ w'.cell? ⟨w.heap.size, 11, none⟩ = some (.string tn)) ∧ (w'.cell? ⟨wo.heap.size, 0, none⟩ = some (.int .i64 x0i) ∧ w'.cell? ⟨wo.heap.size, 1, none⟩ = some (.int .i64 x0k) ∧ w'.cell? ⟨wo.heap.size, 2, none⟩ = some (.string x0n) ∧ w'.cell? ⟨wo.heap.size, 3, none⟩ = some (.int .i64 x1i) ∧ w'.cell? ⟨wo.heap.size, 4, none⟩ = some (.int .i64 x1k) ∧ w'.cell? ⟨wo.heap.size, 5, none⟩ = some (.string x1n) ∧ w'.cell? ⟨wo.heap.size, 6, none⟩ = some (.int .i64 x2i) ∧ w'.cell? ⟨wo.heap.size, 7, none⟩ = some (.int .i64 x2k) ∧ w'.cell? ⟨wo.heap.size, 8, none⟩ = some (.string x2n) ∧ w'.cell? ⟨wo.heap.size, 9, none⟩ = some (.int .i64 x3i) ∧ w'.cell? ⟨wo.heap.size, 10, none⟩ = some (.int .i64 x3k) ∧ w'.cell? ⟨wo.heap.size, 11, none⟩ = some (.string x3n))) (first | (exact ⟨Blk.c12 HP6.out, Blk.c12 HN6.out⟩) | (exact ⟨Blk.c12 (HP6.out.fresh k7), Blk.c12 (HN6.out.fresh k7)⟩)) (first | (go_at_call 31; refine (Find_calls ⟨x0i, x0k, x0n⟩ ⟨x1i, x1k, x1n⟩ ⟨x2i, x2k, x2n⟩ ⟨x3i, x3k, x3n⟩ qn _).mono ?_; rintro e w8 ⟨rfl, k7⟩; rw [HFI.out]))
                go_wp2
                go_round
                case rel => exact ⟨2, by omega, rfl, hfx.out.drew.trans k7 (fun _ _ f => f)⟩
                case measure => simp [intOf]
              case false =>
                go_wp2
                go_quiet (fail)
                go_wp2
                go_round
                case rel => exact ⟨2, by omega, rfl, hfx.out.drewN _⟩
                case measure => simp [intOf]
            · have e1 : ((1 : Int) == (m : Int)) = false := by rw [beq_eq_false_iff_ne]; omega
              have HMJ := Lib.hid hmj; clear hmj
              cases hz : decide (0 < qi)
              case true =>
                have hzz := of_decide_eq_true hz
                have hf : findI qn ⟨x0i, x0k, x0n⟩ ⟨x1i, x1k, x1n⟩ ⟨x2i, x2k, x2n⟩ ⟨x3i, x3k, x3n⟩ = 1 := by
                  have h := HF1.out (by show qi ≠ 0; omega)
                  rwa [if_neg HMJ.out] at h
                have HFI := Lib.hid hf; clear hf hzz
                go_wp2
                have HP6 := Lib.hid HP5.out.drew
                have HN6 := Lib.hid HN5.out.drew
                go_region_held3 (fun w' => (w'.cell? ⟨w.heap.size, 0, none⟩ = some (.int .i64 pi) ∧ w'.cell? ⟨w.heap.size, 1, none⟩ = some (.int .i64 pk) ∧ w'.cell? ⟨w.heap.size, 2, none⟩ = some (.string pn) ∧ w'.cell? ⟨w.heap.size, 3, none⟩ = some (.int .i64 qi) ∧ w'.cell? ⟨w.heap.size, 4, none⟩ = some (.int .i64 qk) ∧ w'.cell? ⟨w.heap.size, 5, none⟩ = some (.string qn) ∧ w'.cell? ⟨w.heap.size, 6, none⟩ = some (.int .i64 ri) ∧ w'.cell? ⟨w.heap.size, 7, none⟩ = some (.int .i64 rk) ∧ w'.cell? ⟨w.heap.size, 8, none⟩ = some (.string rn) ∧ w'.cell? ⟨w.heap.size, 9, none⟩ = some (.int .i64 ti) ∧ w'.cell? ⟨w.heap.size, 10, none⟩ = some (.int .i64 tk) ∧ w'.cell? ⟨w.heap.size, 11, none⟩ = some (.string tn)) ∧ (w'.cell? ⟨wo.heap.size, 0, none⟩ = some (.int .i64 x0i) ∧ w'.cell? ⟨wo.heap.size, 1, none⟩ = some (.int .i64 x0k) ∧ w'.cell? ⟨wo.heap.size, 2, none⟩ = some (.string x0n) ∧ w'.cell? ⟨wo.heap.size, 3, none⟩ = some (.int .i64 x1i) ∧ w'.cell? ⟨wo.heap.size, 4, none⟩ = some (.int .i64 x1k) ∧ w'.cell? ⟨wo.heap.size, 5, none⟩ = some (.string x1n) ∧ w'.cell? ⟨wo.heap.size, 6, none⟩ = some (.int .i64 x2i) ∧ w'.cell? ⟨wo.heap.size, 7, none⟩ = some (.int .i64 x2k) ∧ w'.cell? ⟨wo.heap.size, 8, none⟩ = some (.string x2n) ∧ w'.cell? ⟨wo.heap.size, 9, none⟩ = some (.int .i64 x3i) ∧ w'.cell? ⟨wo.heap.size, 10, none⟩ = some (.int .i64 x3k) ∧ w'.cell? ⟨wo.heap.size, 11, none⟩ = some (.string x3n))) (first | (exact ⟨Blk.c12 HP6.out, Blk.c12 HN6.out⟩) | (exact ⟨Blk.c12 (HP6.out.fresh k7), Blk.c12 (HN6.out.fresh k7)⟩)) (first | (go_at_call 31; refine (Find_calls ⟨x0i, x0k, x0n⟩ ⟨x1i, x1k, x1n⟩ ⟨x2i, x2k, x2n⟩ ⟨x3i, x3k, x3n⟩ qn _).mono ?_; rintro e w8 ⟨rfl, k7⟩; rw [HFI.out]))
                go_wp2
                go_round
                case rel => exact ⟨2, by omega, rfl, hfx.out.drew.trans k7 (fun _ _ f => f)⟩
                case measure => simp [intOf]
              case false =>
                go_wp2
                go_quiet (fail)
                go_wp2
                go_round
                case rel => exact ⟨2, by omega, rfl, hfx.out.drewN _⟩
                case measure => simp [intOf]
          · by_cases hmj : m = 2
            · have e1 : ((2 : Int) == (m : Int)) = true := by rw [hmj]; rfl
              have HMJ := Lib.hid hmj; clear hmj
              cases hz : decide (0 < ri)
              case true =>
                have hzz := of_decide_eq_true hz
                have hf : findI rn ⟨x0i, x0k, x0n⟩ ⟨x1i, x1k, x1n⟩ ⟨x2i, x2k, x2n⟩ ⟨x3i, x3k, x3n⟩ = -1 := by
                  have h := HF2.out (by show ri ≠ 0; omega)
                  rwa [if_pos HMJ.out] at h
                have HFI := Lib.hid hf; clear hf hzz
                go_wp2
                have HP6 := Lib.hid HP5.out.drew
                have HN6 := Lib.hid HN5.out.drew
                go_region_held3 (fun w' => (w'.cell? ⟨w.heap.size, 0, none⟩ = some (.int .i64 pi) ∧ w'.cell? ⟨w.heap.size, 1, none⟩ = some (.int .i64 pk) ∧ w'.cell? ⟨w.heap.size, 2, none⟩ = some (.string pn) ∧ w'.cell? ⟨w.heap.size, 3, none⟩ = some (.int .i64 qi) ∧ w'.cell? ⟨w.heap.size, 4, none⟩ = some (.int .i64 qk) ∧ w'.cell? ⟨w.heap.size, 5, none⟩ = some (.string qn) ∧ w'.cell? ⟨w.heap.size, 6, none⟩ = some (.int .i64 ri) ∧ w'.cell? ⟨w.heap.size, 7, none⟩ = some (.int .i64 rk) ∧ w'.cell? ⟨w.heap.size, 8, none⟩ = some (.string rn) ∧ w'.cell? ⟨w.heap.size, 9, none⟩ = some (.int .i64 ti) ∧ w'.cell? ⟨w.heap.size, 10, none⟩ = some (.int .i64 tk) ∧ w'.cell? ⟨w.heap.size, 11, none⟩ = some (.string tn)) ∧ (w'.cell? ⟨wo.heap.size, 0, none⟩ = some (.int .i64 x0i) ∧ w'.cell? ⟨wo.heap.size, 1, none⟩ = some (.int .i64 x0k) ∧ w'.cell? ⟨wo.heap.size, 2, none⟩ = some (.string x0n) ∧ w'.cell? ⟨wo.heap.size, 3, none⟩ = some (.int .i64 x1i) ∧ w'.cell? ⟨wo.heap.size, 4, none⟩ = some (.int .i64 x1k) ∧ w'.cell? ⟨wo.heap.size, 5, none⟩ = some (.string x1n) ∧ w'.cell? ⟨wo.heap.size, 6, none⟩ = some (.int .i64 x2i) ∧ w'.cell? ⟨wo.heap.size, 7, none⟩ = some (.int .i64 x2k) ∧ w'.cell? ⟨wo.heap.size, 8, none⟩ = some (.string x2n) ∧ w'.cell? ⟨wo.heap.size, 9, none⟩ = some (.int .i64 x3i) ∧ w'.cell? ⟨wo.heap.size, 10, none⟩ = some (.int .i64 x3k) ∧ w'.cell? ⟨wo.heap.size, 11, none⟩ = some (.string x3n))) (first | (exact ⟨Blk.c12 HP6.out, Blk.c12 HN6.out⟩) | (exact ⟨Blk.c12 (HP6.out.fresh k7), Blk.c12 (HN6.out.fresh k7)⟩)) (first | (go_at_call 31; refine (Find_calls ⟨x0i, x0k, x0n⟩ ⟨x1i, x1k, x1n⟩ ⟨x2i, x2k, x2n⟩ ⟨x3i, x3k, x3n⟩ rn _).mono ?_; rintro e w8 ⟨rfl, k7⟩; rw [HFI.out]))
                go_wp2
                go_round
                case rel => exact ⟨3, by omega, rfl, hfx.out.drew.trans k7 (fun _ _ f => f)⟩
                case measure => simp [intOf]
              case false =>
                go_wp2
                go_quiet (fail)
                go_wp2
                go_round
                case rel => exact ⟨3, by omega, rfl, hfx.out.drewN _⟩
                case measure => simp [intOf]
            · have e1 : ((2 : Int) == (m : Int)) = false := by rw [beq_eq_false_iff_ne]; omega
              have HMJ := Lib.hid hmj; clear hmj
              cases hz : decide (0 < ri)
              case true =>
                have hzz := of_decide_eq_true hz
                have hf : findI rn ⟨x0i, x0k, x0n⟩ ⟨x1i, x1k, x1n⟩ ⟨x2i, x2k, x2n⟩ ⟨x3i, x3k, x3n⟩ = 2 := by
                  have h := HF2.out (by show ri ≠ 0; omega)
                  rwa [if_neg HMJ.out] at h
                have HFI := Lib.hid hf; clear hf hzz
                go_wp2
                have HP6 := Lib.hid HP5.out.drew
                have HN6 := Lib.hid HN5.out.drew
                go_region_held3 (fun w' => (w'.cell? ⟨w.heap.size, 0, none⟩ = some (.int .i64 pi) ∧ w'.cell? ⟨w.heap.size, 1, none⟩ = some (.int .i64 pk) ∧ w'.cell? ⟨w.heap.size, 2, none⟩ = some (.string pn) ∧ w'.cell? ⟨w.heap.size, 3, none⟩ = some (.int .i64 qi) ∧ w'.cell? ⟨w.heap.size, 4, none⟩ = some (.int .i64 qk) ∧ w'.cell? ⟨w.heap.size, 5, none⟩ = some (.string qn) ∧ w'.cell? ⟨w.heap.size, 6, none⟩ = some (.int .i64 ri) ∧ w'.cell? ⟨w.heap.size, 7, none⟩ = some (.int .i64 rk) ∧ w'.cell? ⟨w.heap.size, 8, none⟩ = some (.string rn) ∧ w'.cell? ⟨w.heap.size, 9, none⟩ = some (.int .i64 ti) ∧ w'.cell? ⟨w.heap.size, 10, none⟩ = some (.int .i64 tk) ∧ w'.cell? ⟨w.heap.size, 11, none⟩ = some (.string tn)) ∧ (w'.cell? ⟨wo.heap.size, 0, none⟩ = some (.int .i64 x0i) ∧ w'.cell? ⟨wo.heap.size, 1, none⟩ = some (.int .i64 x0k) ∧ w'.cell? ⟨wo.heap.size, 2, none⟩ = some (.string x0n) ∧ w'.cell? ⟨wo.heap.size, 3, none⟩ = some (.int .i64 x1i) ∧ w'.cell? ⟨wo.heap.size, 4, none⟩ = some (.int .i64 x1k) ∧ w'.cell? ⟨wo.heap.size, 5, none⟩ = some (.string x1n) ∧ w'.cell? ⟨wo.heap.size, 6, none⟩ = some (.int .i64 x2i) ∧ w'.cell? ⟨wo.heap.size, 7, none⟩ = some (.int .i64 x2k) ∧ w'.cell? ⟨wo.heap.size, 8, none⟩ = some (.string x2n) ∧ w'.cell? ⟨wo.heap.size, 9, none⟩ = some (.int .i64 x3i) ∧ w'.cell? ⟨wo.heap.size, 10, none⟩ = some (.int .i64 x3k) ∧ w'.cell? ⟨wo.heap.size, 11, none⟩ = some (.string x3n))) (first | (exact ⟨Blk.c12 HP6.out, Blk.c12 HN6.out⟩) | (exact ⟨Blk.c12 (HP6.out.fresh k7), Blk.c12 (HN6.out.fresh k7)⟩)) (first | (go_at_call 31; refine (Find_calls ⟨x0i, x0k, x0n⟩ ⟨x1i, x1k, x1n⟩ ⟨x2i, x2k, x2n⟩ ⟨x3i, x3k, x3n⟩ rn _).mono ?_; rintro e w8 ⟨rfl, k7⟩; rw [HFI.out]))
                go_wp2
                go_round
                case rel => exact ⟨3, by omega, rfl, hfx.out.drew.trans k7 (fun _ _ f => f)⟩
                case measure => simp [intOf]
              case false =>
                go_wp2
                go_quiet (fail)
                go_wp2
                go_round
                case rel => exact ⟨3, by omega, rfl, hfx.out.drewN _⟩
                case measure => simp [intOf]
          · by_cases hmj : m = 3
            · have e1 : ((3 : Int) == (m : Int)) = true := by rw [hmj]; rfl
              have HMJ := Lib.hid hmj; clear hmj
              cases hz : decide (0 < ti)
              case true =>
                have hzz := of_decide_eq_true hz
                have hf : findI tn ⟨x0i, x0k, x0n⟩ ⟨x1i, x1k, x1n⟩ ⟨x2i, x2k, x2n⟩ ⟨x3i, x3k, x3n⟩ = -1 := by
                  have h := HF3.out (by show ti ≠ 0; omega)
                  rwa [if_pos HMJ.out] at h
                have HFI := Lib.hid hf; clear hf hzz
                go_wp2
                have HP6 := Lib.hid HP5.out.drew
                have HN6 := Lib.hid HN5.out.drew
                go_region_held3 (fun w' => (w'.cell? ⟨w.heap.size, 0, none⟩ = some (.int .i64 pi) ∧ w'.cell? ⟨w.heap.size, 1, none⟩ = some (.int .i64 pk) ∧ w'.cell? ⟨w.heap.size, 2, none⟩ = some (.string pn) ∧ w'.cell? ⟨w.heap.size, 3, none⟩ = some (.int .i64 qi) ∧ w'.cell? ⟨w.heap.size, 4, none⟩ = some (.int .i64 qk) ∧ w'.cell? ⟨w.heap.size, 5, none⟩ = some (.string qn) ∧ w'.cell? ⟨w.heap.size, 6, none⟩ = some (.int .i64 ri) ∧ w'.cell? ⟨w.heap.size, 7, none⟩ = some (.int .i64 rk) ∧ w'.cell? ⟨w.heap.size, 8, none⟩ = some (.string rn) ∧ w'.cell? ⟨w.heap.size, 9, none⟩ = some (.int .i64 ti) ∧ w'.cell? ⟨w.heap.size, 10, none⟩ = some (.int .i64 tk) ∧ w'.cell? ⟨w.heap.size, 11, none⟩ = some (.string tn)) ∧ (w'.cell? ⟨wo.heap.size, 0, none⟩ = some (.int .i64 x0i) ∧ w'.cell? ⟨wo.heap.size, 1, none⟩ = some (.int .i64 x0k) ∧ w'.cell? ⟨wo.heap.size, 2, none⟩ = some (.string x0n) ∧ w'.cell? ⟨wo.heap.size, 3, none⟩ = some (.int .i64 x1i) ∧ w'.cell? ⟨wo.heap.size, 4, none⟩ = some (.int .i64 x1k) ∧ w'.cell? ⟨wo.heap.size, 5, none⟩ = some (.string x1n) ∧ w'.cell? ⟨wo.heap.size, 6, none⟩ = some (.int .i64 x2i) ∧ w'.cell? ⟨wo.heap.size, 7, none⟩ = some (.int .i64 x2k) ∧ w'.cell? ⟨wo.heap.size, 8, none⟩ = some (.string x2n) ∧ w'.cell? ⟨wo.heap.size, 9, none⟩ = some (.int .i64 x3i) ∧ w'.cell? ⟨wo.heap.size, 10, none⟩ = some (.int .i64 x3k) ∧ w'.cell? ⟨wo.heap.size, 11, none⟩ = some (.string x3n))) (first | (exact ⟨Blk.c12 HP6.out, Blk.c12 HN6.out⟩) | (exact ⟨Blk.c12 (HP6.out.fresh k7), Blk.c12 (HN6.out.fresh k7)⟩)) (first | (go_at_call 31; refine (Find_calls ⟨x0i, x0k, x0n⟩ ⟨x1i, x1k, x1n⟩ ⟨x2i, x2k, x2n⟩ ⟨x3i, x3k, x3n⟩ tn _).mono ?_; rintro e w8 ⟨rfl, k7⟩; rw [HFI.out]))
                go_wp2
                go_round
                case rel => exact ⟨4, by omega, rfl, hfx.out.drew.trans k7 (fun _ _ f => f)⟩
                case measure => simp [intOf]
              case false =>
                go_wp2
                go_quiet (fail)
                go_wp2
                go_round
                case rel => exact ⟨4, by omega, rfl, hfx.out.drewN _⟩
                case measure => simp [intOf]
            · have e1 : ((3 : Int) == (m : Int)) = false := by rw [beq_eq_false_iff_ne]; omega
              have HMJ := Lib.hid hmj; clear hmj
              cases hz : decide (0 < ti)
              case true =>
                have hzz := of_decide_eq_true hz
                have hf : findI tn ⟨x0i, x0k, x0n⟩ ⟨x1i, x1k, x1n⟩ ⟨x2i, x2k, x2n⟩ ⟨x3i, x3k, x3n⟩ = 3 := by
                  have h := HF3.out (by show ti ≠ 0; omega)
                  rwa [if_neg HMJ.out] at h
                have HFI := Lib.hid hf; clear hf hzz
                go_wp2
                have HP6 := Lib.hid HP5.out.drew
                have HN6 := Lib.hid HN5.out.drew
                go_region_held3 (fun w' => (w'.cell? ⟨w.heap.size, 0, none⟩ = some (.int .i64 pi) ∧ w'.cell? ⟨w.heap.size, 1, none⟩ = some (.int .i64 pk) ∧ w'.cell? ⟨w.heap.size, 2, none⟩ = some (.string pn) ∧ w'.cell? ⟨w.heap.size, 3, none⟩ = some (.int .i64 qi) ∧ w'.cell? ⟨w.heap.size, 4, none⟩ = some (.int .i64 qk) ∧ w'.cell? ⟨w.heap.size, 5, none⟩ = some (.string qn) ∧ w'.cell? ⟨w.heap.size, 6, none⟩ = some (.int .i64 ri) ∧ w'.cell? ⟨w.heap.size, 7, none⟩ = some (.int .i64 rk) ∧ w'.cell? ⟨w.heap.size, 8, none⟩ = some (.string rn) ∧ w'.cell? ⟨w.heap.size, 9, none⟩ = some (.int .i64 ti) ∧ w'.cell? ⟨w.heap.size, 10, none⟩ = some (.int .i64 tk) ∧ w'.cell? ⟨w.heap.size, 11, none⟩ = some (.string tn)) ∧ (w'.cell? ⟨wo.heap.size, 0, none⟩ = some (.int .i64 x0i) ∧ w'.cell? ⟨wo.heap.size, 1, none⟩ = some (.int .i64 x0k) ∧ w'.cell? ⟨wo.heap.size, 2, none⟩ = some (.string x0n) ∧ w'.cell? ⟨wo.heap.size, 3, none⟩ = some (.int .i64 x1i) ∧ w'.cell? ⟨wo.heap.size, 4, none⟩ = some (.int .i64 x1k) ∧ w'.cell? ⟨wo.heap.size, 5, none⟩ = some (.string x1n) ∧ w'.cell? ⟨wo.heap.size, 6, none⟩ = some (.int .i64 x2i) ∧ w'.cell? ⟨wo.heap.size, 7, none⟩ = some (.int .i64 x2k) ∧ w'.cell? ⟨wo.heap.size, 8, none⟩ = some (.string x2n) ∧ w'.cell? ⟨wo.heap.size, 9, none⟩ = some (.int .i64 x3i) ∧ w'.cell? ⟨wo.heap.size, 10, none⟩ = some (.int .i64 x3k) ∧ w'.cell? ⟨wo.heap.size, 11, none⟩ = some (.string x3n))) (first | (exact ⟨Blk.c12 HP6.out, Blk.c12 HN6.out⟩) | (exact ⟨Blk.c12 (HP6.out.fresh k7), Blk.c12 (HN6.out.fresh k7)⟩)) (first | (go_at_call 31; refine (Find_calls ⟨x0i, x0k, x0n⟩ ⟨x1i, x1k, x1n⟩ ⟨x2i, x2k, x2n⟩ ⟨x3i, x3k, x3n⟩ tn _).mono ?_; rintro e w8 ⟨rfl, k7⟩; rw [HFI.out]))
                go_wp2
                go_round
                case rel => exact ⟨4, by omega, rfl, hfx.out.drew.trans k7 (fun _ _ f => f)⟩
                case measure => simp [intOf]
              case false =>
                go_wp2
                go_quiet (fail)
                go_wp2
                go_round
                case rel => exact ⟨4, by omega, rfl, hfx.out.drewN _⟩
                case measure => simp [intOf]
          · go_wp2_with (first
              | (go_at_call 31; refine (Find_calls ⟨x0i, x0k, x0n⟩ ⟨x1i, x1k, x1n⟩ ⟨x2i, x2k, x2n⟩ ⟨x3i, x3k, x3n⟩ _ _).mono ?_; rintro e w8 ⟨rfl, k8⟩; rw [HZZ.out])
              | (go_at_call 22; refine (awake9_calls _).mono ?_; rintro e wz ⟨rfl, kz⟩))
            go_ret
            exact ⟨rfl, ((HFR.out.trans hfx.out (fun _ _ f => f)).trans k8 (fun _ _ f => f)).trans kz (fun _ _ f => f)⟩
end Go.Proofs.Ytcjackjoonijnaa
