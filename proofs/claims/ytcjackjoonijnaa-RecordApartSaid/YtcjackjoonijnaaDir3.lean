/-
  Slots: laid; walked in both texts.
-/
import Derived.Test.YtcjackjoonijnaaDir2
import Derived.Test.YtcjackjoonijnaaSeal4
namespace Go.Proofs.Ytcjackjoonijnaa
open Go.RowKit

def headL (x : Slt) : List Int := [x.ino / 256 % 256, x.ino % 256, x.kind % 256, (x.name.size : Int)]
def laidL (x : Slt) : List Int := headL x ++ sb x.name ++ List.replicate (24 - x.name.size) 0

set_option maxRecDepth 100000 in
set_option maxHeartbeats 1000000 in
theorem laid_calls (x : Slt) (w : World) (hs : x.name.size ≤ 24) : Calls Try.prog 44 #[x.val] w fun e w' => ∃ v, e = .returned v ∧ NewB w w' 5 .u8 v 28 (laidL x) := by
  obtain ⟨pi, pk, pn⟩ := x
  unfold Slt.val
  dsimp only at hs ⊢
  have h1 : NewB w ((w.alloc (.cells #[.int .i64 pi, .int .i64 pk, .string pn] 39)).alloc (.cells #[.int .u8 (pi / 256 % 256), .int .u8 (pi % 256), .int .u8 (pk % 256), .int .u8 (pn.size : Int)] 5)) 5 .u8 (.slice (some ⟨w.heap.size + 1, 0, none⟩) 4 4) 4 (headL ⟨pi, pk, pn⟩) := by
    have := World.ownsRow_lit (size := 1) (base := 0) (e := 5) (w.alloc (.cells #[.int .i64 pi, .int .i64 pk, .string pn] 39)) #[.int .u8 (pi / 256 % 256), .int .u8 (pi % 256), .int .u8 (pk % 256), .int .u8 (pn.size : Int)] 4 (Nat.zero_le _) (by simp [maxLen]) rfl
    simp only [World.alloc, Array.size_push] at this
    exact ⟨this, ((Keep.refl _ w).alloc _).alloc _, fun k hk => by simp [Value.ownBlock] at hk; omega⟩
  have hfin : laidL ⟨pi, pk, pn⟩ = headL ⟨pi, pk, pn⟩ ++ sb pn ++ List.replicate (24 - pn.size) 0 := rfl
  obtain ⟨l, hl⟩ : ∃ l, headL ⟨pi, pk, pn⟩ = l := ⟨_, rfl⟩
  rw [hl] at h1 hfin
  obtain ⟨m, hm⟩ : ∃ m, m = 4 + pn.size + (24 - pn.size) := ⟨_, rfl⟩
  have hm' : m = 28 := by omega
  have HM := Lib.hid hm; clear hm
  have HM2 := Lib.hid hm'; clear hm'
  have HF := Lib.hid hfin; clear hfin
  clear hl
  go_enter Try.func44, Try.ntmps44
  go_wp2_with (first | (at_builtin; refine app_str rfl (.tmp 18) (.tmp 20) rfl h1.1 rfl rfl (by omega) ?_; intro A2 c2 w2 hL2; have h2 := hL2.newB h1) | (at_builtin; refine app_zeros rfl (.tmp 22) (.tmp 25) rfl h2.1 rfl rfl (24 - pn.size) (by omega) (by omega) ?_; intro A3 c3 w3 hL3; have h3 := hL3.newB h2; rw [← HM.out] at h3; rw [← HM.out]))
  go_ret
  rw [HM2.out] at h3 ⊢
  exact ⟨_, rfl, HF.out ▸ h3⟩
end Go.Proofs.Ytcjackjoonijnaa
