/-
  Records: a name's bytes, a record laid; walked in both texts.
-/
import Derived.Test.YtcjackjoonijnaaRec1
import Derived.Test.YtcjackjoonijnaaDir5
import Derived.Test.YtcjackjoonijnaaAwake9
namespace Go.Proofs.Ytcjackjoonijnaa
open Go.RowKit

def namedL (s : ByteArray) : List Int := (s.size : Int) :: (sb s ++ List.replicate (24 - s.size) 0)
theorem namedL_len (s : ByteArray) (h : s.size ≤ 24) : (namedL s).length = 25 := by simp [namedL, sb_len]; omega

set_option maxRecDepth 100000 in
set_option maxHeartbeats 1000000 in
theorem named_calls (s : ByteArray) (w : World) (hs : s.size ≤ 24) : Calls Try.prog 36 #[.string s] w fun e w' => ∃ v, e = .returned v ∧ NewB w w' 5 .u8 v 25 (namedL s) := by
  have h1 : NewB w (w.alloc (.cells #[.int .u8 (s.size : Int)] 5)) 5 .u8 (.slice (some ⟨w.heap.size, 0, none⟩) 1 1) 1 [(s.size : Int)] := by
    have := World.ownsRow_lit (size := 1) (base := 0) (e := 5) w #[.int .u8 (s.size : Int)] 1 (Nat.zero_le _) (by simp [maxLen]) rfl
    exact ⟨this, (Keep.refl _ w).alloc _, fun k hk => by simp [Value.ownBlock] at hk; omega⟩
  have hfin : namedL s = [(s.size : Int)] ++ sb s ++ List.replicate (24 - s.size) 0 := rfl
  obtain ⟨l, hl⟩ : ∃ l, [(s.size : Int)] = l := ⟨_, rfl⟩
  rw [hl] at h1 hfin
  obtain ⟨m, hm⟩ : ∃ m, m = 1 + s.size + (24 - s.size) := ⟨_, rfl⟩
  have hm' : m = 25 := by omega
  have HM := Lib.hid hm; clear hm
  have HM2 := Lib.hid hm'; clear hm'
  have HF := Lib.hid hfin; clear hfin
  clear hl
  go_enter Try.func36, Try.ntmps36
  go_wp2_with (first | (at_builtin; refine app_str rfl (.tmp 7) (.tmp 8) rfl h1.1 rfl rfl (by omega) ?_; intro A2 c2 w2 hL2; have h2 := hL2.newB h1) | (at_builtin; refine app_zeros rfl (.tmp 10) (.tmp 13) rfl h2.1 rfl rfl (24 - s.size) (by omega) (by omega) ?_; intro A3 c3 w3 hL3; have h3 := hL3.newB h2; rw [← HM.out] at h3; rw [← HM.out]))
  go_ret
  rw [HM2.out] at h3 ⊢
  exact ⟨_, rfl, HF.out ▸ h3⟩

set_option maxRecDepth 100000 in
set_option maxHeartbeats 1000000 in
theorem rnamed_calls (s : ByteArray) {w0 w : World} (hs : s.size ≤ 24) {A : Option Addr} {n c : Nat} {l : List Int} (h0 : NewB w0 w 5 .u8 (.slice A n c) n l) (hn : n ≤ 1000) :
    Calls Try.prog 38 #[.slice A n c, .string s] w fun e w' => ∃ A' c', e = .returned (.slice A' (n + 25) c') ∧ NewB w0 w' 5 .u8 (.slice A' (n + 25) c') (n + 25) (l ++ namedL s) := by
  have hr1 : Rd (w.alloc (.cells #[.int .u8 (s.size : Int)] 5)) 1 (some ⟨w.heap.size, 0, none⟩) 1 (iv .u8 [(s.size : Int)]) := Rd.one' w .u8 (s.size : Int) 5 w.heap.size rfl
  have ho1 := own_keep h0.1 ((Keep.refl (fun _ => False) w).alloc (.cells #[.int .u8 (s.size : Int)] 5)) (fun _ _ f => f)
  have hfin : l ++ namedL s = l ++ [(s.size : Int)] ++ sb s ++ List.replicate (24 - s.size) 0 := by simp [namedL]
  obtain ⟨q, hq⟩ : ∃ q, [(s.size : Int)] = q := ⟨_, rfl⟩
  rw [hq] at hr1 hfin
  obtain ⟨m, hm⟩ : ∃ m, m = n + 1 + s.size + (24 - s.size) := ⟨_, rfl⟩
  have hm' : m = n + 25 := by omega
  have HM := Lib.hid hm; clear hm
  have HM2 := Lib.hid hm'; clear hm'
  have HF := Lib.hid hfin; clear hfin
  have H0 := Lib.hid h0; clear h0
  clear hq
  go_enter Try.func38, Try.ntmps38
  go_wp2_with (first
    | (at_builtin; refine app_u8 (l := l) rfl (.tmp 5) (.tmp 9) rfl ho1 rfl hr1 rfl (by omega) ?_; intro v1 w1 hw1 hg1 hb1; obtain ⟨A1, c1, rfl⟩ := hw1.shape; have h1 := newB_app (H0.out.2.1.alloc _) H0.out.2.2 hw1 hg1 (by rcases hb1 with e | e; exact .inl e; exact .inr e))
    | (at_builtin; refine app_str rfl (.tmp 10) (.tmp 11) rfl h1.1 rfl rfl (by omega) ?_; intro A2 c2 w2 hL2; have h2 := hL2.newB h1)
    | (at_builtin; refine app_zeros rfl (.tmp 12) (.tmp 15) rfl h2.1 rfl rfl (24 - s.size) (by omega) (by omega) ?_; intro A3 c3 w3 hL3; have h3 := hL3.newB h2; rw [← HM.out] at h3; rw [← HM.out]))
  go_ret
  rw [HM2.out] at h3 ⊢
  exact ⟨_, _, rfl, HF.out ▸ h3⟩
end Go.Proofs.Ytcjackjoonijnaa
