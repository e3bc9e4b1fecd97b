/-
  DiskPrefix: the walk.
-/
import Derived.Test.YtfmfedfalljokaaPrefix1
namespace Go.Proofs.Ytfmfedfalljokaa
open Go.RowKit

theorem app_bool {ops : Array Oper} {rest : List Oper} {o : Oper} {a : Act} {Q : Exit → Act → World → Prop} {w : World} (hgd : o.guard = none) (s x : Operand)
    (ho : o.op = .call { callee := .builtin .append, args := #[s, x], argTypes := #[29, 29] })
    {v : Value} {n : Nat} {xs : List Value} (hown : Own w 4 1 v n xs) (hs : a.eval s = v)
    {A : Option Addr} {m c : Nat} {news : List Value} (hr : Rd w 1 A m news) (hx : a.eval x = .slice A m c) (h1 : ∀ u ∈ news, u.oneCell' = true) (hb : n + m ≤ 4000000000000)
    (h : ∀ v' w', Own w' 4 1 v' (n + m) (xs ++ news) → w.grownBy w' v.ownBlock → (v'.ownBlock = v.ownBlock ∨ v'.ownBlock = some w.heap.size) → wpList Try.prog ops Q rest (a.put o.dst v') w') : wpList Try.prog ops Q (o :: rest) a w :=
  wpList_app w hgd s x 29 ho 4 _ 1 1 Try.underlying29 info_bool rfl (by decide) hown hs hr hx h1 (by omega) (by omega) h

set_option maxHeartbeats 4000000 in
set_option maxRecDepth 100000 in
theorem DiskPrefix_calls (w : World) {A : Option Addr} {n c : Nat} {ns : List Int} (hr : Rd w 1 A n (iv .i64 ns)) (many : Int) :
    Calls Try.prog 3 #[.slice A n c, .int .i64 many] w fun e w' => e = .returned (.bool true) ∧ Fresh w w' := by
  have hnl := hr.len
  have hle := hr.le
  by_cases hbig : n ≤ 20
  · obtain ⟨m, hm⟩ : ∃ m : Nat, lowI many ((n : Int) + 1) = m := ⟨(lowI many ((n : Int) + 1)).toNat, by have := lowI_nn many ((n : Int) + 1) (by omega); omega⟩
    have hml : m ≤ n := by have := lowI_lt many ((n : Int) + 1) (by omega); omega
    have hmk := make_u8
    have hmt := make_tab5
    have hN5 : ∀ w, Calls Try.prog 14 #[.int .i64 5] w fun e w' => ∃ g, e = .returned (ptr g) ∧ w.heap.size ≤ g ∧ DiskAt (fun b => w.heap.size ≤ b ∧ b < w'.heap.size) w' g (DiskS.behind 5 ns 0) ∧ Fresh w w' := fun w => New_calls 5 w (by omega) (by omega)
    go_enter Try.func3, Try.ntmps3
    go_wp2_with (first | (go_at_call 13; refine (Low_calls many ((n : Int) + 1) _ (by omega) (by omega)).mono ?_; rintro e w' ⟨rfl, rfl⟩; rw [hm]) | (go_at_call 14; refine (hN5 w).mono ?_; rintro e w1 ⟨g, rfl, -, hA1, k1⟩; have hS1 := Ses.start hA1 k1; clear hA1 k1))
    have hD0 : Duo w (w1.alloc (.cells (madeCells #[.slice none 0 0] 5) 28)) (fun b => w.heap.size ≤ b ∧ b < w1.heap.size) (fun b => b = w1.heap.size) g (DiskS.behind 5 ns 0) w1.heap.size 5 (List.replicate 0 (zeros 128) ++ List.replicate (5 - 0) []) :=
      ⟨hS1.fresh ((Keep.refl _ _).alloc _), Tab.made w1 5 (by simp [maxLen]), fun b hb e => by have := hb.2; omega, fun b e => by have := hS1.kept.size; omega⟩
    obtain ⟨W1, hW1⟩ : ∃ W1, w1.alloc (.cells (madeCells #[.slice none 0 0] 5) 28) = W1 := ⟨_, rfl⟩
    obtain ⟨B, hB⟩ : ∃ B, w1.heap.size = B := ⟨_, rfl⟩
    obtain ⟨F0, hF0⟩ : ∃ F0, F0 = fun b => w.heap.size ≤ b ∧ b < w1.heap.size := ⟨_, rfl⟩
    rw [← hF0] at hD0
    rw [hW1, hB] at hD0 ⊢
    clear hW1 hB hF0 hS1
    go_loopw [7] (fun i wr => ∃ (k : Nat) (G : Nat → Prop), k ≤ 5 ∧ i = .int .i64 k ∧ Duo w wr F0 G g (DiskS.behind 5 ns 0) B 5 (List.replicate k (zeros 128) ++ List.replicate (5 - k) [])) (fun i _ => 5 - (intOf i).toNat)
    case atStart => exact ⟨0, _, Nat.zero_le _, rfl, hD0⟩
    case round =>
      clear hD0
      obtain ⟨k, G, hk, rfl, hD⟩ := hrel
      by_cases hlt : k < 5
      · obtain ⟨A1, m1, c1, hc1, hf1, -⟩ := (hD.fresh ((Keep.refl _ wr).alloc (.cells (madeCells #[.int .u8 0] 128) 5))).tab.at_ hlt
        have hi0 : (0 : Int) ≤ (k : Int) := Int.natCast_nonneg _
        have hi1 : (k : Int) < 5 := by omega
        go_wp2
        go_roundw
        case rel =>
          have q := (hD.put (newB_zeros wr) k).1
          rw [lay_zeros 5 k _ _ hlt] at q
          exact ⟨k + 1, _, by omega, by go_num, q⟩
        case measure => simp [intOf]; omega
      · obtain rfl : k = 5 := by omega
        go_wp2
        have hD1 : Duo w wr F0 G g (DiskS.behind 5 ns 0) B 5 (DiskS.wantT 5 m ns 0) := by
          rw [show DiskS.wantT 5 m ns 0 = List.replicate 5 (zeros 128) ++ List.replicate (5 - 5) [] from by simp [DiskS.wantT, DiskS.rowW, DiskS.layAll]]
          exact hD
        clear hD
        go_loopw [8, 9] (fun kv i wr => ∃ (k : Nat) (F G : Nat → Prop), k ≤ n ∧ i = .int .i64 k ∧ Duo w wr F G g (DiskS.behind 5 ns k) B 5 (DiskS.wantT 5 m ns k) ∧ Own wr 4 1 kv k (bv (DiskS.keepL m k)) ∧ Beside w F G kv) (fun _ i _ => n - (intOf i).toNat)
        case atStart => exact ⟨0, F0, G, Nat.zero_le _, rfl, hD1, Own.nil _ _ _, Beside.none⟩
        case round =>
          clear hD1
          obtain ⟨k, F, G, hk, rfl, hD, ho, hbes⟩ := hrel
          by_cases hlt : k < n
          · obtain ⟨ad, rfl, hcell⟩ := (hr.fresh hD.ses.kept).int hlt
            have hbw := DiskS.behind_write 5 (by omega) ns k
            have hwy := DiskS.wantT_yes 5 m ns k
            obtain ⟨x, hx⟩ : ∃ x, ns.getD k 0 = x := ⟨_, rfl⟩
            rw [hx] at hcell hbw hwy
            clear hx
            obtain ⟨s, hs⟩ : ∃ s : Nat, lowI x 5 = s := ⟨(lowI x 5).toNat, by have := lowI_nn x 5 (by omega); omega⟩
            have hs5 : s < 5 := by have := lowI_lt x 5 (by omega); omega
            rw [show (((5 : Nat) : Int)) = 5 from rfl, hs] at hbw hwy
            rw [Int.toNat_natCast] at hwy
            have hb1 := Lib.hid (congrArg Prod.fst hbw)
            have hb2 := Lib.hid (congrArg Prod.snd hbw)
            clear hbw
            dsimp only at hb1 hb2
            have hFi : ∀ w, Calls Try.prog 16 #[.int .i64 k, .int .i64 128] w fun e w' => ∃ v, e = .returned v ∧ NewB w w' 5 .u8 v 128 (fillL k 128) := fun w => Fill_calls k 128 w (by omega) (by omega)
            have hwl : (DiskS.behind 5 ns k).waits.length ≤ 1000000 := by simp [DiskS.behind, DiskS.rowW_len]; omega
            have hwl2 : (DiskS.behind 5 ns k).writes.length ≤ 1000000 := by simp [DiskS.behind, DiskS.rowW_len]; omega
            have hi0 : (0 : Int) ≤ (k : Int) := Int.natCast_nonneg _
            have hi1 : (k : Int) < (n : Int) := by omega
            have hs0 : (0 : Int) ≤ (s : Int) := Int.natCast_nonneg _
            have hs1 : (s : Int) < 5 := by omega
            have hlow := Lib.hid hs; clear hs
            by_cases hkm : k < m
            · have hkm' : (k : Int) < (m : Int) := by omega
              go_wp2_with (first | (go_at_call 13; refine (Low_calls x 5 _ (by omega) (by omega)).mono ?_; rintro e w' ⟨rfl, rfl⟩; rw [hlow.out]) | (go_at_call 16; have := hD4; refine (hFi _).mono ?_; rintro e w5 ⟨v5, rfl, hn5⟩; obtain ⟨A5, c5, rfl, -⟩ := newB_rd hn5; obtain ⟨A6, m6, c6, hc6, hf6, -⟩ := (hD4.fresh hn5.2.1).tab.at_ hs5) | (go_at_call 16; refine (hFi _).mono ?_; rintro e w2 ⟨v2, rfl, hn2⟩; obtain ⟨A2, c2, rfl, r2, far2, -⟩ := newB_rd_far hn2 hD.ses.at_.low; have hD2 := hD.fresh hn2.2.1; have ho2 := own_keep ho hn2.2.1 (fun _ _ f => f)) | (go_at_call 15; refine (Write_calls hD2.ses.at_ (DiskS.behind_ok 5 (by omega) ns k) s r2 far2 hwl hwl2).mono ?_; rintro e w3 ⟨rfl, hA3, k3⟩; rw [hb2.out] at hA3; rw [hb1.out]; have hD3 := hD2.op hA3 k3; have ho3 := own_keep ho2 k3 (fun b e => (hbes b e).1); have hbes3 := hbes.growF (w := w2) (w' := w3) (fun b e => own_lt ho2 e)) | (at_builtin; refine app_bool (xs := bv (DiskS.keepL m k)) rfl _ _ rfl (ho3.alloc _) rfl (Rd.lit' _ [.bool _] _ 1 1 w3.heap.size rfl rfl (by omega)) rfl (by simp [Value.oneCell']) (by omega) ?_; intro v4 w4 ho4 hg4 hb4; obtain ⟨A4, c4, rfl⟩ := ho4.shape; obtain ⟨hD4, hbes4⟩ := hD3.row hbes3 hg4 hb4))
              refine ⟨?_, ?measure⟩
              (repeat apply Exists.intro)
              (repeat apply Exists.intro)
              (repeat apply Exists.intro)
              (repeat apply Exists.intro)
              refine ⟨?rel, rfl⟩
              case rel =>
                obtain ⟨q1, q2⟩ := hD4.put hn5 s
                rw [hwy hkm] at q1
                refine ⟨k + 1, _, _, by omega, by go_num, q1, ?_, hbes4.growG (fun b e => own_lt ho4 e)⟩
                have ho5 := own_keep ho4 q2 (fun b e => (hbes4 b e).2.1)
                rw [← DiskS.keepL_succ]
                simpa [bv, hkm] using ho5
              case measure => simp [intOf]; omega
            · have hkm' : ¬ (k : Int) < (m : Int) := by omega
              go_wp2_with (first | (go_at_call 13; refine (Low_calls x 5 _ (by omega) (by omega)).mono ?_; rintro e w' ⟨rfl, rfl⟩; rw [hlow.out]) | (go_at_call 16; refine (hFi _).mono ?_; rintro e w2 ⟨v2, rfl, hn2⟩; obtain ⟨A2, c2, rfl, r2, far2, -⟩ := newB_rd_far hn2 hD.ses.at_.low; have hD2 := hD.fresh hn2.2.1; have ho2 := own_keep ho hn2.2.1 (fun _ _ f => f)) | (go_at_call 15; refine (Write_calls hD2.ses.at_ (DiskS.behind_ok 5 (by omega) ns k) s r2 far2 hwl hwl2).mono ?_; rintro e w3 ⟨rfl, hA3, k3⟩; rw [hb2.out] at hA3; rw [hb1.out]; have hD3 := hD2.op hA3 k3; have ho3 := own_keep ho2 k3 (fun b e => (hbes b e).1); have hbes3 := hbes.growF (w := w2) (w' := w3) (fun b e => own_lt ho2 e)) | (at_builtin; refine app_bool (xs := bv (DiskS.keepL m k)) rfl _ _ rfl (ho3.alloc _) rfl (Rd.lit' _ [.bool _] _ 1 1 w3.heap.size rfl rfl (by omega)) rfl (by simp [Value.oneCell']) (by omega) ?_; intro v4 w4 ho4 hg4 hb4; obtain ⟨A4, c4, rfl⟩ := ho4.shape; obtain ⟨hD4, hbes4⟩ := hD3.row hbes3 hg4 hb4))
              refine ⟨?_, ?measure⟩
              (repeat apply Exists.intro)
              (repeat apply Exists.intro)
              (repeat apply Exists.intro)
              (repeat apply Exists.intro)
              refine ⟨?rel, rfl⟩
              case rel =>
                refine ⟨k + 1, _, _, by omega, by go_num, ?_, ?_, hbes4⟩
                · rw [← DiskS.wantT_no 5 m ns k hkm]
                  exact hD4
                · rw [← DiskS.keepL_succ]
                  simpa [bv, hkm] using ho4
              case measure => simp [intOf]; omega
          · obtain rfl : k = n := by omega
            obtain ⟨kA, kc, rfl⟩ := ho.shape
            have hkr := Rd.of_own ho
            have hkF : ∀ ad, kA = some ad → ¬ F ad.block := fun ad e => by subst e; exact (hbes _ rfl).1
            have hbk := DiskS.crash_boot 5 m ns k
            have hb1 := Lib.hid (congrArg Prod.fst hbk)
            have hb2 := Lib.hid (congrArg Prod.snd hbk)
            clear hbk
            dsimp only at hb1 hb2
            have hcw := Lib.hid (DiskS.crash_want 5 m ns k)
            have hwr := DiskS.wantT_row 5 m ns k
            have hwn := DiskS.wantT_len 5 m ns k
            obtain ⟨dc, hdc⟩ : ∃ dc, (DiskS.behind 5 ns k).crash (DiskS.keepL m k) = dc := ⟨_, rfl⟩
            have hcwr : dc.writes.length = k := by rw [← hdc]; simp [DiskS.crash, DiskS.behind, DiskS.rowW_len]
            have HC := Lib.hid hdc
            rw [hdc] at hb1 hb2 hcw
            clear hdc
            have hfl : dc.firm.length ≤ 1000000 ∧ ∀ l ∈ dc.firm, l.length ≤ 1000000 := by rw [hcw.out]; exact ⟨by omega, fun l hl => by rw [hwr l hl]; omega⟩
            have hwrl : dc.writes.length ≤ 1000000 := by omega
            clear hr
            go_wp2_with (first | (go_at_call 17; refine (Crash_calls hD.ses.at_ (DiskS.behind_ok 5 (by omega) ns k).fit hkr (fun ad e h => hkF ad e h.1)).mono ?_; rintro e w6 ⟨rfl, hA6, k6⟩; rw [HC.out] at hA6; have hD6 := hD.same hA6 k6) | (go_at_call 19; refine (Image_calls hD6.ses.at_ hfl.1 hfl.2).mono ?_; rintro e w7 ⟨v7, vs7, rfl, hn7⟩; have hD7 := hD6.fresh hn7.2.2.1; obtain ⟨A7, c7, rfl, -, hr7⟩ := Own.rd hn7.1; obtain ⟨vsT, hrT, hlT⟩ := hD7.tab.rdl) | (go_at_call 18; refine (SameParts_yes _ hr7 hrT (RdL.of_all2 hn7.2.1) hlT hcw.out).mono ?_; rintro e w8 ⟨rfl, D8⟩; have hD8 := hD7.fresh D8.fresh) | (go_at_call 20; refine (Writes_calls hD8.ses.at_ hwrl).mono ?_; rintro e w9 ⟨v9, rfl, hn9⟩; have hD9 := hD8.fresh hn9.2.1; rw [hcwr] at hn9; obtain ⟨A9, c9, rfl⟩ := hn9.1.shape) | (go_at_call 21; refine (Boot_calls hD9.ses.at_).mono ?_; rintro e w10 ⟨rfl, hA10, k10⟩; rw [hb2.out] at hA10; rw [hb1.out]; have hD10 := hD9.same hA10 k10))
            clear hA6 hA10 hr7 hrT hlT hn7 hn9 hD hD6 hD7 hD8 hD9 hkr ho
            go_loopw [11] (fun i wr => ∃ j : Nat, j ≤ 5 ∧ i = .int .i64 j ∧ Duo w wr F G g (DiskS.back 5 m ns k) B 5 (DiskS.wantT 5 m ns k)) (fun i _ => 5 - (intOf i).toNat)
            case atStart => exact ⟨0, Nat.zero_le _, rfl, hD10⟩
            case round =>
              clear hD10
              obtain ⟨j, hj, rfl, hD⟩ := hrel
              by_cases hlt : j < 5
              · have hrd := DiskS.back_read 5 m ns k j hlt
                obtain ⟨y, hy⟩ : ∃ y, (DiskS.wantT 5 m ns k).getD j [] = y := ⟨_, rfl⟩
                have hyl : y.length = 128 := by
                  rw [← hy, List.getD_eq_getElem?_getD, List.getElem?_eq_getElem (by omega)]
                  exact hwr _ (List.getElem_mem _)
                rw [hy] at hrd
                have HY := Lib.hid hy
                have HL := Lib.hid hyl
                clear hy hyl
                have hd1 := Lib.hid (congrArg Prod.fst hrd)
                have hd2 := Lib.hid (congrArg Prod.snd hrd)
                clear hrd
                dsimp only at hd1 hd2
                have hi0 : (0 : Int) ≤ (j : Int) := Int.natCast_nonneg _
                have hi1 : (j : Int) < 5 := by omega
                go_wp2_with (first | (go_at_call 22; refine (Read_calls hD.ses.at_ (DiskS.back_sec 5 m ns k) j (by simp [DiskS.back])).mono ?_; rintro e w3 ⟨v3, rfl, hn3⟩; rw [hd2.out, HL.out] at hn3; rw [hd1.out]; have hD3 := hD.fresh hn3.2.1; obtain ⟨A3, c3, rfl, hr3⟩ := newB_rd hn3; obtain ⟨A4, m4, c4, hc4, -, hr4⟩ := hD3.tab.at_ hlt; rw [HY.out] at hr4) | (go_at_call 23; refine (SameBytes_yes _ hr3 hr4 rfl).mono ?_; rintro e w4 ⟨rfl, D4⟩; have hD4 := hD3.fresh D4.fresh))
                go_roundw
                case rel => exact ⟨j + 1, by omega, by go_num, hD4⟩
                case measure => simp [intOf]; omega
              · go_wp2_with (first | (go_at_call 12; refine (awake_calls _).mono ?_; rintro e w' ⟨rfl, hk⟩))
                go_ret
                exact ⟨rfl, hD.ses.kept.trans hk (fun _ _ f => f)⟩
  · go_enter Try.func3, Try.ntmps3
    go_wp2_with (first | (go_at_call 12; refine (awake_calls _).mono ?_; rintro e w' ⟨rfl, hk⟩))
    go_ret
    exact ⟨rfl, hk⟩
end Go.Proofs.Ytfmfedfalljokaa
