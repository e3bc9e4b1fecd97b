/-
  DiskFirm: the walk.
-/
import Derived.Deep.CutBlock
import Derived.Test.YtfmfedfalljokaaTab2
import Derived.Test.YtfmfedfalljokaaFirm1
namespace Go.Proofs.Ytfmfedfalljokaa
open Go.RowKit

/-- Two tables that have just been made beside a disk. -/
theorem Trio.made {w0 w : World} {F : Nat → Prop} {g : Nat} {d : DiskS} (h : Ses w0 w F g d) (n : Nat) (hn : n ≤ maxLen) :
    Trio w0 ((w.alloc (.cells (madeCells #[.slice none 0 0] n) 28)).alloc (.cells (madeCells #[.slice none 0 0] n) 28)) F (fun b => b = w.heap.size ∨ b = w.heap.size + 1) g d w.heap.size (w.heap.size + 1) n (List.replicate n []) (List.replicate n []) := by
  have k1 : Fresh w (w.alloc (.cells (madeCells #[.slice none 0 0] n) 28)) := (Keep.refl _ _).alloc _
  have t1 := (Tab.made w n hn).fresh ((Keep.refl _ _).alloc (.cells (madeCells #[.slice none 0 0] n) 28))
  have t2 := Tab.made (w.alloc (.cells (madeCells #[.slice none 0 0] n) 28)) n hn
  rw [World.size_alloc] at t2
  have hs := h.kept.size
  refine ⟨h.fresh (k1.alloc _), t1.mono (fun b hb => .inl hb) (fun b hb => by simp; omega), t2.mono (fun b hb => .inr hb) (fun b hb => by simp; omega), by omega, fun b hF hb => by have := h.at_.low b hF; omega, fun b hb => by omega⟩

theorem two_past {w : World} {o o' : Obj} {B1 B2 k : Nat} {u1 u2 : Value} (h1 : B1 < w.heap.size) (h2 : B2 < w.heap.size) :
    (((w.alloc o).alloc o').setCell ⟨B1, k, none⟩ u1).setCell ⟨B2, k, none⟩ u2 = (((w.setCell ⟨B1, k, none⟩ u1).setCell ⟨B2, k, none⟩ u2).alloc o).alloc o' := by
  have e1 : ∀ (w : World) (a : Addr) (v : Value), (w.setCell a v).heap.size = w.heap.size := fun w a v => by simp [World.setCell]
  rw [World.setCell_alloc_past o' B1 k u1 (by simp; omega), World.setCell_alloc_past o B1 k u1 h1, World.setCell_alloc_past o' B2 k u2 (by simp [e1]; omega), World.setCell_alloc_past o B2 k u2 (by rw [e1]; exact h2)]
theorem newB_zeros2 (w : World) : NewB w ((w.alloc (.cells (madeCells #[.int .u8 0] 128) 5)).alloc (.cells (madeCells #[.int .u8 0] 128) 5)) 5 .u8 (.slice (some ⟨w.heap.size, 0, none⟩) 128 128) 128 (zeros 128) ∧
    NewB w ((w.alloc (.cells (madeCells #[.int .u8 0] 128) 5)).alloc (.cells (madeCells #[.int .u8 0] 128) 5)) 5 .u8 (.slice (some ⟨w.heap.size + 1, 0, none⟩) 128 128) 128 (zeros 128) := by
  have h1 := newB_zeros w
  have h2 := newB_zeros (w.alloc (.cells (madeCells #[.int .u8 0] 128) 5))
  rw [World.size_alloc] at h2
  exact ⟨⟨own_keep h1.1 h2.2.1 (fun _ _ f => f), h1.2.1.trans h2.2.1 (fun _ _ f => f), h1.2.2⟩, h2.1, h1.2.1.trans h2.2.1 (fun _ _ f => f), fun k hk => by have := h2.2.2 k hk; simp at this; omega⟩

set_option maxHeartbeats 4000000 in
set_option maxRecDepth 100000 in
theorem DiskFirm_calls (w : World) {A : Option Addr} {n c : Nat} {ns : List Int} (hr : Rd w 1 A n (iv .i64 ns)) (flush : Int) :
    Calls Try.prog 5 #[.slice A n c, .int .i64 flush] w fun e w' => e = .returned (.bool true) ∧ Fresh w w' := by
  have hnl := hr.len
  have hle := hr.le
  by_cases hbig : n ≤ 30
  · have hmk := make_u8
    have hmt := make_tab5
    have hN5 : ∀ w, Calls Try.prog 14 #[.int .i64 5] w fun e w' => ∃ g, e = .returned (ptr g) ∧ w.heap.size ≤ g ∧ DiskAt (fun b => w.heap.size ≤ b ∧ b < w'.heap.size) w' g (DiskS.new 5) ∧ Fresh w w' := fun w => New_calls 5 w (by omega) (by omega)
    go_enter Try.func5, Try.ntmps5
    go_wp2_with (first | (go_at_call 14; refine (hN5 w).mono ?_; rintro e w1 ⟨g, rfl, -, hA1, k1⟩; have hS1 := Ses.start hA1 k1; clear hA1 k1))
    go_cut [6, 7] (fun v6 v7 wx => ∃ (B1 B2 : Nat) (F G : Nat → Prop), v6 = .slice (some ⟨B1, 0, none⟩) 5 5 ∧ v7 = .slice (some ⟨B2, 0, none⟩) 5 5 ∧ Trio w wx F G g (DiskS.new 5) B1 B2 5 (List.replicate 0 (zeros 128) ++ List.replicate (5 - 0) []) (List.replicate 0 (zeros 128) ++ List.replicate (5 - 0) []))
    case first =>
      go_region
      all_goals
        go_wp2_with fail
        go_meet
        first | exact ⟨_, _, _, _, rfl, rfl, (Trio.made hS1 5 (by simp [maxLen])).fresh ((Keep.refl _ _).drew)⟩ | exact ⟨_, _, _, _, rfl, rfl, (Trio.made hS1 5 (by simp [maxLen])).swap.fresh ((Keep.refl _ _).drew)⟩
    case rest =>
      clear hS1
      obtain ⟨B1, B2, F, G, rfl, rfl, hT0⟩ := hcut
      go_wp2
      go_loopw [8] (fun i wr => ∃ (k : Nat) (G : Nat → Prop), k ≤ 5 ∧ i = .int .i64 k ∧ Trio w wr F G g (DiskS.new 5) B1 B2 5 (List.replicate k (zeros 128) ++ List.replicate (5 - k) []) (List.replicate k (zeros 128) ++ List.replicate (5 - k) [])) (fun i _ => 5 - (intOf i).toNat)
      case atStart => exact ⟨0, G, Nat.zero_le _, rfl, hT0⟩
      case round =>
        clear hT0 G
        obtain ⟨k, G, hk, rfl, hT⟩ := hrel
        by_cases hlt : k < 5
        · obtain ⟨A1, m1, c1, hc1, hf1, -⟩ := hT.tab1.at_ hlt
          obtain ⟨A2, m2, c2, hc2, hf2, -⟩ := hT.tab2.at_ hlt
          have hb1 := hT.tab1.low _ hT.tab1.gB
          have hb2 := hT.tab2.low _ hT.tab2.gB
          have hc1b := fun o => alloc_cell (alloc_cell hc1 o)
          have hc2b := fun o => alloc_cell (alloc_cell hc2 o)
          have hf1b := fun o => alloc_frozen (p := ⟨B1, k, none⟩) (by simp; omega) (alloc_frozen (p := ⟨B1, k, none⟩) hb1 hf1 o)
          have hf2b := fun o => alloc_frozen (p := ⟨B2, k, none⟩) (by simp; omega) (alloc_frozen (p := ⟨B2, k, none⟩) hb2 hf2 o)
          have hi0 : (0 : Int) ≤ (k : Int) := Int.natCast_nonneg _
          have hi1 : (k : Int) < 5 := by omega
          have hne := hT.ne
          have hne' := hT.ne.symm
          go_upto_block 1 with fail
          go_cut [] (fun wx => ∃ G, Trio w wx F G g (DiskS.new 5) B1 B2 5 (List.replicate (k + 1) (zeros 128) ++ List.replicate (5 - (k + 1)) []) (List.replicate (k + 1) (zeros 128) ++ List.replicate (5 - (k + 1)) []))
          case first =>
            go_wp2_with fail
            go_region
            all_goals
              go_wp2_with fail
              go_meet
              obtain ⟨z1, z2⟩ := newB_zeros2 wr
              have q1 := hT.both z1 z2 k
              have q2 := hT.both z2 z1 k
              rw [lay_zeros 5 k _ _ hlt] at q1 q2
              rw [two_past (by omega) (by omega)] at q1 q2
              first
                | exact ⟨_, q1.fresh ((Keep.refl _ _).drew)⟩
                | exact ⟨_, q2.fresh ((Keep.refl _ _).drew)⟩
          case rest =>
            obtain ⟨G', hT'⟩ := hcut
            go_wp2
            go_roundw
            case rel => exact ⟨k + 1, G', by omega, by go_num, hT'⟩
            case measure => simp [intOf]; omega
        · obtain rfl : k = 5 := by omega
          have hT1 : Trio w wr F G g (DiskS.new 5) B1 B2 5 (List.replicate 5 (zeros 128)) (List.replicate 5 (zeros 128)) := by simpa using hT
          clear hT
          go_wp2
          go_loopw [9, 10] (fun fv i wr => ∃ (k f : Nat) (F G : Nat → Prop) (d : DiskS) (fm lt : List (List Int)), k ≤ n ∧ i = .int .i64 k ∧ fv = .int .i64 f ∧ DiskS.Firm 5 k d fm lt f ∧ Trio w wr F G g d B1 B2 5 fm lt) (fun _ i _ => n - (intOf i).toNat)
          case atStart => exact ⟨0, 0, F, G, _, _, _, Nat.zero_le _, rfl, rfl, DiskS.Firm.start 5, hT1⟩
          case round =>
            clear hT1
            obtain ⟨k, f, F, G, d, fm, lt, hk, rfl, rfl, hd, hT⟩ := hrel
            by_cases hlt : k < n
            · obtain ⟨ad, rfl, hcell⟩ := (hr.fresh hT.ses.kept).int hlt
              obtain ⟨x, hx⟩ : ∃ x, ns.getD k 0 = x := ⟨_, rfl⟩
              rw [hx] at hcell
              clear hx
              obtain ⟨s, hs⟩ : ∃ s : Nat, lowI x 5 = s := ⟨(lowI x 5).toNat, by have := lowI_nn x 5 (by omega); omega⟩
              have hs5 : s < 5 := by have := lowI_lt x 5 (by omega); omega
              have hlow := Lib.hid hs; clear hs
              have hFi : ∀ w, Calls Try.prog 16 #[.int .i64 k, .int .i64 128] w fun e w' => ∃ v, e = .returned v ∧ NewB w w' 5 .u8 v 128 (fillL k 128) := fun w => Fill_calls k 128 w (by omega) (by omega)
              obtain ⟨hw1, hd1⟩ := hd.write hs5 (DiskS.fillL_len k 128)
              obtain ⟨d1, hdd1⟩ : ∃ d1, (d.write s (fillL k 128)).2 = d1 := ⟨_, rfl⟩
              rw [hdd1] at hd1
              have HD1 := Lib.hid hdd1; clear hdd1
              have HW1 := Lib.hid hw1; clear hw1
              have hwl : d.waits.length ≤ 1000000 := by have := hd.waitsE; omega
              have hwl2 : d.writes.length ≤ 1000000 := by have := hd.writesE; omega
              have hi0 : (0 : Int) ≤ (k : Int) := Int.natCast_nonneg _
              have hi1 : (k : Int) < (n : Int) := by omega
              have hs0 : (0 : Int) ≤ (s : Int) := Int.natCast_nonneg _
              have hs1 : (s : Int) < 5 := by omega
              have hfk := hd.le
              have hfk0 : (0 : Int) ≤ (f : Int) := Int.natCast_nonneg _
              have hfk1 : (f : Int) ≤ 30 := by omega
              have hok := hd.ok
              have hok1 := hd1.ok
              obtain ⟨hf1, hf2, hd6⟩ := hd1.flush (by have := hd.le; omega)
              obtain ⟨d6, hdd6⟩ : ∃ d6, d1.flush.2 = d6 := ⟨_, rfl⟩
              rw [hdd6] at hd6 hf2
              have HD6 := Lib.hid hdd6; clear hdd6
              have HW6 := Lib.hid hf1; clear hf1
              have hfl0 : 0 ≤ d1.flushes ∧ d1.flushes ≤ 1000000 := by rw [hd1.flushesE]; have := hd1.le; omega
              have hy : (lt.set s (fillL k 128)).getD s [] = fillL k 128 := by
                have := hd.lastLen
                simp [List.getD_eq_getElem?_getD, show s < lt.length by omega]
              have hl : (fillL k 128).length = 128 := DiskS.fillL_len k 128
              have hr1 := hd1.read hs5
              have hr6 := hd6.read hs5
              rw [hy] at hr1 hr6
              have HR1a := Lib.hid (congrArg Prod.fst hr1)
              have HR1b := Lib.hid (congrArg Prod.snd hr1)
              have HR6a := Lib.hid (congrArg Prod.fst hr6)
              have HR6b := Lib.hid (congrArg Prod.snd hr6)
              dsimp only at HR1a HR1b HR6a HR6b
              clear hr1 hr6
              have HY := Lib.hid hy
              have HL := Lib.hid hl
              clear hy hl
              have hsec1 := hd1.sec
              have hsec6 := hd6.sec
              have hwl1 : d1.waits.length ≤ 1000000 := by have := hd1.waitsE; omega
              have hwl6 : d6.waits.length ≤ 1000000 := by have := hd6.waitsE; omega
              have hwe6 : d6.waits.length = 0 := by rw [hf2]; rfl
              obtain ⟨y, hyy⟩ : ∃ y, y = fillL k 128 := ⟨_, rfl⟩
              rw [← hyy] at HY HL HR1b HR6b hd1 hd6 HD1 HW1
              have hFi : ∀ w, Calls Try.prog 16 #[.int .i64 k, .int .i64 128] w fun e w' => ∃ v, e = .returned v ∧ NewB w w' 5 .u8 v 128 y := fun w => by rw [hyy]; exact hFi w
              clear hyy
              go_wp2_with (first | (go_at_call 13; refine (Low_calls x 5 _ (by omega) (by omega)).mono ?_; rintro e w' ⟨rfl, rfl⟩; rw [hlow.out]) | (go_at_call 16; have := hT3; refine (hFi _).mono ?_; rintro e w4 ⟨v4, rfl, hn4⟩; obtain ⟨A4, c4, rfl, -⟩ := newB_rd hn4; obtain ⟨A5, m5, c5, hc5, hf5, -⟩ := (hT3.fresh hn4.2.1).tab2.at_ hs5; have hT5 := hT3.put hn4 s) | (go_at_call 16; refine (hFi _).mono ?_; rintro e w2 ⟨v2, rfl, hn2⟩; obtain ⟨A2, c2, rfl, r2, far2, -⟩ := newB_rd_far hn2 hT.ses.at_.low; have hT2 := hT.fresh hn2.2.1) | (go_at_call 15; refine (Write_calls hT2.ses.at_ hok s r2 far2 hwl hwl2).mono ?_; rintro e w3 ⟨rfl, hA3, k3⟩; rw [HD1.out] at hA3; rw [HW1.out]; have hT3 := hT2.op hA3 k3) | (go_at_call 25; refine (Flush_calls hT5.ses.at_ hok1 hfl0.1 hfl0.2).mono ?_; rintro e w6 ⟨rfl, hA6, k6⟩; rw [HD6.out] at hA6; rw [HW6.out]; have hT6 := hT5.same hA6 k6) | (go_at_call 27; refine (Waiting_calls hT6.ses.at_ hwl6).mono ?_; rintro e w7 ⟨v7, rfl, hn7⟩; rw [hwe6] at hn7; obtain ⟨A7, c7, rfl⟩ := hn7.1.shape; have hT7 := hT6.fresh hn7.2.1) | (refine copy_tab rfl (.tmp 74) (.tmp 75) rfl rfl rfl hT7.ne hT7.tab1 hT7.tab2 ?_; intro w8 t1 t2 k8; have hT8 := hT7.copied t1 t2 k8) | (go_at_call 22; have := hT8; refine (Read_calls hT8.ses.at_ hsec6 s hwl6).mono ?_; rintro e w9 ⟨v9, rfl, hn9⟩; rw [HR6b.out, HL.out] at hn9; rw [HR6a.out]; have hT9 := hT8.fresh hn9.2.1; have hd9 := hd6; obtain ⟨A9, c9, rfl, hr9⟩ := newB_rd hn9; obtain ⟨A10, m10, c10, hc10, -, hr10⟩ := hT9.tab2.at_ hs5; rw [HY.out] at hr10) | (go_at_call 22; refine (Read_calls hT5.ses.at_ hsec1 s hwl1).mono ?_; rintro e w9 ⟨v9, rfl, hn9⟩; rw [HR1b.out, HL.out] at hn9; rw [HR1a.out]; have hT9 := hT5.fresh hn9.2.1; have hd9 := hd1; obtain ⟨A9, c9, rfl, hr9⟩ := newB_rd hn9; obtain ⟨A10, m10, c10, hc10, -, hr10⟩ := hT9.tab2.at_ hs5; rw [HY.out] at hr10) | (go_at_call 23; refine (SameBytes_yes _ hr9 hr10 rfl).mono ?_; rintro e w10 ⟨rfl, D10⟩; have hT10 := hT9.fresh D10.fresh) | (go_at_call 19; refine (Image_calls hT10.ses.at_ (by rw [hd9.firmE, hd9.len]; omega) (fun l hl => by rw [hd9.firmE] at hl; rw [hd9.row l hl]; omega)).mono ?_; rintro e w11 ⟨v11, vs11, rfl, hn11⟩; have hT11 := hT10.fresh hn11.2.2.1; obtain ⟨A11, c11, rfl, -, hr11⟩ := Own.rd hn11.1; obtain ⟨vsT, hrT, hlT⟩ := hT11.tab1.rdl) | (go_at_call 18; refine (SameParts_yes _ hr11 hrT (RdL.of_all2 hn11.2.1) hlT hd9.firmE).mono ?_; rintro e w12 ⟨rfl, D12⟩; have hT12 := hT11.fresh D12.fresh))
              all_goals
                refine ⟨?_, ?_⟩
                · (repeat apply Exists.intro)
                  (repeat apply Exists.intro)
                  (repeat apply Exists.intro)
                  (repeat apply Exists.intro)
                  refine ⟨⟨k + 1, _, _, _, _, _, _, ?_, ?_, ?_, hd9, hT12⟩, rfl⟩
                  · omega
                  · go_num
                  · first | rfl | go_num
                · simp [intOf]; omega
            · obtain rfl : k = n := by omega
              obtain ⟨hc1, hc2, hc3, hc4, hc5, hc6, hc7⟩ := hd.crash
              have hfit := hd.ok.fit
              have hwrl : d.writes.length = k := hd.writesE
              obtain ⟨dc, hdc⟩ : ∃ dc, d.crash [] = dc := ⟨_, rfl⟩
              obtain ⟨db, hdb⟩ : ∃ db, dc.boot.2 = db := ⟨_, rfl⟩
              rw [hdc] at hc1 hc2 hc3 hc4 hc5 hc6 hc7
              rw [hdb] at hc6 hc7
              have HC := Lib.hid hdc; clear hdc
              have HB := Lib.hid hdb; clear hdb
              have H1 := Lib.hid hc1
              have H2 := Lib.hid hc2
              have H4 := Lib.hid hc4
              have H5 := Lib.hid hc5
              have H6 := Lib.hid hc6
              have hlen : dc.firm.length ≤ 1000000 ∧ ∀ l ∈ dc.firm, l.length ≤ 1000000 := by rw [hc1]; exact ⟨by rw [hd.len]; omega, fun l hl => by rw [hd.row l hl]; omega⟩
              clear hc1 hc2 hc3 hc4 hc5 hc6 hc7 hr
              go_wp2_with (first | (go_at_call 20; refine (Writes_calls hT.ses.at_ (by omega)).mono ?_; rintro e w2 ⟨v2, rfl, hn2⟩; have hT2 := hT.fresh hn2.2.1; rw [hwrl] at hn2; obtain ⟨A2, c2, rfl⟩ := hn2.1.shape) | (go_at_call 17; refine (Crash_calls (keep := []) hT2.ses.at_ hfit Rd.none_ (fun _ e => by cases e)).mono ?_; rintro e w3 ⟨rfl, hA3, k3⟩; rw [HC.out] at hA3; have hT3 := hT2.same hA3 k3) | (go_at_call 28; refine (Flushes_calls hT3.ses.at_).mono ?_; rintro e w' ⟨rfl, rfl⟩; rw [H4.out]) | (go_at_call 19; refine (Image_calls hT3.ses.at_ hlen.1 hlen.2).mono ?_; rintro e w4 ⟨v4, vs4, rfl, hn4⟩; have hT4 := hT3.fresh hn4.2.2.1; obtain ⟨A4, c4, rfl, -, hr4⟩ := Own.rd hn4.1; obtain ⟨vsT, hrT, hlT⟩ := hT4.tab1.rdl) | (go_at_call 18; refine (SameParts_yes _ hr4 hrT (RdL.of_all2 hn4.2.1) hlT H1.out).mono ?_; rintro e w5 ⟨rfl, D5⟩; have hT5 := hT4.fresh D5.fresh) | (go_at_call 26; refine (On_calls hT5.ses.at_).mono ?_; rintro e w' ⟨rfl, rfl⟩; rw [H2.out]) | (go_at_call 21; have := hT6; refine (Boot_calls hT6.ses.at_).mono ?_; rintro e w7 ⟨rfl, hA7, k7⟩; rw [H6.out]; have hT7 := hT6.same hA7 k7) | (go_at_call 21; refine (Boot_calls hT5.ses.at_).mono ?_; rintro e w6 ⟨rfl, hA6, k6⟩; rw [H5.out]; rw [HB.out] at hA6; have hT6 := hT5.same hA6 k6) | (go_at_call 12; refine (awake_calls _).mono ?_; rintro e w8 ⟨rfl, hk8⟩))
              go_ret
              exact ⟨rfl, hT7.ses.kept.trans hk8 (fun _ _ f => f)⟩
  · go_enter Try.func5, Try.ntmps5
    go_wp2_with (first | (go_at_call 12; refine (awake_calls _).mono ?_; rintro e w' ⟨rfl, hk⟩))
    go_ret
    exact ⟨rfl, hk⟩
end Go.Proofs.Ytfmfedfalljokaa
