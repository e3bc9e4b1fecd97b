/-
  DiskFalls: the walk.
-/
import Derived.Deep.CutBlock
import Derived.Deep.RegionLaw
import Derived.Deep.RegionWith
import Derived.Test.YtfmfedfalljokaaPrefix2
import Derived.Test.YtfmfedfalljokaaTab3
import Derived.Test.YtfmfedfalljokaaFalls1
namespace Go.Proofs.Ytfmfedfalljokaa
open Go.RowKit

/-- The j-th write of the row's two lists. -/
theorem Quad.pair {w0 w : World} {F G : Nat → Prop} {g B : Nat} {d : DiskS} {A1 A2 : Option Addr} {L c1 c2 : Nat} {ls : List (List Int)} {ats : List Int} {bss : List (List Int)} (h : Quad w0 w F G g d B (.slice A1 L c1) (.slice A2 L c2) ls ats bss)
    (ha : ats.length = L) (hb : bss.length = L) {j : Nat} (hj : j < L) : ∃ a1 a2 x X m c l, A1 = some a1 ∧ A2 = some a2 ∧ w.cell? (a1.add j) = some (.int .i64 x) ∧ w.cell? (a2.add j) = some (.slice X m c) ∧ ByteIn G w (.slice X m c) l ∧ (ats.zip bss)[j]? = some (x, l) := by
  subst ha
  have hr := Rd.of_own h.q.at_
  obtain ⟨a1, rfl, c1⟩ := hr.int hj
  obtain ⟨a2, X, m, c, ⟨c', e⟩, c2, hB⟩ := h.q.bsAt (k := j) (by omega)
  injection e with e1 e2 e3
  subst e1
  refine ⟨a1, a2, _, X, m, c, _, rfl, rfl, c1, c2, hB, ?_⟩
  rw [List.getElem?_zip_eq_some]
  simp [List.getD_eq_getElem?_getD, hj, show j < bss.length by omega]

set_option maxHeartbeats 4000000 in
set_option maxRecDepth 100000 in
theorem DiskFalls_calls (w : World) {A : Option Addr} {n c : Nat} {ns : List Int} (hr : Rd w 1 A n (iv .i64 ns)) (flush after : Int) {kA : Option Addr} {kn kc : Nat} {keep : List Bool} (hk : Rd w 1 kA kn (bv keep)) :
    Calls Try.prog 4 #[.slice A n c, .int .i64 flush, .int .i64 after, .slice kA kn kc] w fun e w' => e = .returned (.bool true) ∧ Fresh w w' := by
  have hnl := hr.len
  have hle := hr.le
  have hkle := hk.le
  have hkl : keep.length = kn := by have := hk.1; simpa [bv] using this
  by_cases hbig : n ≤ 30
  · by_cases hbig2 : kn ≤ 20
    · obtain ⟨m, hm⟩ : ∃ m : Nat, lowI after 50 = m := ⟨(lowI after 50).toNat, by have := lowI_nn after 50 (by omega); omega⟩
      have hml : m < 50 := by have := lowI_lt after 50 (by omega); omega
      have hmk := make_u8
      have hN6 : ∀ w, Calls Try.prog 14 #[.int .i64 6] w fun e w' => ∃ g, e = .returned (ptr g) ∧ w.heap.size ≤ g ∧ DiskAt (fun b => w.heap.size ≤ b ∧ b < w'.heap.size) w' g (DiskS.new 6) ∧ Fresh w w' := fun w => New_calls 6 w (by omega) (by omega)
      obtain ⟨ha1, hd0⟩ := DiskS.Falls.start 6 m keep
      obtain ⟨d0, hdd⟩ : ∃ d0, ((DiskS.new 6).arm m keep).2 = d0 := ⟨_, rfl⟩
      rw [hdd] at hd0
      have HD := Lib.hid hdd; clear hdd
      have HA := Lib.hid ha1; clear ha1
      go_enter Try.func4, Try.ntmps4
      go_wp2_with (first | (go_at_call 13; refine (Low_calls after 50 _ (by omega) (by omega)).mono ?_; rintro e w' ⟨rfl, rfl⟩; rw [hm]) | (go_at_call 14; refine (hN6 w).mono ?_; rintro e w1 ⟨g, rfl, -, hA1, k1⟩; have hS1 := Ses.start hA1 k1; clear hA1 k1) | (go_at_call 24; refine (Arm_calls hS1.at_ m (hk.fresh hS1.kept) (by omega)).mono ?_; rintro e w2 ⟨rfl, hA2, k2⟩; rw [HD.out] at hA2; rw [HA.out]; have hS2 := hS1.op hA2 k2))
      have hQ0 := Quad.start hS2 rfl
      obtain ⟨W3, hW3⟩ : ∃ W3, w2.alloc (.cells #[.slice none 0 0, .slice none 0 0, .slice none 0 0, .slice none 0 0, .slice none 0 0, .slice none 0 0] 43) = W3 := ⟨_, rfl⟩
      obtain ⟨B, hB⟩ : ∃ B, w2.heap.size = B := ⟨_, rfl⟩
      obtain ⟨F0, hF0⟩ : ∃ F0, F0 = Grow (fun b => w.heap.size ≤ b ∧ b < w1.heap.size) w1 w2 := ⟨_, rfl⟩
      rw [← hF0] at hQ0
      rw [hW3, hB] at hQ0 ⊢
      clear hW3 hB hF0 hS1 hS2 hA2 k2
      go_loopw [11] (fun i wr => ∃ (k : Nat) (G : Nat → Prop), k ≤ 6 ∧ i = .int .i64 k ∧ Quad w wr F0 G g d0 B (.slice none 0 0) (.slice none 0 0) (List.replicate k (zeros 128) ++ List.replicate (6 - k) []) [] []) (fun i _ => 6 - (intOf i).toNat)
      case atStart => exact ⟨0, _, Nat.zero_le _, rfl, hQ0⟩
      case round =>
        clear hQ0
        obtain ⟨k, G, hk6, rfl, hQ⟩ := hrel
        by_cases hlt : k < 6
        · obtain ⟨A1, m1, c1, hc1, hf1⟩ := (hQ.fresh ((Keep.refl _ wr).alloc (.cells (madeCells #[.int .u8 0] 128) 5))).q.arrAt (k := k) (by simp; omega)
          have hi0 : (0 : Int) ≤ (k : Int) := Int.natCast_nonneg _
          have hi1 : (k : Int) < 6 := by omega
          go_wp2
          go_roundw
          case rel =>
            have q := hQ.fill (newB_zeros wr) k
            rw [lay_zeros 6 k _ _ hlt] at q
            exact ⟨k + 1, _, by omega, by go_num, q⟩
          case measure => simp [intOf]; omega
        · obtain rfl : k = 6 := by omega
          have hQ1 : Quad w wr F0 G g d0 B (.slice none 0 0) (.slice none 0 0) (List.replicate 6 (zeros 128)) [] [] := by simpa using hQ
          clear hQ
          go_upto_block 2 with fail
          go_cut [12, 13, 14] (fun av bv cv wx => ∃ (F G : Nat → Prop) (d : DiskS) (fm : List (List Int)) (ats : List Int) (bss : List (List Int)) (cnt : Nat), cv = .int .i64 cnt ∧ cnt ≤ m ∧ Quad w wx F G g d B av bv fm ats bss ∧ (d.on = true ∨ DiskS.Dark 6 100 keep d fm ats bss))
          case first =>
            clear hk
            go_wp2
            go_loopw [12, 13, 14, 15] (fun av bv cv i wr => ∃ (k cnt : Nat) (F G : Nat → Prop) (d : DiskS) (fm : List (List Int)) (ats : List Int) (bss : List (List Int)), k ≤ n ∧ i = .int .i64 k ∧ cv = .int .i64 cnt ∧ DiskS.Falls 6 m cnt (2 * k) keep d fm ats bss ∧ Quad w wr F G g d B av bv fm ats bss) (fun _ _ _ i _ => n - (intOf i).toNat)
            case atStart => exact ⟨0, 0, F0, G, d0, _, [], [], Nat.zero_le _, rfl, rfl, hd0, hQ1⟩
            case round =>
              clear hQ1 hd0
              obtain ⟨k, cnt, F, G, d, fm, ats, bss, hkn, rfl, rfl, hd, hQ⟩ := hrel
              by_cases hlt : k < n
              · obtain ⟨ad, rfl, hcell⟩ := (hr.fresh hQ.ses.kept).int hlt
                obtain ⟨x, hx⟩ : ∃ x, ns.getD k 0 = x := ⟨_, rfl⟩
                rw [hx] at hcell
                clear hx
                obtain ⟨s, hs⟩ : ∃ s : Nat, lowI x 6 = s := ⟨(lowI x 6).toNat, by have := lowI_nn x 6 (by omega); omega⟩
                have hs6 : s < 6 := by have := lowI_lt x 6 (by omega); omega
                have hlow := Lib.hid hs; clear hs
                obtain ⟨y, hyy⟩ : ∃ y, y = fillL k 128 := ⟨_, rfl⟩
                have hFi : ∀ w, Calls Try.prog 16 #[.int .i64 k, .int .i64 128] w fun e w' => ∃ v, e = .returned v ∧ NewB w w' 5 .u8 v 128 y := fun w => by rw [hyy]; exact Fill_calls k 128 w (by omega) (by omega)
                have hyl : y.length = 128 := by rw [hyy]; exact DiskS.fillL_len k 128
                clear hyy
                have hwl : d.waits.length ≤ 1000000 := by rw [hd.waitsE, List.length_zip]; have := hd.few; omega
                have hwl2 : d.writes.length ≤ 1000000 := by have := hd.writesE; omega
                have hi0 : (0 : Int) ≤ (k : Int) := Int.natCast_nonneg _
                have hi1 : (k : Int) < (n : Int) := by omega
                have hs0 : (0 : Int) ≤ (s : Int) := Int.natCast_nonneg _
                have hs1 : (s : Int) < 6 := by omega
                have hok := hd.ok (by omega)
                have hc0 : (0 : Int) ≤ (cnt : Int) := Int.natCast_nonneg _
                have hcm := hd.le
                by_cases hc : cnt < m
                · obtain ⟨hw1, hd1⟩ := hd.write hs6 hyl hc
                  obtain ⟨d1, hdd1⟩ : ∃ d1, (d.write s y).2 = d1 := ⟨_, rfl⟩
                  rw [hdd1] at hd1
                  have HD1 := Lib.hid hdd1; clear hdd1
                  have HW1 := Lib.hid hw1; clear hw1
                  have hc' : decide ((cnt : Int) < (m : Int)) = true := by simp; omega
                  have hcb : (cnt : Int) < 50 := by omega
                  have hat := hd.few
                  have hbt : bss.length ≤ 60 := by have := hd.pair; omega
                  have hok1 := hd1.ok (by omega)
                  have hfl0 : 0 ≤ d1.flushes ∧ d1.flushes ≤ 1000000 := ⟨hd1.fl0, by have := hd1.fl1; omega⟩
                  by_cases hc2 : cnt + 1 < m
                  · obtain ⟨hf1, hd2⟩ := hd1.flush hc2
                    obtain ⟨d2, hdd2⟩ : ∃ d2, d1.flush.2 = d2 := ⟨_, rfl⟩
                    rw [hdd2] at hd2
                    have HD2 := Lib.hid hdd2; clear hdd2
                    have HF2 := Lib.hid hf1; clear hf1
                    have hc2' : decide ((cnt : Int) + 1 < (m : Int)) = true := by simp; omega
                    go_wp2_with (first | (go_at_call 13; refine (Low_calls x 6 _ (by omega) (by omega)).mono ?_; rintro e w' ⟨rfl, rfl⟩; rw [hlow.out]) | (go_at_call 16; have := hQ4; refine (hFi _).mono ?_; rintro e w5 ⟨v5, rfl, hn5⟩; obtain ⟨A5, c5, rfl, -⟩ := newB_rd hn5; obtain ⟨us, hu1, hu2⟩ := hQ4.q.bs_; have hu3 := own_keep hu1 hn5.2.1 (fun _ _ f => f)) | (go_at_call 16; refine (hFi _).mono ?_; rintro e w2 ⟨v2, rfl, hn2⟩; obtain ⟨A2, c2, rfl, r2, far2, -⟩ := newB_rd_far hn2 hQ.ses.at_.low; have hQ2 := hQ.fresh hn2.2.1) | (go_at_call 15; refine (Write_calls hQ2.ses.at_ hok s r2 far2 hwl hwl2).mono ?_; rintro e w3 ⟨rfl, hA3, k3⟩; rw [HD1.out] at hA3; rw [HW1.out]; have hQ3 := hQ2.op hA3 k3) | (at_builtin; refine app_bytes (xs := us) rfl _ _ rfl (hu3.alloc _) rfl (Rd.lit' _ [.slice A5 128 c5] _ 1 1 w5.heap.size rfl rfl (by omega)) rfl (by simp [Value.oneCell']) (by omega) ?_; intro v6 w6 ho6 hg6 hb6; obtain ⟨A6, c6, rfl⟩ := ho6.shape; obtain ⟨q6, k6⟩ := hQ4.q.appB hn5 ⟨us, rfl, hu1, hu2⟩ ho6 hg6 hb6; have hQ6 := hQ4.mine q6 k6) | (at_builtin; refine app_int (l := ats) rfl _ _ rfl (hQ3.q.at_.alloc _) rfl (Rd.one' _ _ _ _ w3.heap.size rfl) rfl (by omega) ?_; intro v4 w4 ho4 hg4 hb4; obtain ⟨A4, c4, rfl⟩ := ho4.shape; obtain ⟨q4, k4⟩ := hQ3.q.appA ho4 hg4 hb4; have hQ4 := hQ3.mine q4 k4) | (go_at_call 25; refine (Flush_calls hQ6.ses.at_ hok1 hfl0.1 hfl0.2).mono ?_; rintro e w7 ⟨rfl, hA7, k7⟩; rw [HD2.out] at hA7; rw [HF2.out]; have hQ7 := hQ6.same hA7 k7))
                    all_goals first
                      | (refine ⟨?_, ?_⟩
                         · (repeat apply Exists.intro)
                           (repeat apply Exists.intro)
                           (repeat apply Exists.intro)
                           (repeat apply Exists.intro)
                           exact ⟨⟨k + 1, cnt + 1, _, _, d1, fm, _, _, by omega, by go_num, by go_num, hd1.more (by omega), hQ6⟩, rfl⟩
                         · simp [intOf]; omega)
                      | skip
                    have hpr := hd.pair
                    have hmm := hd1.mem
                    rw [hd1.waitsE] at hmm
                    obtain ⟨F7, G7, hQ7'⟩ : ∃ F G, Quad w w7 F G g d2 B (.slice A4 (ats.length + 1) c4) (.slice A6 (bss.length + 1) c6) fm (ats ++ [(s : Int)]) (bss ++ [y]) := ⟨_, _, hQ7⟩
                    clear hQ hQ2 hQ3 hQ4 hQ6 hQ7 hA3 hA7 hn2 hn5 ho4 ho6 hu1 hu2 hu3
                    obtain ⟨L, hL⟩ : ∃ L, ats.length + 1 = L := ⟨_, rfl⟩
                    have hL2 : bss.length + 1 = L := by omega
                    have hla : (ats ++ [(s : Int)]).length = L := by simp [hL]
                    have hlb : (bss ++ [y]).length = L := by simp [hL2]
                    obtain ⟨ats', hats⟩ : ∃ l, ats ++ [(s : Int)] = l := ⟨_, rfl⟩
                    obtain ⟨bss', hbss⟩ : ∃ l, bss ++ [y] = l := ⟨_, rfl⟩
                    rw [hats] at hla hmm hQ7'
                    rw [hbss] at hlb hmm hQ7'
                    rw [hats, hbss] at hd2
                    rw [hL, hL2] at hQ7'
                    rw [hL, hL2]
                    have hL60 : L ≤ 61 := by omega
                    have hlen := hd.len
                    have hbk := hd2.more (k' := 2 * (k + 1)) (by omega)
                    clear hL hL2 hats hbss hd hd1 hd2 hpr hat hbt
                    go_loopw [19] (fun i wr => ∃ j : Nat, j ≤ L ∧ i = .int .i64 j ∧ Quad w wr F7 G7 g d2 B (.slice A4 L c4) (.slice A6 L c6) (DiskS.layAll ((ats'.zip bss').take j) fm) ats' bss') (fun i _ => L - (intOf i).toNat)
                    case atStart => exact ⟨0, Nat.zero_le _, rfl, hQ7'⟩
                    case round =>
                      clear hQ7'
                      obtain ⟨j, hj, rfl, hQ⟩ := hrel
                      by_cases hjl : j < L
                      · obtain ⟨a1, a2, xx, X, mm, cc, l, rfl, rfl, ca1, ca2, hbl, hz⟩ := hQ.pair hla hlb hjl
                        obtain ⟨hx0, hx1, -⟩ := hmm _ (List.mem_of_getElem? hz)
                        obtain ⟨sx, rfl⟩ := Int.eq_ofNat_of_zero_le hx0
                        obtain ⟨A1, m1, c1, hc1, hf1⟩ := hQ.q.arrAt (k := sx) (by rw [DiskS.layAll_len, hlen]; dsimp only at hx1; omega)
                        have hj0 : (0 : Int) ≤ (j : Int) := Int.natCast_nonneg _
                        have hj1 : (j : Int) < (L : Int) := by omega
                        have hQn := hQ.put hbl sx
                        have hst := DiskS.layAll_step hz fm
                        dsimp only at hst hx0 hx1
                        rw [Int.toNat_natCast] at hst
                        rw [hst] at hQn
                        clear hst hmm hbk
                        go_upto_block 5 with fail
                        go_cut [] (fun wx => Quad w wx F7 G7 g d2 B (.slice (some a1) L c4) (.slice (some a2) L c6) (DiskS.layAll ((ats'.zip bss').take (j + 1)) fm) ats' bss')
                        case first =>
                          go_wp2_with fail
                          go_region
                          all_goals
                            go_wp2_with fail
                            go_meet
                            exact hQn.fresh ((Keep.refl _ _).drew)
                        case rest =>
                          go_wp2
                          go_roundw
                          case rel => exact ⟨j + 1, by omega, by go_num, hcut⟩
                          case measure => simp [intOf]; omega
                      · obtain rfl : j = L := by omega
                        have hQe := hQ.nils
                        rw [List.take_of_length_le (by rw [List.length_zip]; omega)] at hQe
                        go_wp2
                        refine ⟨?_, ?_⟩
                        · (repeat apply Exists.intro)
                          (repeat apply Exists.intro)
                          (repeat apply Exists.intro)
                          (repeat apply Exists.intro)
                          exact ⟨⟨k + 1, cnt + 1 + 1, _, _, d2, _, _, _, by omega, by go_num, by go_num, hbk, hQe⟩, rfl⟩
                        · simp [intOf]; omega
                  · obtain ⟨hf1, hd2⟩ := hd1.flushGone hc2
                    obtain ⟨d2, hdd2⟩ : ∃ d2, d1.flush.2 = d2 := ⟨_, rfl⟩
                    rw [hdd2] at hd2
                    have HD2 := Lib.hid hdd2; clear hdd2
                    have HF2 := Lib.hid hf1; clear hf1
                    have hc2' : decide ((cnt : Int) + 1 < (m : Int)) = false := by simp; omega
                    go_wp2_with (first | (go_at_call 13; refine (Low_calls x 6 _ (by omega) (by omega)).mono ?_; rintro e w' ⟨rfl, rfl⟩; rw [hlow.out]) | (go_at_call 16; have := hQ4; refine (hFi _).mono ?_; rintro e w5 ⟨v5, rfl, hn5⟩; obtain ⟨A5, c5, rfl, -⟩ := newB_rd hn5; obtain ⟨us, hu1, hu2⟩ := hQ4.q.bs_; have hu3 := own_keep hu1 hn5.2.1 (fun _ _ f => f)) | (go_at_call 16; refine (hFi _).mono ?_; rintro e w2 ⟨v2, rfl, hn2⟩; obtain ⟨A2, c2, rfl, r2, far2, -⟩ := newB_rd_far hn2 hQ.ses.at_.low; have hQ2 := hQ.fresh hn2.2.1) | (go_at_call 15; refine (Write_calls hQ2.ses.at_ hok s r2 far2 hwl hwl2).mono ?_; rintro e w3 ⟨rfl, hA3, k3⟩; rw [HD1.out] at hA3; rw [HW1.out]; have hQ3 := hQ2.op hA3 k3) | (at_builtin; refine app_bytes (xs := us) rfl _ _ rfl (hu3.alloc _) rfl (Rd.lit' _ [.slice A5 128 c5] _ 1 1 w5.heap.size rfl rfl (by omega)) rfl (by simp [Value.oneCell']) (by omega) ?_; intro v6 w6 ho6 hg6 hb6; obtain ⟨A6, c6, rfl⟩ := ho6.shape; obtain ⟨q6, k6⟩ := hQ4.q.appB hn5 ⟨us, rfl, hu1, hu2⟩ ho6 hg6 hb6; have hQ6 := hQ4.mine q6 k6) | (at_builtin; refine app_int (l := ats) rfl _ _ rfl (hQ3.q.at_.alloc _) rfl (Rd.one' _ _ _ _ w3.heap.size rfl) rfl (by omega) ?_; intro v4 w4 ho4 hg4 hb4; obtain ⟨A4, c4, rfl⟩ := ho4.shape; obtain ⟨q4, k4⟩ := hQ3.q.appA ho4 hg4 hb4; have hQ4 := hQ3.mine q4 k4) | (go_at_call 25; refine (Flush_calls hQ6.ses.at_ hok1 hfl0.1 hfl0.2).mono ?_; rintro e w7 ⟨rfl, hA7, k7⟩; rw [HD2.out] at hA7; rw [HF2.out]; have hQ7 := hQ6.same hA7 k7))
                    all_goals first
                      | (go_meet
                         exact ⟨_, _, d2, fm, _, _, cnt + 1, by go_num, by omega, hQ7, .inr (hd2.more (by omega))⟩)
                      | (refine ⟨?_, ?_⟩
                         · (repeat apply Exists.intro)
                           (repeat apply Exists.intro)
                           (repeat apply Exists.intro)
                           (repeat apply Exists.intro)
                           exact ⟨⟨k + 1, cnt + 1, _, _, d1, fm, _, _, by omega, by go_num, by go_num, hd1.more (by omega), hQ6⟩, rfl⟩
                         · simp [intOf]; omega)
                · obtain ⟨hw1, hd1⟩ := hd.writeGone hs6 hyl hc
                  obtain ⟨d1, hdd1⟩ : ∃ d1, (d.write s y).2 = d1 := ⟨_, rfl⟩
                  rw [hdd1] at hd1
                  have HD1 := Lib.hid hdd1; clear hdd1
                  have HW1 := Lib.hid hw1; clear hw1
                  have hc' : decide ((cnt : Int) < (m : Int)) = false := by simp; omega
                  go_wp2_with (first | (go_at_call 13; refine (Low_calls x 6 _ (by omega) (by omega)).mono ?_; rintro e w' ⟨rfl, rfl⟩; rw [hlow.out]) | (go_at_call 16; refine (hFi _).mono ?_; rintro e w2 ⟨v2, rfl, hn2⟩; obtain ⟨A2, c2, rfl, r2, far2, -⟩ := newB_rd_far hn2 hQ.ses.at_.low; have hQ2 := hQ.fresh hn2.2.1) | (go_at_call 15; refine (Write_calls hQ2.ses.at_ hok s r2 far2 hwl hwl2).mono ?_; rintro e w3 ⟨rfl, hA3, k3⟩; rw [HD1.out] at hA3; rw [HW1.out]; have hQ3 := hQ2.op hA3 k3))
                  go_meet
                  exact ⟨_, _, d1, fm, ats, bss, cnt, rfl, hcm, hQ3, .inr (hd1.more (by omega))⟩
              · go_wp2
                go_meet
                exact ⟨_, _, d, fm, ats, bss, cnt, rfl, hd.le, hQ, .inl hd.onE⟩
          case rest =>
            obtain ⟨F, G, d, fm, ats, bss, cnt, rfl, hcm, hQ, hon⟩ := hcut
            have hcm' : (cnt : Int) ≤ (m : Int) := by omega
            clear hQ1 hd0 hr
            rcases hon with hon | hdk
            · have HO := Lib.hid hon; clear hon
              clear hk
              go_wp2_with (first | (go_at_call 26; refine (On_calls hQ.ses.at_).mono ?_; rintro e w' ⟨rfl, rfl⟩; rw [HO.out]) | (go_at_call 12; refine (awake_calls _).mono ?_; rintro e w' ⟨rfl, hka⟩))
              go_ret
              exact ⟨rfl, hQ.ses.kept.trans hka (fun _ _ f => f)⟩
            · have HO := Lib.hid hdk.onE
              obtain ⟨A4, c4, rfl⟩ := hQ.q.at_.shape
              obtain ⟨us, hu, -⟩ := hQ.q.bs_
              obtain ⟨A6, c6, rfl⟩ := hu.shape
              clear hu
              obtain ⟨L, hL⟩ : ∃ L, ats.length = L := ⟨_, rfl⟩
              have hL2 : bss.length = L := by have := hdk.pair; omega
              have hfw := hdk.few
              rw [hL, hL2] at hQ
              rw [hL, hL2]
              rw [hL] at hfw
              go_wp2_with (first | (go_at_call 26; refine (On_calls hQ.ses.at_).mono ?_; rintro e w' ⟨rfl, rfl⟩; rw [HO.out]))
              go_loopw [20] (fun i wr => ∃ j : Nat, j ≤ L ∧ i = .int .i64 j ∧ Quad w wr F G g d B (.slice A4 L c4) (.slice A6 L c6) (DiskS.layKept keep 0 ((ats.zip bss).take j) fm) ats bss) (fun i _ => L - (intOf i).toNat)
              case atStart => exact ⟨0, Nat.zero_le _, rfl, hQ⟩
              case round =>
                clear hQ
                obtain ⟨j, hj, rfl, hQ⟩ := hrel
                by_cases hjl : j < L
                · obtain ⟨a1, a2, xx, X, mm, cc, l, rfl, rfl, ca1, ca2, hbl, hz⟩ := hQ.pair hL hL2 hjl
                  obtain ⟨hx0, hx1, -⟩ := hdk.mem _ (List.mem_of_getElem? hz)
                  obtain ⟨sx, rfl⟩ := Int.eq_ofNat_of_zero_le hx0
                  obtain ⟨A1, m1, c1, hc1, hf1⟩ := hQ.q.arrAt (k := sx) (by rw [DiskS.layKept_length, hdk.len]; dsimp only at hx1; omega)
                  have hj0 : (0 : Int) ≤ (j : Int) := Int.natCast_nonneg _
                  have hj1 : (j : Int) < (L : Int) := by omega
                  have hjz : j < (ats.zip bss).length := by rw [List.length_zip]; omega
                  dsimp only at hx0 hx1
                  have hkr := hk.fresh hQ.ses.kept
                  by_cases hzk : kn = 0
                  · have hlast : DiskS.lasts keep j = false := by simp [DiskS.lasts, hkl, hzk]
                    have hst := DiskS.layKept_not hjz keep fm hlast
                    rw [hst] at hQ
                    subst hzk
                    clear hst hdk hk
                    go_wp2
                    go_roundw
                    case rel => exact ⟨j + 1, by omega, by go_num, hQ⟩
                    case measure => simp [intOf]; omega
                  · obtain ⟨ka, rfl, hkc⟩ := hkr.boolAt (k := j % kn) (Nat.mod_lt _ (by omega))
                    have hz1 : (1 : Int) ≤ (kn : Int) := by omega
                    have hz0 : (0 : Int) < (kn : Int) := by omega
                    have hm0 : (0 : Int) ≤ (j : Int) % (kn : Int) := Int.emod_nonneg _ (by omega)
                    have hm1 : (j : Int) % (kn : Int) < (kn : Int) := Int.emod_lt_of_pos _ (by omega)
                    have hlast : DiskS.lasts keep j = keep.getD (j % kn) false := by simp [DiskS.lasts, hkl]; omega
                    obtain ⟨bb, hbb⟩ : ∃ b, b = keep.getD (j % kn) false := ⟨_, rfl⟩
                    rw [← hbb] at hkc hlast
                    clear hbb
                    cases bb with
                    | false =>
                      have hst := DiskS.layKept_not hjz keep fm hlast
                      rw [hst] at hQ
                      clear hst hdk hlast
                      go_wp2
                      go_roundw
                      case rel => exact ⟨j + 1, by omega, by go_num, hQ⟩
                      case measure => simp [intOf]; omega
                    | true =>
                      have hQn := hQ.put hbl sx
                      have hst := DiskS.layKept_yes hz keep fm hlast
                      dsimp only at hst
                      rw [Int.toNat_natCast] at hst
                      rw [hst] at hQn
                      clear hst hdk hlast
                      go_wp2
                      go_region
                      all_goals go_wp2
                      all_goals go_roundw
                      all_goals first
                        | exact ⟨j + 1, by omega, by go_num, hQn.fresh ((Keep.refl _ _).drew)⟩
                        | (simp [intOf]; omega)
                · obtain rfl : j = L := by omega
                  rw [List.take_of_length_le (by rw [List.length_zip]; omega), ← hdk.firmE] at hQ
                  obtain ⟨hr1, hr2⟩ := hdk.row_
                  obtain ⟨hb0, hbok, hbw, hbws, hbwr⟩ := hdk.back (by omega) (DiskS.fillL_len 1 128)
                  obtain ⟨db, hdb⟩ : ∃ db, d.boot.2 = db := ⟨_, rfl⟩
                  rw [hdb] at hbok hbw hbws hbwr
                  have HDB := Lib.hid hdb; clear hdb
                  have HB0 := Lib.hid hb0; clear hb0
                  have HWR := Lib.hid hbwr; clear hbwr
                  have hbw1 : db.waits.length ≤ 1000000 := by rw [hbw]; simp
                  have hbw2 : db.writes.length ≤ 1000000 := by omega
                  have hl1 : d.firm.length ≤ 1000000 := by omega
                  have hl2 : ∀ l ∈ d.firm, l.length ≤ 1000000 := fun l hl => by rw [hr2 l hl]; omega
                  have HR1 := Lib.hid hr1
                  have hFi : ∀ w, Calls Try.prog 16 #[.int .i64 1, .int .i64 128] w fun e w' => ∃ v, e = .returned v ∧ NewB w w' 5 .u8 v 128 (fillL 1 128) := fun w => Fill_calls 1 128 w (by omega) (by omega)
                  have hQd := hQ.fresh ((Keep.refl (fun _ => False) _).drew)
                  clear hr1 hr2 hbw hbws hdk hQ hk
                  go_wp2_with fail
                  go_region_with (first | (go_at_call 19; refine (Image_calls hQd.ses.at_ hl1 hl2).mono ?_; rintro e w2 ⟨v2, vs2, rfl, hn2⟩; have hQ2 := hQd.fresh hn2.2.2.1; have hrd2 := RdL.of_all2 hn2.2.1; have hno2 := hn2.1; obtain ⟨vsT, hrT, hlT⟩ := hQ2.q.rdl hl1; rw [HR1.out] at hrd2 hno2 hrT hlT; obtain ⟨A2, c2, rfl, -, hr2⟩ := Own.rd hno2) | (go_at_call 18; refine (SameParts_yes _ hr2 hrT hrd2 hlT rfl).mono ?_; rintro e w3 ⟨rfl, D3⟩; have hQ3 := hQ2.fresh D3.fresh) | (go_at_call 21; refine (Boot_calls hQ3.ses.at_).mono ?_; rintro e w4 ⟨rfl, hA4, k4⟩; rw [HDB.out] at hA4; rw [HB0.out]; have hQ4 := hQ3.same hA4 k4) | (go_at_call 16; refine (hFi _).mono ?_; rintro e w5 ⟨v5, rfl, hn5⟩; obtain ⟨A5, c5, rfl, r5, far5, -⟩ := newB_rd_far hn5 hQ4.ses.at_.low; have hQ5 := hQ4.fresh hn5.2.1) | (go_at_call 15; refine (Write_calls hQ5.ses.at_ hbok 0 r5 far5 hbw1 hbw2).mono ?_; rintro e w6 ⟨rfl, hA6, k6⟩; rw [HWR.out]; have hQ6 := hQ5.op hA6 k6) | (go_at_call 12; refine (awake_calls _).mono ?_; rintro e w7 ⟨rfl, k7⟩))
                  all_goals
                    go_wp2_with fail
                    go_ret
                    exact ⟨rfl, hQ6.ses.kept.trans k7 (fun _ _ f => f)⟩
    · have hb2 : ((kn : Int)) > 20 := by omega
      go_enter Try.func4, Try.ntmps4
      go_wp2_with (first | (go_at_call 12; refine (awake_calls _).mono ?_; rintro e w' ⟨rfl, hk⟩))
      go_ret
      exact ⟨rfl, hk⟩
  · go_enter Try.func4, Try.ntmps4
    go_wp2_with (first | (go_at_call 12; refine (awake_calls _).mono ?_; rintro e w' ⟨rfl, hk⟩))
    go_ret
    exact ⟨rfl, hk⟩
end Go.Proofs.Ytfmfedfalljokaa
