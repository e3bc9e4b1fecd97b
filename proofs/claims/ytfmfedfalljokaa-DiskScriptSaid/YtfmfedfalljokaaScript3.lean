/-
  DiskScript: the walk.
-/
import Derived.Test.YtfmfedfalljokaaScript2
namespace Go.Proofs.Ytfmfedfalljokaa
open Go.RowKit

theorem done_calls {w0 w : World} {F G : Nat → Prop} {g g' n k : Nat} {d : DiskS} (h : Twin w0 w F G g d g') (hi : d.Inv n k) (hk : k ≤ 1000) (x : ActS) (hx : x.Ok w0) (hkn : x.kn ≤ 20) :
    Calls Try.prog 32 #[ptr g, ptr g', .agg #[.int .i64 x.do_, .int .i64 x.at_, .int .i64 x.n, .bool x.short, .slice x.kA x.kn x.kc]] w (DonePost w0 g g' (d.act x)) := by
  obtain ⟨o, a, m, s, kA, kn, kc, keep⟩ := x
  unfold DiskS.act
  dsimp only
  by_cases h0 : o = 0
  · subst h0; exact done_read h hi hk a m s _
  by_cases h1 : o = 1
  · subst h1; exact done_write h hi hk a m s _
  by_cases h2 : o = 2
  · subst h2; exact done_flush h hi hk a m s _
  by_cases h3 : o = 3
  · subst h3; exact done_arm h a m s hx.keep hkn
  by_cases h4 : o = 4
  · subst h4; exact done_crash h hi a m s hx.keep
  by_cases h5 : o = 5
  · subst h5; exact done_boot h a m s _
  rw [if_neg h0, if_neg h1, if_neg h2, if_neg h3, if_neg h4, if_neg h5]
  exact done_none h o a m s _ (by simpa using h0) (by simpa using h1) (by simpa using h2) (by simpa using h3) (by simpa using h4) (by simpa using h5)

/-- What an act's answers are, while they are written over: the rows from the j-th on are as they were. -/
structure Answers (w0 wi w : World) (F G : Nat → Prop) (g : Nat) (d : DiskS) (g' : Nat) (v av bv : Value) (vs : List Value) (la lb : List Int) (na nb j : Nat) : Prop where
  twin : Twin w0 w F G g d g'
  own : Own w 28 1 v d.firm.length vs
  rows : ∀ t y l, j ≤ t → vs[t]? = some y → d.firm[t]? = some l → Own w 5 1 y l.length (iv .u8 l)
  a : Own w 3 1 av na (iv .i64 la)
  b : Own w 3 1 bv nb (iv .i64 lb)
  farV : ∀ y ∈ vs, ∀ k, y.ownBlock = some k → ¬ F k ∧ ¬ G k ∧ w0.heap.size ≤ k
  farA : ∀ k, av.ownBlock = some k → ¬ F k ∧ ¬ G k ∧ w0.heap.size ≤ k
  farB : ∀ k, bv.ownBlock = some k → ¬ F k ∧ ¬ G k ∧ w0.heap.size ≤ k
  apart : ApartL vs
  ab : ∀ k, av.ownBlock = some k → bv.ownBlock ≠ some k
theorem Answers.fresh {w0 wi w w' : World} {F G : Nat → Prop} {g g' : Nat} {d : DiskS} {v av bv : Value} {vs : List Value} {la lb : List Int} {na nb j : Nat} (h : Answers w0 wi w F G g d g' v av bv vs la lb na nb j) (hk : Fresh w w') : Answers w0 wi w' F G g d g' v av bv vs la lb na nb j :=
  ⟨h.twin.fresh hk, own_keep h.own hk (fun _ _ f => f), fun t y l ht hy hl => own_keep (h.rows t y l ht hy hl) hk (fun _ _ f => f), own_keep h.a hk (fun _ _ f => f), own_keep h.b hk (fun _ _ f => f), h.farV, h.farA, h.farB, h.apart, h.ab⟩
theorem Answers.start {w0 w1 w2 w3 w4 : World} {F G : Nat → Prop} {g g' : Nat} {d : DiskS} {v av bv : Value} {vs : List Value} {la lb : List Int} {na nb : Nat} (h : Twin w0 w1 F G g d g') (hI : NewL w1 w2 v vs d.firm) (hap : ApartL vs) (hA : NewB w2 w3 3 .i64 av na la) (hB : NewB w3 w4 3 .i64 bv nb lb) :
    Answers w0 w1 w4 F G g d g' v av bv vs la lb na nb 0 := by
  have h2 := h.fresh hI.2.2.1
  have h3 := h2.fresh hA.2.1
  have s2 := hI.2.2.1.size
  have s3 := hA.2.1.size
  have kk : Fresh w2 w4 := hA.2.1.trans hB.2.1 (fun _ _ f => f)
  refine ⟨h3.fresh hB.2.1, own_keep hI.1 kk (fun _ _ f => f), fun t y l _ hy hl => own_keep (hI.2.1.2 t y l hy hl).1 kk (fun _ _ f => f), own_keep hA.1 hB.2.1 (fun _ _ f => f), hB.1, fun y hy k e => ?_, fun k e => h2.far (hA.2.2 k e), fun k e => h3.far (hB.2.2 k e), hap, fun k e e' => ?_⟩
  · obtain ⟨t, ht⟩ := List.getElem?_of_mem hy
    have hl : t < d.firm.length := by rw [← hI.2.1.1]; exact (List.getElem?_eq_some_iff.1 ht).1
    exact h.far ((hI.2.1.2 t y _ ht (List.getElem?_eq_getElem hl)).2 k e)
  · have := own_lt hA.1 e
    have := hB.2.2 k e'
    omega
theorem Answers.row {w0 wi w w' : World} {F G : Nat → Prop} {g g' : Nat} {d : DiskS} {v av bv : Value} {vs : List Value} {la lb : List Int} {na nb j : Nat} (h : Answers w0 wi w F G g d g' v av bv vs la lb na nb j) {y : Value} {l : List Int} (hy : vs[j]? = some y) (hl : d.firm[j]? = some l) (hk : Keep (fun b => y.ownBlock = some b) w w') :
    Answers w0 wi w' F G g d g' v av bv vs la lb na nb (j + 1) := by
  have ho := h.rows j y l (Nat.le_refl _) hy hl
  have kk : Keep (OfType w 5) w w' := hk.mono fun b _ e => own_ofType ho e
  refine ⟨h.twin.other hk (fun b e => h.farV y (List.mem_of_getElem? hy) b e), own_ty h.own kk (by decide), fun t z l' ht hz hl' => ?_, own_ty h.a kk (by decide), own_ty h.b kk (by decide), h.farV, h.farA, h.farB, h.apart, h.ab⟩
  exact own_keep (h.rows t z l' (by omega) hz hl') hk (fun k e e' => h.apart t j z y k (by omega) hz hy e e')
theorem Answers.ints {w0 wi w w' : World} {F G : Nat → Prop} {g g' : Nat} {d : DiskS} {v av bv : Value} {vs : List Value} {la lb : List Int} {na nb j : Nat} (h : Answers w0 wi w F G g d g' v av bv vs la lb na nb j) (hk : Keep (fun b => av.ownBlock = some b) w w') :
    Twin w0 w' F G g d g' ∧ Own w' 3 1 bv nb (iv .i64 lb) :=
  ⟨h.twin.other hk (fun b e => h.farA b e), own_keep h.b hk (fun k e e' => h.ab k e' e)⟩

theorem heldR {F : Nat → Prop} {w : World} {g : Nat} {d : DiskS} {fv wv kv rv : Value} {left : Int} {fvs : List Value} {ws : List (Int × Value)} (h : RefIn F w g d fv wv kv rv left fvs ws) {b : Bool} (hb : d.on = b) :
    w.cell? ⟨g, 0, none⟩ = some fv ∧ w.cell? ⟨g, 2, none⟩ = some (.bool (!b)) ∧ w.cell? ⟨g, 4, none⟩ = some (.int .i64 d.flushes) ∧ w.cell? ⟨g, 6, none⟩ = some rv := ⟨h.cells.1, by rw [← hb]; exact h.cells.2.2.1, h.cells.2.2.2.2.1, h.cells.2.2.2.2.2.2⟩
theorem SameInts_same (w : World) {A1 A2 : Option Addr} {n1 n2 c1 c2 : Nat} {l : List Int} (h1 : Rd w 1 A1 n1 (iv .i64 l)) (h2 : Rd w 1 A2 n2 (iv .i64 l)) :
    Calls Try.prog 33 #[.slice A1 n1 c1, .slice A2 n2 c2] w fun e w' => e = .returned (.bool true) ∧ Drawn w w' := SameInts_yes w h1 h2 rfl

set_option maxRecDepth 100000 in
set_option maxHeartbeats 4000000 in
theorem DiskScript_calls (w : World) (sec : Int) {A : Option Addr} {len c : Nat} {l : List ActS} (hacts : IsActs w A len l) :
    Calls Try.prog 7 #[.int .i64 sec, .slice A len c] w fun e w' => e = .returned (.bool true) ∧ Fresh w w' := by
  have hle := hacts.leE
  have hll := hacts.lenE
  have HLL := Lib.hid hll; clear hll
  by_cases hbig : len ≤ 60
  · by_cases hs12 : sec ≤ 12
    · by_cases hs1 : 1 ≤ sec
      · obtain ⟨n, rfl⟩ := Int.eq_ofNat_of_zero_le (show 0 ≤ sec by omega)
        have hn0 : 1 ≤ n := by omega
        have hn1 : n ≤ 12 := by omega
        have hN : ∀ w, Calls Try.prog 14 #[.int .i64 n] w fun e w' => ∃ g, e = .returned (ptr g) ∧ w.heap.size ≤ g ∧ DiskAt (fun b => w.heap.size ≤ b ∧ b < w'.heap.size) w' g (DiskS.new n) ∧ Fresh w w' := fun w => New_calls n w (by omega) (by omega)
        have hR : ∀ w, Calls Try.prog 31 #[.int .i64 n] w (RMadePost n w) := fun w => RNew_calls n w (by omega) (by omega)
        go_enter Try.func7, Try.ntmps7
        go_wp2_with (first | (go_at_call 14; refine (hN _).mono ?_; rintro e w1 ⟨g, rfl, -, hA1, k1⟩) | (go_at_call 31; refine (hR _).mono ?_; rintro e w2 ⟨g', rfl, -, hA2, k2⟩))
        have hT0 : Twin w w2 (fun b => w.heap.size ≤ b ∧ b < w1.heap.size) (fun b => w1.heap.size ≤ b ∧ b < w2.heap.size) g (DiskS.new n) g' :=
          ⟨hA1.fresh k2, hA2, fun b hb hb' => by omega, fun b hb => hb.1, fun b hb => Nat.le_trans k1.size hb.1, k1.trans k2 (fun _ _ f => f)⟩
        clear hA1 hA2 k1 k2
        go_loopw [7] (fun i wr => ∃ (k : Nat) (F G : Nat → Prop) (d : DiskS), k ≤ len ∧ i = .int .i64 k ∧ Twin w wr F G g d g' ∧ d.Inv n k) (fun i _ => len - (intOf i).toNat)
        case atStart => exact ⟨0, _, _, _, Nat.zero_le _, rfl, hT0, DiskS.Inv.new n⟩
        case round =>
          clear hT0
          obtain ⟨k, F, G, d, hk, rfl, hT, hi⟩ := hrel
          by_cases hlt : k < len
          · obtain ⟨ad, rfl, hcs⟩ := (hacts.fresh hT.kept).cells (by omega)
            have hxk : k < l.length := by rw [HLL.out]; exact hlt
            obtain ⟨x, hx⟩ : ∃ x, l[k]? = some x := ⟨_, List.getElem?_eq_getElem hxk⟩
            have hxo := hacts.ok x (List.mem_of_getElem? hx)
            have e0 := hcs k x hx 0 _ rfl
            have e1 := hcs k x hx 1 _ rfl
            have e2 := hcs k x hx 2 _ rfl
            have e3 := hcs k x hx 3 _ rfl
            have e4 := hcs k x hx 4 _ rfl
            rw [← add_of_add] at e0 e1 e2 e3 e4
            have e0' : wr.cell? (ad.add (k * 5)) = some (.int .i64 x.do_) := e0
            have e1' : wr.cell? ⟨(ad.add (k * 5)).block, (ad.add (k * 5)).off + 1, none⟩ = some (.int .i64 x.at_) := e1
            have e2' : wr.cell? ⟨(ad.add (k * 5)).block, (ad.add (k * 5)).off + 2, none⟩ = some (.int .i64 x.n) := e2
            have e3' : wr.cell? ⟨(ad.add (k * 5)).block, (ad.add (k * 5)).off + 3, none⟩ = some (.bool x.short) := e3
            have e4' : wr.cell? ⟨(ad.add (k * 5)).block, (ad.add (k * 5)).off + 4, none⟩ = some (.slice x.kA x.kn x.kc) := e4
            have hi0 : (0 : Int) ≤ (k : Int) := Int.natCast_nonneg _
            have hi1 : (k : Int) < (len : Int) := by omega
            clear hcs hx
            by_cases hkn : x.kn ≤ 20
            · have hdone := done_calls hT hi (by omega) x hxo hkn
              have hi' := hi.act x hxo.n
              obtain ⟨D, hD⟩ : ∃ D, d.act x = D := ⟨_, rfl⟩
              rw [hD] at hdone hi'
              clear hD e0 e1 e2 e3 e4
              have hflen : D.firm.length ≤ 1000000 := by rw [hi'.len]; omega
              have hfrow : ∀ l ∈ D.firm, l.length ≤ 1000000 := fun l hl => by rw [hi'.sec.1 l hl]; omega
              have hwl : D.waits.length ≤ 1000000 := by have := hi'.waits; omega
              have hwl2 : D.writes.length ≤ 1000000 := by have := hi'.writes; omega
              have HI := Lib.hid hi'
              have HFR := Lib.hid hfrow
              clear hi' hfrow
              go_upto_region 16 with (first | (go_at_call 32; refine hdone.mono ?_; rintro e w1 ⟨rfl, F1, G1, hT1⟩) | (go_at_call 19; refine (Image_apart hT1.disk hflen HFR.out).mono ?_; rintro e w2 ⟨v2, vs2, rfl, hn2, hap2⟩; obtain ⟨B2, m2, rfl⟩ := hn2.1.shape; have hT2 := hT1.fresh hn2.2.2.1) | (go_at_call 27; refine (Waiting_calls hT2.disk hwl).mono ?_; rintro e w3 ⟨v3, rfl, hn3⟩; obtain ⟨B3, m3, rfl⟩ := hn3.1.shape; have hT3 := hT2.fresh hn3.2.1) | (go_at_call 20; refine (Writes_calls hT3.disk hwl2).mono ?_; rintro e w4 ⟨v4, rfl, hn4⟩; obtain ⟨B4, m4, rfl⟩ := hn4.1.shape))
              have hA := (Answers.start hT1 hn2 hap2 hn3 hn4).fresh ((Keep.refl (fun _ => False) w4).drew)
              obtain ⟨A2, c2, e2, hc2, hr2⟩ := Own.rd hA.own
              cases e2
              obtain ⟨A3, c3, e3, hc3, hr3⟩ := Own.rd hA.a
              cases e3
              obtain ⟨A4, c4, e4, hc4, hr4⟩ := Own.rd hA.b
              cases e4
              have hl2 : RdL w4.drew D.firm.length vs2 D.firm := (RdL.of_all2 hn2.2.1).fresh ((hn3.2.1.trans hn4.2.1 (fun _ _ f => f)).drew)
              obtain ⟨fv, wv, kv, rv, left, fvs, ws, hR⟩ := hA.twin.ref
              obtain ⟨A5, c5, rfl, hc5, hr5⟩ := Own.rd hR.firm
              have hl5 := RdL.of_all2 hR.firms
              obtain ⟨A6, c6, rfl, hc6, hr6⟩ := Own.rd hR.writes
              obtain ⟨bo, hbo⟩ : ∃ b, D.on = b := ⟨_, rfl⟩
              have HBO := Lib.hid hbo
              have hS4 := heldR hR hbo
              have hq1 : (bo == !bo) = false := by cases bo <;> rfl
              have hq2 : decide (bo = !bo) = false := by cases bo <;> rfl
              clear hT hT2 hT3 hdone hn2 hn3 hn4 hap2 hbo
              go_region_held3 (fun w' => w'.cell? ⟨g', 0, none⟩ = some (.slice A5 D.firm.length c5) ∧ w'.cell? ⟨g', 2, none⟩ = some (.bool (!bo)) ∧ w'.cell? ⟨g', 4, none⟩ = some (.int .i64 D.flushes) ∧ w'.cell? ⟨g', 6, none⟩ = some (.slice A6 D.writes.length c6)) (first | assumption | go_keep) (first | (go_at_call 18; refine (SameParts_yes _ hr2 hr5 hl2 hl5 rfl).mono ?_; rintro e w5 ⟨rfl, D5⟩; have hA5 := hA.fresh D5.fresh; have hR5 := hR.keep D5.fresh (fun _ _ f => f); have hS5 := heldR hR5 HBO.out) | (go_at_call 34; refine (RWaiting_calls hA5.twin.ref hwl).mono ?_; rintro e w6 ⟨v6, rfl, hn6⟩; obtain ⟨B6, m6, rfl, r6⟩ := newB_rd hn6; have hA6 := hA5.fresh hn6.2.1; have hR6 := hR5.keep hn6.2.1 (fun _ _ f => f); have hS6 := heldR hR6 HBO.out; have r36 := (hr3.fresh D5.fresh).fresh hn6.2.1) | (go_at_call 33; have := hS7; refine (SameInts_same _ ((((hr4.fresh D5.fresh).fresh hn6.2.1).fresh D7.fresh)) (((hr6.fresh D5.fresh).fresh hn6.2.1).fresh D7.fresh)).mono ?_; rintro e w8 ⟨rfl, D8⟩; have hA8 := hA7.fresh D8.fresh; have hS8 := heldR (hR7.keep D8.fresh (fun _ _ f => f)) HBO.out) | (go_at_call 33; refine (SameInts_same _ r36 r6).mono ?_; rintro e w7 ⟨rfl, D7⟩; have hA7 := hA6.fresh D7.fresh; have hR7 := hR6.keep D7.fresh (fun _ _ f => f); have hS7 := heldR hR7 HBO.out) | (go_at_call 28; refine (Flushes_calls hA8.twin.disk).mono ?_; rintro e w' ⟨rfl, rfl⟩) | (go_at_call 26; refine (On_calls hA8.twin.disk).mono ?_; rintro e w' ⟨rfl, rfl⟩; rw [HBO.out]))
              go_wp2_with fail
              clear hA hA5 hA6 hA7 hR hR5 hR6 hR7 hS4 hS5 hS6 hS7 hS8 hr2 hr3 hr4 hr5 hr6 hl2 hl5 r36 r6 hn6 D5 D7 D8
              have hq3 : D.firm.length = n := HI.out.len
              rw [hq3]
              go_loopw [11] (fun i wq => ∃ j : Nat, j ≤ n ∧ i = .int .i64 j ∧ Answers w w1 wq F1 G1 g D g' (.slice B2 D.firm.length m2) (.slice B3 D.waits.length m3) (.slice B4 D.writes.length m4) vs2 (D.waits.map (·.1)) D.writes D.waits.length D.writes.length j) (fun i _ => n - (intOf i).toNat)
              case atStart => exact ⟨0, Nat.zero_le _, rfl, hA8⟩
              case round =>
                clear hA8
                obtain ⟨j, hj, rfl, hA⟩ := hrel
                by_cases hjl : j < n
                · obtain ⟨ad2, e2, y, hy, hcy⟩ := (Rd.of_own hA.own).at_ (k := j) (by omega)
                  cases e2
                  have hlj : j < D.firm.length := by omega
                  obtain ⟨lj, hlj⟩ : ∃ lj, D.firm[j]? = some lj := ⟨_, List.getElem?_eq_getElem hlj⟩
                  have hrow := hA.rows j y lj (Nat.le_refl _) hy hlj
                  have hl128 : lj.length ≤ 1000000 := HFR.out lj (List.mem_of_getElem? hlj)
                  obtain ⟨By, cy, rfl⟩ := hrow.shape
                  have HY := Lib.hid hy
                  have HLJ := Lib.hid hlj
                  have hj0 : (0 : Int) ≤ (j : Int) := Int.natCast_nonneg _
                  have hj1 : (j : Int) < (n : Int) := by omega
                  clear hy hlj hq3
                  go_wp2_with (first | (go_at_call 35; refine (OverBytes_calls _ hrow hl128).mono ?_; rintro e wv ⟨rfl, kv⟩; have hA' := hA.row HY.out HLJ.out kv))
                  go_roundw
                  case rel => exact ⟨j + 1, by omega, by go_num, hA'⟩
                  case measure => simp [intOf]; omega
                · clear hq3
                  go_wp2_with (first | (go_at_call 36; have := hT8; refine (OverInts_calls _ hO8 hwl2).mono ?_; rintro e wu ⟨rfl, ku⟩; have hT9 := hT8.other ku (fun b e => hA.farB b e)) | (go_at_call 36; refine (OverInts_calls _ hA.a hwl).mono ?_; rintro e wv ⟨rfl, kv⟩; obtain ⟨hT8, hO8⟩ := hA.ints kv))
                  go_roundw
                  case rel => exact ⟨k + 1, F1, G1, D, by omega, by go_num, hT9, HI.out⟩
                  case measure => simp [intOf]; omega
            · go_wp2_with (first | (go_at_call 12; refine (awake_calls _).mono ?_; rintro e w' ⟨rfl, hk⟩))
              go_ret
              exact ⟨rfl, hT.kept.trans hk (fun _ _ f => f)⟩
          · obtain rfl : k = len := by omega
            go_wp2_with (first | (go_at_call 30; refine (Sectors_calls hT.disk).mono ?_; rintro e w' ⟨rfl, rfl⟩; rw [hi.len]) | (go_at_call 12; refine (awake_calls _).mono ?_; rintro e w3 ⟨rfl, k3⟩))
            go_ret
            exact ⟨rfl, hT.kept.trans k3 (fun _ _ f => f)⟩
      · have hs0 : sec < 1 := by omega
        go_enter Try.func7, Try.ntmps7
        go_wp2_with (first | (go_at_call 14; refine (New_nil _ _ (.inl hs0)).mono ?_; rintro e w' ⟨rfl, rfl⟩) | (go_at_call 31; refine (RNew_nil _ _ (.inl hs0)).mono ?_; rintro e w' ⟨rfl, rfl⟩) | (go_at_call 12; refine (awake_calls _).mono ?_; rintro e w' ⟨rfl, hk⟩))
        go_ret
        exact ⟨rfl, hk⟩
    · go_enter Try.func7, Try.ntmps7
      go_wp2_with (first | (go_at_call 12; refine (awake_calls _).mono ?_; rintro e w' ⟨rfl, hk⟩))
      go_ret
      exact ⟨rfl, hk⟩
  · go_enter Try.func7, Try.ntmps7
    go_wp2_with (first | (go_at_call 12; refine (awake_calls _).mono ?_; rintro e w' ⟨rfl, hk⟩))
    go_ret
    exact ⟨rfl, hk⟩
end Go.Proofs.Ytfmfedfalljokaa
