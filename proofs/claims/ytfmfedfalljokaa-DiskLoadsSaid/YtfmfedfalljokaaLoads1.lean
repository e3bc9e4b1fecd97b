/-
  A disk of an image: Load walked.
-/
import Derived.Test.YtfmfedfalljokaaDisk9
namespace Go.Proofs.Ytfmfedfalljokaa
open Go.RowKit

theorem DiskIn.rowSet {F : Nat → Prop} {w w' : World} {g : Nat} {d : DiskS} {fv rv : Value} {fvs : List Value} (h : DiskIn F w g d fv (.slice none 0 0) (.pointer none) rv fvs []) (hap : ApartL fvs) {i gi : Nat} {v : Value} (hv : fvs[i]? = some v) (hgi : v.ownBlock = some gi)
    {l : List Int} (ho : Own w' 5 1 v l.length (iv .u8 l)) (hk : Keep (fun b => b = gi) w w') : DiskIn F w' g { d with firm := d.firm.set i l } fv (.slice none 0 0) (.pointer none) rv fvs [] := by
  have hil : i < d.firm.length := by rw [← h.firms.1]; exact (List.getElem?_eq_some_iff.1 hv).1
  have hb := h.firms.2 i v _ hv (List.getElem?_eq_getElem hil)
  have ht := own_ofType hb.1 hgi
  have kk : Keep (OfType w 5) w w' := hk.mono fun b _ e => by subst e; exact ht
  have e1 : d.waits = [] := List.eq_nil_of_length_eq_zero h.waitss.1.symm
  have e2 : d.armed = none := by
    have := h.armed
    rcases hd : d.armed with _ | ⟨a, b⟩
    · rfl
    · rw [hd] at this
      obtain ⟨ga, kv, e, -⟩ := this
      simp at e
  refine { blk := h.blk.ty kk (by decide), fg := h.fg, inf := h.inf, inw := In.none, inr := h.inr, firm := by simpa using own_ty h.firm kk (by decide), firms := ⟨by simp [h.firms.1], fun j x y hx hy => ?_⟩
           waits := by rw [e1]; exact Own.nil _ _ _, waitss := by rw [e1]; exact All2.nil, armed := by rw [e2]; exact rfl, writes := own_ty h.writes kk (by decide), low := fun b hb => Nat.lt_of_lt_of_le (h.low b hb) hk.size }
  rw [List.getElem?_set] at hy
  by_cases hij : i = j
  · subst hij
    rw [if_pos rfl, if_pos hil] at hy
    cases hy
    rw [hv] at hx
    cases hx
    exact ⟨ho, hb.2⟩
  · rw [if_neg hij] at hy
    have r := h.firms.2 j x y hx hy
    exact ⟨own_keep r.1 hk (fun k hk' e => hap i j v x gi hij hv hx hgi (by subst e; exact hk')), r.2⟩

/-- An image of which a disk is made. -/
def goodImg (ls : List (List Int)) : Bool := decide (0 < ls.length) && ls.all fun l => decide (l.length = 128)
def LoadPost (w : World) (ls : List (List Int)) (e : Ending) (w' : World) : Prop :=
  Fresh w w' ∧ (goodImg ls = true → ∃ g, e = .returned (ptr g) ∧ w.heap.size ≤ g ∧ DiskAt (fun b => w.heap.size ≤ b ∧ b < w'.heap.size) w' g { DiskS.new ls.length with firm := ls }) ∧ (goodImg ls = false → e = .returned (.pointer none))
/-- What is laid when k sectors are. -/
def laidTo (ls : List (List Int)) (k : Nat) : List (List Int) := ls.take k ++ List.replicate (ls.length - k) (zeros 128)
theorem laidTo_len (ls : List (List Int)) (k : Nat) (h : k ≤ ls.length) : (laidTo ls k).length = ls.length := by simp [laidTo]; omega
theorem laidTo_set {ls : List (List Int)} {k : Nat} {l : List Int} (h : ls[k]? = some l) : (laidTo ls k).set k l = laidTo ls (k + 1) := by
  obtain ⟨hk, rfl⟩ := List.getElem?_eq_some_iff.1 h
  unfold laidTo
  obtain ⟨m, hm⟩ : ∃ m, ls.length - k = m + 1 := ⟨ls.length - k - 1, by omega⟩
  rw [List.set_append_right _ _ (by rw [List.length_take]; omega), List.length_take, Nat.min_eq_left (by omega), Nat.sub_self, hm, show ls.length - (k + 1) = m from by omega, List.replicate_succ, List.set_cons_zero, List.take_succ_eq_append_getElem hk, List.append_assoc]
  rfl
theorem laidTo_at {ls : List (List Int)} {k : Nat} (h : k < ls.length) : (laidTo ls k)[k]? = some (zeros 128) := by
  unfold laidTo
  rw [List.getElem?_append_right (by simp; omega), List.length_take, List.getElem?_replicate, if_pos (by omega)]
theorem LoadPost.no {w w' : World} {ls : List (List Int)} (hf : Fresh w w') (hg : goodImg ls = false) : LoadPost w ls (.returned (.pointer none)) w' := ⟨hf, (fun h => by rw [hg] at h; cases h), fun _ => rfl⟩
theorem LoadPost.yes {w w' : World} {ls : List (List Int)} {g : Nat} (hf : Fresh w w') (hg : goodImg ls = true) (hg0 : w.heap.size ≤ g) (hd : DiskAt (fun b => w.heap.size ≤ b ∧ b < w'.heap.size) w' g { DiskS.new ls.length with firm := ls }) : LoadPost w ls (.returned (ptr g)) w' :=
  ⟨hf, (fun _ => ⟨g, rfl, hg0, hd⟩), fun h => by rw [hg] at h; cases h⟩
theorem splice_all {α : Type} (L cs : List α) (n : Nat) (h1 : L.length = n) (h2 : cs.length = n) : splice L 0 (cs.take (min n n)) = cs := by
  unfold splice
  rw [Nat.min_self, List.take_of_length_le (l := cs) (by omega), List.drop_eq_nil_of_le (show L.length ≤ 0 + cs.length by omega)]
  simp
theorem bad_img {ls : List (List Int)} {k : Nat} {l : List Int} (h : ls[k]? = some l) (hl : l.length ≠ 128) : goodImg ls = false := by
  unfold goodImg
  rw [Bool.and_eq_false_iff]
  right
  rw [List.all_eq_false]
  exact ⟨l, List.mem_of_getElem? h, by simpa using hl⟩
theorem good_img {ls : List (List Int)} (h0 : 0 < ls.length) (h : ∀ j l, j < ls.length → ls[j]? = some l → l.length = 128) : goodImg ls = true := by
  unfold goodImg
  rw [Bool.and_eq_true, decide_eq_true_eq, List.all_eq_true]
  refine ⟨h0, fun l hl => ?_⟩
  obtain ⟨j, hj⟩ := List.getElem?_of_mem hl
  simpa using h j l (List.getElem?_eq_some_iff.1 hj).1 hj
theorem RdL.at_ {w : World} {n : Nat} {vs : List Value} {ls : List (List Int)} (h : RdL w n vs ls) {k : Nat} (hk : k < n) : ∃ A m c l, vs[k]? = some (.slice A m c) ∧ ls[k]? = some l ∧ m ≤ c ∧ Rd w 1 A m (iv .u8 l) := by
  obtain ⟨h1, h2, h3⟩ := h
  obtain ⟨A, m, c, e, hc, hr⟩ := h3 k hk
  have hv : vs[k]? = some vs[k] := List.getElem?_eq_getElem (by omega)
  have hl : ls[k]? = some ls[k] := List.getElem?_eq_getElem (by omega)
  simp only [List.getD_eq_getElem?_getD, hv, hl, Option.getD_some] at e hr
  exact ⟨A, m, c, _, by rw [hv, e], hl, hc, hr⟩

theorem DiskS.laid0 (ls : List (List Int)) : { DiskS.new ls.length with firm := laidTo ls 0 } = DiskS.new ls.length := by simp [DiskS.new, laidTo, zeros]
theorem DiskS.laidAll (ls : List (List Int)) : laidTo ls ls.length = ls := by simp [laidTo]

set_option maxRecDepth 100000 in
set_option maxHeartbeats 1000000 in
theorem Load_calls (w : World) {A : Option Addr} {n c : Nat} {vs : List Value} {ls : List (List Int)} (hr : Rd w 1 A n vs) (hl : RdL w n vs ls) (hn : n ≤ 20) : Calls Try.prog 29 #[.slice A n c] w (LoadPost w ls) := by
  have hll := hl.2.1
  by_cases h0 : n = 0
  · subst h0
    have hg : goodImg ls = false := by simp [goodImg, hll]
    have HG := Lib.hid hg; clear hg hll
    go_enter Try.func29, Try.ntmps29
    go_wp2_with (go_at_call 14; refine (New_nil 0 _ (by omega)).mono ?_; rintro e w' ⟨rfl, rfl⟩)
    go_ret
    exact LoadPost.no (Keep.refl _ _) HG.out
  · have hN : Calls Try.prog 14 #[.int .i64 n] w (MadePost n w) := New_apart n w (by omega) (by omega)
    have HLL := Lib.hid hll; clear hll
    have h0' : 0 < n := by omega
    clear h0
    go_enter Try.func29, Try.ntmps29
    go_wp2_with (go_at_call 14; refine hN.mono ?_; rintro e w1 ⟨g, fv, fvs, rfl, hg0, hd0, hap, hf0⟩)
    rw [← HLL.out, ← DiskS.laid0, HLL.out] at hd0
    go_loopw [13] (fun i wr => ∃ k : Nat, k ≤ n ∧ i = .int .i64 k ∧ DiskIn (fun b => w.heap.size ≤ b ∧ b < wr.heap.size) wr g { DiskS.new ls.length with firm := laidTo ls k } fv (.slice none 0 0) (.pointer none) (.slice none 0 0) fvs [] ∧ Fresh w wr ∧ (∀ j l, j < k → ls[j]? = some l → l.length = 128))
      (fun i _ => n - (intOf i).toNat)
    case atStart => exact ⟨0, Nat.zero_le _, rfl, by rw [HLL.out]; exact hd0, hf0, fun j l hj => by omega⟩
    case round =>
      clear hd0 hf0
      obtain ⟨k, hk, rfl, hd, hf, hall⟩ := hrel
      by_cases hlt : k < n
      · obtain ⟨ad, rfl, u, hu, hc⟩ := (hr.fresh hf).at_ hlt
        obtain ⟨A1, m1, c1, l1, hv1, hl1, hc1, hr1⟩ := hl.at_ hlt
        rw [hu] at hv1
        cases hv1
        have hr1 := hr1.fresh hf
        have hm1 := hr1.len
        have HL1 := Lib.hid hl1; clear hl1 hu
        have hi0 : (0 : Int) ≤ (k : Int) := Int.natCast_nonneg _
        have hi1 : (k : Int) < (n : Int) := by omega
        by_cases h128 : m1 = 128
        · subst h128
          have hkl : k < ls.length := by rw [HLL.out]; exact hlt
          obtain ⟨c0, -, -, -, -, -⟩ := hd.cells
          have hfl : Own wr 28 1 fv (laidTo ls k).length fvs := hd.firm
          rw [laidTo_len _ _ (Nat.le_of_lt hkl), HLL.out] at hfl
          obtain ⟨u0, y0, hu0, hy0, hb0⟩ := hd.firms.get (i := k) (by show k < (laidTo ls k).length; rw [laidTo_len _ _ (Nat.le_of_lt hkl)]; exact hkl)
          have hy0' : (laidTo ls k)[k]? = some y0 := hy0
          rw [laidTo_at hkl] at hy0'
          cases hy0'
          have hz : (zeros 128).length = 128 := rfl
          have hbo := hb0.1
          rw [hz] at hbo
          rcases Own.slice hbo with ⟨_, e0, _⟩ | ⟨gk, ck, rfl, hck, hgk⟩
          · omega
          rcases Own.slice hfl with ⟨_, e0, _⟩ | ⟨gf, cf, rfl, hcf, hgf⟩
          · omega
          have hcell : wr.cell? ⟨gf, k, none⟩ = some (.slice (some ⟨gk, 0, none⟩) 128 ck) := (World.ownsRow.cellAt hfl k (by omega)).trans hu0
          have HU := Lib.hid hu0; clear hu0 hy0
          have HM := Lib.hid hm1; clear hm1
          clear hz
          go_wp2_with (first | (refine wpList_copy_in rfl (.tmp 27) (.tmp 28) rfl Try.underlying28 (by kernel_rfl) hbo rfl (fun _ => rfl) (by omega) hr1 rfl (iv_one _ _) ?_; intro w2 hO2 hk2))
          go_roundw
          case rel =>
            have hO := hO2.out
            rw [splice_all _ _ 128 (by simp [zeros]) (by simp [HM.out])] at hO
            refine ⟨k + 1, by omega, by go_num, ?_, hf.trans hk2 (fun b hb e => by have h1 := (hb0.2 gk rfl).1; omega), fun j l hj hl' => ?_⟩
            · have hd2 := hd.rowSet hap HU.out rfl (l := l1) (by rw [HM.out]; exact hO) hk2
              have hs := hk2.size
              have hd3 := hd2.mono (G := fun b => w.heap.size ≤ b ∧ b < w2.heap.size) (fun b hb => ⟨hb.1, by omega⟩) (fun b hb => hb.2)
              simpa [laidTo_set HL1.out] using hd3
            · by_cases hjk : j = k
              · subst hjk
                rw [HL1.out] at hl'
                cases hl'
                exact HM.out
              · exact hall j l (by omega) hl'
          case measure => simp [intOf]; omega
        · have hb : ((m1 : Int) != 128) = true := by rw [bne_iff_ne]; omega
          have HM := Lib.hid hm1; clear hm1
          go_wp2
          go_ret
          exact LoadPost.no hf (bad_img HL1.out (by rw [HM.out]; exact h128))
      · go_wp2
        go_ret
        obtain rfl : k = n := by omega
        have hll := HLL.out
        have hgd := good_img (ls := ls) (by omega) (fun j l hj => hall j l (by omega))
        rw [← hll, DiskS.laidAll] at hd
        exact LoadPost.yes hf hgd hg0 ⟨_, _, _, _, _, _, hd⟩
end Go.Proofs.Ytfmfedfalljokaa
