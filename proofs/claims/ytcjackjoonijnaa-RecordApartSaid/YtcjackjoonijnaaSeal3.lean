/-
  Sealed sectors: bytes compared, told apart, opened: walked in both texts.
-/
import Derived.Lib.Strings
import Derived.Test.YtcjackjoonijnaaSeal2
namespace Go.Proofs.Ytcjackjoonijnaa
open Go.RowKit

/-! ### bytes as a string -/
def strOf (l : List Int) : ByteArray := ⟨(l.map fun n => UInt8.ofNat n.toNat).toArray⟩
def Bytes8 (l : List Int) : Prop := ∀ x ∈ l, 0 ≤ x ∧ x < 256
theorem sb_strOf {l : List Int} (h : Bytes8 l) : sb (strOf l) = l := by
  unfold sb strOf
  rw [List.map_map]
  conv => rhs; rw [← List.map_id l]
  refine List.map_congr_left fun x hx => ?_
  obtain ⟨h0, h1⟩ := h x hx
  simp
  omega
theorem strOf_sb (s : ByteArray) : strOf (sb s) = s := by
  unfold sb strOf
  rw [List.map_map]
  have : (List.map ((fun n : Int => UInt8.ofNat n.toNat) ∘ fun b : UInt8 => (b.toNat : Int)) s.data.toList) = s.data.toList := by
    conv => rhs; rw [← List.map_id s.data.toList]
    refine List.map_congr_left fun x _ => ?_
    simp
  rw [this]
theorem sb_range (s : ByteArray) : Bytes8 (sb s) := fun x hx => by
  simp only [sb, List.mem_map] at hx
  obtain ⟨b, _, rfl⟩ := hx
  have := b.toNat_lt
  omega
theorem strOf_inj {l1 l2 : List Int} (h1 : Bytes8 l1) (h2 : Bytes8 l2) (h : strOf l1 = strOf l2) : l1 = l2 := by rw [← sb_strOf h1, ← sb_strOf h2, h]
theorem sb_inj {s t : ByteArray} (h : sb s = sb t) : s = t := by rw [← strOf_sb s, ← strOf_sb t, h]
theorem run_conv {w : World} {A : Option Addr} {n c : Nat} {l : List Int} (hr : Rd w 1 A n (iv .u8 l)) : (convert 24 9 (.slice A n c)).run Try.prog w = .ok (.string (strOf l)) w := by
  rw [run_convert_bytes_string w 24 9 5 A n c Try.underlying24 Try.underlying5 Try.underlying9]
  have hl := hr.len
  rcases A with _ | ad
  · obtain rfl := hr.nil_zero
    obtain rfl : l = [] := List.eq_nil_of_length_eq_zero hl
    rfl
  · have hload := run_loadCells_list (P := Try.prog) w ad (iv .u8 l) (fun j v hj => by
      have hlt : 0 < n := by have := (List.getElem?_eq_some_iff.1 hj).1; simp at this; omega
      obtain ⟨ad', e, hc⟩ := hr.2.2 hlt
      cases e
      exact hc j v hj)
    rw [show (iv .u8 l).length = n from by simpa using hl] at hload
    rw [run_bytesToString w ad n c l hload, foldl_push_bytes]
    simp [strOf, ByteArray.empty, ByteArray.emptyWithCapacity]
    rfl
theorem wpList_conv {w : World} {ops : Array Oper} {rest : List Oper} {o : Oper} {a : Act} {Q : Exit → Act → World → Prop} (hgd : o.guard = none) (x : Operand)
    (ho : o.op = .convert 24 9 x) {A : Option Addr} {n c : Nat} {l : List Int} (hr : Rd w 1 A n (iv .u8 l)) (hx : a.eval x = .slice A n c)
    (h : wpList Try.prog ops Q rest (a.put o.dst (.string (strOf l))) w) : wpList Try.prog ops Q (o :: rest) a w := by
  have hrun := run_conv (c := c) hr
  refine wpList_plain hgd fun K hK' => ?_
  unfold Oper.wp
  simp [execOp, ho, hx, hrun, Result.andThen]
  exact hK' _ _ h
theorem str_same {l1 l2 : List Int} (h1 : Bytes8 l1) (h2 : Bytes8 l2) : ((strOf l1).toList == (strOf l2).toList) = decide (l1 = l2) := by
  rw [Lib.toList_data, Lib.toList_data]
  by_cases h : l1 = l2
  · subst h; simp
  · rw [decide_eq_false h, beq_eq_false_iff_ne]
    intro e
    refine h (strOf_inj h1 h2 ?_)
    have : (strOf l1).data = (strOf l2).data := Array.ext' e
    cases h3 : strOf l1; cases h4 : strOf l2
    rw [h3, h4] at this
    simpa using this
set_option maxHeartbeats 400000 in
theorem BytesEqual_calls (w : World) {A1 A2 : Option Addr} {n1 n2 c1 c2 : Nat} {l1 l2 : List Int} (h1 : Rd w 1 A1 n1 (iv .u8 l1)) (h2 : Rd w 1 A2 n2 (iv .u8 l2)) (r1 : Bytes8 l1) (r2 : Bytes8 l2) :
    Calls Try.prog 42 #[.slice A1 n1 c1, .slice A2 n2 c2] w fun e w' => e = .returned (.bool (decide (l1 = l2))) ∧ w = w' := by
  go_enter Try.func42, Try.ntmps42
  go_wp2_with (first | (refine wpList_conv rfl (.tmp 5) rfl h1 rfl ?_) | (refine wpList_conv rfl (.tmp 7) rfl h2 rfl ?_))
  go_ret
  exact ⟨ret_bool (str_same r1 r2), rfl⟩

set_option maxHeartbeats 400000 in
theorem SlicesEqual_calls (w : World) {A1 A2 : Option Addr} {n1 n2 c1 c2 : Nat} {l1 l2 : List Int} (h1 : Rd w 1 A1 n1 (iv .u8 l1)) (h2 : Rd w 1 A2 n2 (iv .u8 l2)) :
    Calls Try.prog 52 #[.slice A1 n1 c1, .slice A2 n2 c2] w fun e w' => e = .returned (.bool (decide (l1 = l2))) ∧ Drawn w w' := by
  have hn1 := h1.le
  have hn2 := h2.le
  have e1 := h1.len
  have e2 := h2.len
  by_cases hne : n1 = n2
  · subst hne
    have E1 := Lib.hid e1; clear e1
    have E2 := Lib.hid e2; clear e2
    go_enter Try.func52, Try.ntmps52
    go_wp2
    go_loopw [13] (fun i wr => ∃ k : Nat, k ≤ n1 ∧ i = .int .i64 k ∧ Hid (l1.take k = l2.take k) ∧ Drawn w wr) (fun i _ => n1 - (intOf i).toNat)
    case atStart => exact ⟨0, Nat.zero_le _, rfl, rfl, Drawn.refl _⟩
    case round =>
      obtain ⟨k, hk, rfl, HT, hd⟩ := hrel
      have h1 := h1.fresh hd.fresh
      have h2 := h2.fresh hd.fresh
      by_cases hlt : k < n1
      · obtain ⟨a1, rfl, hc1⟩ := h1.int hlt
        obtain ⟨a2, rfl, hc2⟩ := h2.int hlt
        have hi0 : (0 : Int) ≤ (k : Int) := Int.natCast_nonneg _
        have hi1 : (k : Int) < (n1 : Int) := by omega
        go_wp2
        go_quiet (fail)
        go_wp2
        · go_ret
          exact ⟨ret_bool (same_no E1.out E2.out hlt (by assumption)), hd.step _⟩
        · go_roundw
          case rel => exact ⟨k + 1, by omega, by go_num, same_step E1.out E2.out hlt HT.out (by assumption), hd.step _⟩
          case measure => simp [intOf]; omega
      · go_wp2
        go_ret
        exact ⟨ret_bool (same_yes E1.out E2.out (by omega) HT.out), hd⟩
  · have hb : ((n1 : Int) == (n2 : Int)) = false := by simp; omega
    have hb' : ((n1 : Int) != (n2 : Int)) = true := by simp; omega
    go_enter Try.func52, Try.ntmps52
    go_wp2
    go_ret
    exact ⟨ret_bool (by simp only [Bool.false_eq, decide_eq_false_iff_not]; rintro rfl; exact hne (e1.symm.trans e2)), Drawn.refl _⟩

/-! ### what is told apart -/
def bodyOf (l : List Int) : List Int := (l.drop 1).take 123
def kindL (l : List Int) : Int := if l.length = 128 ∧ l.getD 0 0 ≠ 0 ∧ sealL (l.getD 0 0) (bodyOf l) = l then l.getD 0 0 else 0
theorem Rd.mid {w : World} {ad : Addr} {c : Nat} {l : List Int} (h : Rd w 1 (some ad) 128 (iv .u8 l)) (hc : 128 ≤ c) : Rd w 1 (some (ad.add 1)) 123 (iv .u8 (bodyOf l)) := by
  have := (h.cut (k := 1) (cap := c) (by omega) hc).take (k := 123) (by omega)
  rw [if_neg (by omega)] at this
  simpa [bodyOf, iv, List.map_take, List.map_drop] using this

set_option maxRecDepth 100000 in
set_option maxHeartbeats 1000000 in
theorem Kind_calls (w : World) {A : Option Addr} {n c : Nat} {l : List Int} (hr : Rd w 1 A n (iv .u8 l)) (hc : n ≤ c) :
    Calls Try.prog 48 #[.slice A n c] w fun e w' => e = .returned (.int .u8 (kindL l)) ∧ Fresh w w' := by
  have hl := hr.len
  have hle := hr.le
  by_cases h128 : n = 128
  · subst h128
    obtain ⟨ad, rfl, h0⟩ := hr.int (k := 0) (by omega)
    have h0 : w.cell? ad = some (.int .u8 (l.getD 0 0)) := h0
    obtain ⟨x, hx⟩ : ∃ x, l.getD 0 0 = x := ⟨_, rfl⟩
    rw [hx] at h0
    have hm := hr.mid hc
    have HL := Lib.hid hl; clear hl
    by_cases hx0 : x = 0
    · subst hx0
      have hk : kindL l = 0 := by unfold kindL; rw [if_neg (by rw [hx]; simp)]
      have HK := Lib.hid hk; clear hk
      have HX := Lib.hid hx; clear hx
      go_enter Try.func48, Try.ntmps48
      go_wp2
      go_ret
      exact ⟨ret_int HK.out.symm, Keep.refl _ _⟩
    · have hb : (x == 0) = false := by rw [beq_eq_false_iff_ne]; exact hx0
      have hk : kindL l = if sealL x (bodyOf l) = l then x else 0 := by
        unfold kindL
        rw [hx]
        by_cases hs : sealL x (bodyOf l) = l
        · rw [if_pos ⟨HL.out, hx0, hs⟩, if_pos hs]
        · rw [if_neg (fun h => hs h.2.2), if_neg hs]
      have HK := Lib.hid hk; clear hk
      have HX := Lib.hid hx; clear hx
      go_enter Try.func48, Try.ntmps48
      go_wp2
      have hm' := hm.drew
      have hc1 : (124 : Int) ≤ (c : Int) := by omega
      have hc2 : ¬ c = 1 := by omega
      have h0' := (Keep.refl (fun _ => False) w).drew.cell_some h0 (fun f => f)
      go_region_held3 (fun w' => w'.cell? ad = some (.int .u8 x)) (first | assumption | go_keep) (first | (go_at_call 35; refine (Seal_calls _ x hm' hx0 (by omega)).mono ?_; rintro e w2 ⟨v2, rfl, hn2⟩; obtain ⟨B2, k2, rfl⟩ := hn2.1.shape; have h02 := hn2.2.1.cell_some h0' (fun f => f)))
      go_wp2_with (first | (go_at_call 52; refine (SlicesEqual_calls _ (Rd.of_own hn2.1) (hr.drew.fresh hn2.2.1)).mono ?_; rintro e w3 ⟨rfl, D3⟩; have h03 := D3.fresh.cell_some h02 (fun f => f)))
      · have hne : sealL x (bodyOf l) ≠ l := by simpa using (show (!decide (sealL x (bodyOf l) = l)) = true by assumption)
        go_ret
        exact ⟨ret_int (by rw [HK.out, if_neg hne]), ((Keep.refl _ w).drew.trans hn2.2.1 (fun _ _ f => f)).trans D3.fresh (fun _ _ f => f)⟩
      · have he : sealL x (bodyOf l) = l := by simpa using (show (!decide (sealL x (bodyOf l) = l)) = false by assumption)
        go_ret
        exact ⟨ret_int (by rw [HK.out, if_pos he]), ((Keep.refl _ w).drew.trans hn2.2.1 (fun _ _ f => f)).trans D3.fresh (fun _ _ f => f)⟩
  · have hb : ((n : Int) != 128) = true := by rw [bne_iff_ne]; omega
    have hk : kindL l = 0 := by unfold kindL; rw [if_neg (by rw [hl]; exact fun h => h128 h.1)]
    have HK := Lib.hid hk; clear hk
    go_enter Try.func48, Try.ntmps48
    go_wp2
    go_ret
    exact ⟨ret_int HK.out.symm, Keep.refl _ _⟩

theorem be4_bytes {s : Int} (h : 0 ≤ s ∧ s < 4294967296) : Bytes8 (be4 s) := by
  intro x hx
  simp only [be4, List.mem_cons, List.not_mem_nil, or_false] at hx
  rcases hx with rfl | rfl | rfl | rfl <;> omega
theorem bodyL_bytes {k : Int} {body : List Int} (hk : 0 ≤ k ∧ k < 256) (hb : Bytes8 body) : Bytes8 (bodyL k body) := by
  intro x hx
  simp only [bodyL, List.mem_cons, List.mem_append] at hx
  rcases hx with rfl | hx | hx
  · exact hk
  · exact hb x hx
  · have := List.eq_of_mem_replicate hx
    omega
theorem seal_bytes {k : Int} {body : List Int} (hk : 0 ≤ k ∧ k < 256) (hb : Bytes8 body) : Bytes8 (sealL k body) := by
  intro x hx
  rcases List.mem_append.1 hx with hx | hx
  · exact bodyL_bytes hk hb x hx
  · exact be4_bytes (sumL_lo _) x hx
theorem bodyOf_bytes {l : List Int} (h : Bytes8 l) : Bytes8 (bodyOf l) := fun x hx => h x (List.mem_of_mem_drop (List.mem_of_mem_take hx))
theorem str_ne {l1 l2 : List Int} (h1 : Bytes8 l1) (h2 : Bytes8 l2) (h : ((strOf l1).toList != (strOf l2).toList) = true) : l1 ≠ l2 := by
  rintro rfl
  simp at h
theorem str_eq {l1 l2 : List Int} (h1 : Bytes8 l1) (h2 : Bytes8 l2) (h : ((strOf l1).toList != (strOf l2).toList) = false) : l1 = l2 := by
  have := str_same h1 h2
  rw [bne, Bool.not_eq_false'] at h
  rw [h] at this
  simpa using this.symm

set_option maxRecDepth 100000 in
set_option maxHeartbeats 1000000 in
theorem RKind_calls (w : World) {A : Option Addr} {n c : Nat} {l : List Int} (hr : Rd w 1 A n (iv .u8 l)) (hc : n ≤ c) (hb8 : Bytes8 l) :
    Calls Try.prog 50 #[.slice A n c] w fun e w' => e = .returned (.int .u8 (kindL l)) ∧ Fresh w w' := by
  have hl := hr.len
  have hle := hr.le
  by_cases h128 : n = 128
  · subst h128
    obtain ⟨ad, rfl, h0⟩ := hr.int (k := 0) (by omega)
    have h0 : w.cell? ad = some (.int .u8 (l.getD 0 0)) := h0
    obtain ⟨x, hx⟩ : ∃ x, l.getD 0 0 = x := ⟨_, rfl⟩
    rw [hx] at h0
    have hx8 : 0 ≤ x ∧ x < 256 := by
      rw [← hx, List.getD_eq_getElem?_getD, List.getElem?_eq_getElem (show 0 < l.length by omega)]
      exact hb8 _ (List.getElem_mem _)
    have HX8 := Lib.hid hx8; clear hx8
    have hm := hr.mid hc
    have HL := Lib.hid hl; clear hl
    by_cases hx0 : x = 0
    · subst hx0
      have hk : kindL l = 0 := by unfold kindL; rw [if_neg (by rw [hx]; simp)]
      have HK := Lib.hid hk; clear hk
      have HX := Lib.hid hx; clear hx
      go_enter Try.func50, Try.ntmps50
      go_wp2
      go_ret
      exact ⟨ret_int HK.out.symm, Keep.refl _ _⟩
    · have hb : (x == 0) = false := by rw [beq_eq_false_iff_ne]; exact hx0
      have hk : kindL l = if sealL x (bodyOf l) = l then x else 0 := by
        unfold kindL
        rw [hx]
        by_cases hs : sealL x (bodyOf l) = l
        · rw [if_pos ⟨HL.out, hx0, hs⟩, if_pos hs]
        · rw [if_neg (fun h => hs h.2.2), if_neg hs]
      have HK := Lib.hid hk; clear hk
      have HX := Lib.hid hx; clear hx
      go_enter Try.func50, Try.ntmps50
      go_wp2
      have hm' := hm.drew
      have hc1 : (124 : Int) ≤ (c : Int) := by omega
      have hc2 : ¬ c = 1 := by omega
      have h0' := (Keep.refl (fun _ => False) w).drew.cell_some h0 (fun f => f)
      go_region_held3 (fun w' => w'.cell? ad = some (.int .u8 x)) (first | assumption | go_keep) (first | (go_at_call 37; refine (RSeal_calls _ x hm' hx0 (by omega)).mono ?_; rintro e w2 ⟨v2, rfl, hn2⟩; obtain ⟨B2, k2, rfl⟩ := hn2.1.shape; have h02 := hn2.2.1.cell_some h0' (fun f => f)))
      have hs8 : Bytes8 (sealL x (bodyOf l)) := seal_bytes (HX8.out) (bodyOf_bytes hb8)
      have hst := str_same hs8 hb8
      have HST := Lib.hid hst; clear hst
      go_wp2_with (first | (refine wpList_conv rfl (.tmp 23) rfl (Rd.of_own hn2.1) rfl ?_) | (refine wpList_conv rfl (.tmp 25) rfl (hr.drew.fresh hn2.2.1) rfl ?_))
      · have hne : sealL x (bodyOf l) ≠ l := str_ne hs8 hb8 (by assumption)
        go_ret
        exact ⟨ret_int (by rw [HK.out, if_neg hne]), (Keep.refl _ w).drew.trans hn2.2.1 (fun _ _ f => f)⟩
      · have he : sealL x (bodyOf l) = l := str_eq hs8 hb8 (by assumption)
        go_ret
        exact ⟨ret_int (by rw [HK.out, if_pos he]), (Keep.refl _ w).drew.trans hn2.2.1 (fun _ _ f => f)⟩
  · have hb : ((n : Int) != 128) = true := by rw [bne_iff_ne]; omega
    have hk : kindL l = 0 := by unfold kindL; rw [if_neg (by rw [hl]; exact fun h => h128 h.1)]
    have HK := Lib.hid hk; clear hk
    go_enter Try.func50, Try.ntmps50
    go_wp2
    go_ret
    exact ⟨ret_int HK.out.symm, Keep.refl _ _⟩
end Go.Proofs.Ytcjackjoonijnaa
