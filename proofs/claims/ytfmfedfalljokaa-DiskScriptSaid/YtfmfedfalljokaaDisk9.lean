/-
  A disk of an image: New with its rows apart; Load; the methods at a nil disk.
-/
import Derived.Laws.CopyOwn
import Derived.Deep.CutBlock
import Derived.Test.YtfmfedfalljokaaDisk8
namespace Go.Proofs.Ytfmfedfalljokaa
open Go.RowKit

/-! ### at a nil disk -/
theorem there_nil (w : World) (x : Int) : Calls Try.prog 50 #[.pointer none, .int .i64 x] w fun e w' => e = .returned (.bool false) ∧ w = w' := by
  by_cases h0 : 0 ≤ x
  · have h1 : ¬ x < 0 := by omega
    go_enter Try.func50, Try.ntmps50
    go_wp2_with (go_at_call 30; refine (Sectors_nil _).mono ?_; rintro e w' ⟨rfl, rfl⟩)
    go_ret
    exact ⟨ret_bool (by simp; try omega), rfl⟩
  · go_enter Try.func50, Try.ntmps50
    go_wp2_with (go_at_call 30; refine (Sectors_nil _).mono ?_; rintro e w' ⟨rfl, rfl⟩)
    go_ret
    exact ⟨ret_bool (by simp; try omega), rfl⟩
theorem Read_nil (w : World) (x : Int) : Calls Try.prog 22 #[.pointer none, .int .i64 x] w fun e w' => e = .returned (.tuple #[.slice none 0 0, .int .i64 1]) ∧ Fresh w w' := by
  go_enter Try.func22, Try.ntmps22
  go_wp2_with (first | (go_at_call 50; refine (there_nil _ x).mono ?_; rintro e w' ⟨rfl, rfl⟩) | (go_at_call 49; refine (asked_nil _ _).mono ?_; rintro e w' ⟨rfl, rfl⟩))
  refine bodyPost_ret (v := .tuple #[.slice none 0 0, .int .i64 1]) (by simp [results, Try.results22, go_sem]) rfl ⟨rfl, ?_⟩
  exact (((Keep.refl _ w).alloc _).alloc _).alloc _
theorem Write_nil (w : World) (x : Int) (n : Nat) (A : Option Addr) (c : Nat) (hn : n ≤ 9223372036854775807) : Calls Try.prog 15 #[.pointer none, .int .i64 x, .slice A n c] w fun e w' => e = .returned (.int .i64 1) ∧ w = w' := by
  go_enter Try.func15, Try.ntmps15
  go_wp2_with (first | (go_at_call 50; refine (there_nil _ x).mono ?_; rintro e w' ⟨rfl, rfl⟩) | (go_at_call 49; refine (asked_nil _ _).mono ?_; rintro e w' ⟨rfl, rfl⟩))
  go_ret
  exact ⟨rfl, rfl⟩
theorem Flush_nil (w : World) : Calls Try.prog 25 #[.pointer none] w fun e w' => e = .returned (.int .i64 1) ∧ w = w' := by
  go_enter Try.func25, Try.ntmps25
  go_wp2_with (first | (go_at_call 49; refine (asked_nil _ _).mono ?_; rintro e w' ⟨rfl, rfl⟩))
  go_ret
  exact ⟨rfl, rfl⟩
theorem On_nil (w : World) : Calls Try.prog 26 #[.pointer none] w fun e w' => e = .returned (.bool false) ∧ w = w' := by
  go_enter Try.func26, Try.ntmps26
  go_wp2
  go_ret
  exact ⟨rfl, rfl⟩
theorem Image_nil (w : World) : Calls Try.prog 19 #[.pointer none] w fun e w' => e = .returned (.slice none 0 0) ∧ w = w' := by
  go_enter Try.func19, Try.ntmps19
  go_wp2
  go_ret
  exact ⟨rfl, rfl⟩

/-! ### rows that lie apart -/
def ApartL (vs : List Value) : Prop := ∀ (i j : Nat) (x y : Value) (k : Nat), i ≠ j → vs[i]? = some x → vs[j]? = some y → x.ownBlock = some k → y.ownBlock ≠ some k
theorem ApartL.nil : ApartL [] := fun i j x y k _ hx => by simp at hx
theorem ApartL.snoc {vs : List Value} {v : Value} {m : Nat} (h : ApartL vs) (hl : ∀ x ∈ vs, ∀ k, x.ownBlock = some k → k < m) (hv : ∀ k, v.ownBlock = some k → m ≤ k) : ApartL (vs ++ [v]) := by
  intro i j x y k hij hx hy hk hk'
  rw [List.getElem?_append] at hx hy
  split at hx
  · split at hy
    · exact h i j x y k hij hx hy hk hk'
    · rw [List.getElem?_singleton] at hy
      split at hy
      · cases hy
        have := hl x (List.mem_of_getElem? hx) k hk
        have := hv k hk'
        omega
      · cases hy
  · rw [List.getElem?_singleton] at hx
    split at hx
    · cases hx
      split at hy
      · have := hl y (List.mem_of_getElem? hy) k hk'
        have := hv k hk
        omega
      · rw [List.getElem?_singleton] at hy
        split at hy
        · omega
        · cases hy
    · cases hx
def MadePost (n : Nat) (w : World) (e : Ending) (w' : World) : Prop := ∃ g fv fvs, e = .returned (ptr g) ∧ w.heap.size ≤ g ∧ DiskIn (fun b => w.heap.size ≤ b ∧ b < w'.heap.size) w' g (DiskS.new n) fv (.slice none 0 0) (.pointer none) (.slice none 0 0) fvs [] ∧ ApartL fvs ∧ Fresh w w'
set_option maxRecDepth 100000 in
set_option maxHeartbeats 1000000 in
theorem New_apart (n : Nat) (w : World) (h0 : 1 ≤ n) (h1 : n ≤ 2048) : Calls Try.prog 14 #[.int .i64 n] w (MadePost n w) := by
  have b1 : decide ((n : Int) < 1) = false := by simp; omega
  have b2 : decide ((2048 : Int) < (n : Int)) = false := by simp; omega
  have hmk := make_u8
  go_enter Try.func14, Try.ntmps14
  go_wp2
  go_loopw [13] (fun i wr => ∃ (k : Nat) (fv : Value) (fvs : List Value), k ≤ n ∧ i = .int .i64 k ∧
      DiskIn (fun b => w.heap.size ≤ b ∧ b < wr.heap.size) wr w.heap.size { firstDisk with firm := List.replicate k (zeros 128) } fv (.slice none 0 0) (.pointer none) (.slice none 0 0) fvs [] ∧ ApartL fvs ∧ Fresh w wr)
    (fun i _ => n - (intOf i).toNat)
  case atStart =>
    refine ⟨0, .slice none 0 0, [], Nat.zero_le _, rfl, ?_, ApartL.nil, (Keep.refl _ w).alloc _⟩
    exact { blk := Blk.new _ _ _, fg := ⟨Nat.le_refl _, by simp⟩, inf := In.none, inw := In.none, inr := In.none, firm := Own.nil _ _ _, firms := All2.nil, waits := Own.nil _ _ _, waitss := All2.nil
            armed := rfl, writes := Own.nil _ _ _, low := fun b hb => hb.2 }
  case round =>
    obtain ⟨k, fv, fvs, hk, rfl, hd, hap, hf⟩ := hrel
    have hlows : ∀ x ∈ fvs, ∀ b, x.ownBlock = some b → b < wr.heap.size := fun x hx b hb => by
      obtain ⟨i, hi, rfl⟩ := List.mem_iff_getElem.1 hx
      have hi2 : i < ({ firstDisk with firm := List.replicate k (zeros 128) } : DiskS).firm.length := by rw [← hd.firms.1]; exact hi
      exact own_lt (hd.firms.2 i _ _ (List.getElem?_eq_getElem hi) (List.getElem?_eq_getElem hi2)).1 hb
    by_cases hlt : k < n
    · obtain ⟨c0, -, -, -, -, -⟩ := hd.cells
      have f0 := hd.blk.frozen 0
      have hW : Own wr 28 1 fv k fvs := by simpa using hd.firm
      have c0a := alloc_cell c0
      have c0b := fun o => alloc_cell (c0a o)
      have hlow := hd.blk.lt
      go_upto_block 1 with fail
      go_cut [] (fun wx => ∃ (fv' : Value) (fvs' : List Value), DiskIn (fun b => w.heap.size ≤ b ∧ b < wx.heap.size) wx w.heap.size { firstDisk with firm := List.replicate (k + 1) (zeros 128) } fv' (.slice none 0 0) (.pointer none) (.slice none 0 0) fvs' [] ∧ ApartL fvs' ∧ Fresh w wx)
      case first =>
        go_wp2_with fail
        go_region_law (refine stepapp_bytes rfl (.tmp 19) (.tmp 21) rfl ((World.ownsRow.alloc (w := wr.drew) hW _).alloc _) rfl (Rd.lit' _ [.slice (some ⟨wr.heap.size, 0, none⟩) 128 128] _ 1 1 (wr.heap.size + 1) (by simp) rfl (by omega)) rfl (by simp [Value.oneCell']) (by omega) ?_; intro A3 c3 w3 ho3 hg3 hb3; have B3 := (((hd.blk.drew).alloc (.cells (madeCells #[.int .u8 0] 128) 5)).alloc (.cells #[.slice (some ⟨wr.heap.size, 0, none⟩) 128 128] 28)).grown hg3 (own_blk_ne hW hd.blk (by decide)).symm; have q1 := B3.at_ 0 rfl; have q2 := B3.frozen 0)
        all_goals
          go_wp2_with fail
          go_meet
          have hnew : NewB wr.drew (wr.drew.alloc (.cells (madeCells #[.int .u8 0] 128) 5)) 5 .u8 (.slice (some ⟨wr.heap.size, 0, none⟩) 128 128) 128 (zeros 128) :=
            ⟨made_u8 wr.drew 128 (by simp [maxLen]), (Keep.refl _ _).alloc _, freshV_new _ _ _ _ _⟩
          have hdr := hd.keep ((Keep.refl (fun _ => False) wr).drew) (fun _ _ f => f)
          obtain ⟨hx1, hx2⟩ := DiskIn.more (o := .cells #[.slice (some ⟨wr.heap.size, 0, none⟩) 128 128] 28) hdr hnew (by simpa using ho3) hg3 hb3
          refine ⟨.slice A3 (k + 1) c3, fvs ++ [.slice (some ⟨wr.heap.size, 0, none⟩) 128 128], ?_, hap.snoc hlows (fun b hb => by simp [Value.ownBlock] at hb; omega), hf.trans hx2.undrew (fun b hb hh => by omega)⟩
          have hx3 := hx1.mono (G := fun b => w.heap.size ≤ b ∧ b < (w3.setCell ⟨w.heap.size, 0, none⟩ (.slice A3 (k + 1) c3)).heap.size) (fun b hb => by
            have h2 := hx2.size
            rcases hb with hb | hb
            · exact ⟨hb.1, Nat.lt_of_lt_of_le hb.2 h2⟩
            · exact ⟨Nat.le_trans hf.size hb.1, hb.2⟩) (fun b hb => hb.2)
          simpa [← List.replicate_succ'] using hx3
      case rest =>
        obtain ⟨fv', fvs', hd', hap', hf'⟩ := hcut
        go_wp2
        go_roundw
        case rel => exact ⟨k + 1, fv', fvs', by omega, by go_num, hd', hap', hf'⟩
        case measure => simp [intOf]; omega
    · go_wp2
      go_ret
      obtain rfl : k = n := by omega
      exact ⟨_, _, _, rfl, Nat.le_refl _, hd, hap, hf⟩

/-! ### a copy into a row that nobody shares -/
theorem take_splice {α : Type} (cur : List α) (N off : Nat) (cs : List α) (h : off + cs.length ≤ N) (hN : N ≤ cur.length) : (splice cur off cs).take N = splice (cur.take N) off cs := by
  unfold splice
  rw [List.take_append, List.take_append, List.length_take, List.take_take, List.take_take, List.drop_take, Nat.min_eq_left (show off ≤ cur.length by omega), Nat.min_eq_right (show off ≤ N by omega), Nat.min_eq_left (show off ≤ N by omega), List.take_of_length_le (show cs.length ≤ N - off by omega), Nat.sub_sub]
theorem run_copy_in {w : World} {e dT sT ty : TypeId} (hu : Try.prog.underlying dT = some (.slice e)) (hsz : (Try.prog.info? e).map (·.size) = some 1) {g c N off dn dc : Nat} {L : List Value}
    (h : Own w e 1 (.slice (some ⟨g, 0, none⟩) N c) N L) {dp : Option Addr} (hdp : 0 < dn → dp = some ⟨g, off, none⟩) (hfit : off + dn ≤ N) {A : Option Addr} {n c' : Nat} {xs : List Value} (hr : Rd w 1 A n xs) (h1 : ∀ v ∈ xs, v.oneCell' = true) :
    ∃ w', (Builtin.copy_ #[dT, sT] ty #[.slice dp dn dc, .slice A n c']).run Try.prog w = .ok (goInt (min n dn : Nat)) w' ∧ Own w' e 1 (.slice (some ⟨g, 0, none⟩) N c) N (splice L off (xs.take (min n dn))) ∧ Keep (fun b => b = g) w w' := by
  have hxl : xs.length = n := by have := hr.1; omega
  by_cases h0 : min n dn = 0
  · refine ⟨w, ?_, ?_, Keep.refl _ _⟩
    · rw [h0]; exact run_copy_none (P := Try.prog) w dT sT ty e dp A dn dc n c' hu hsz h0
    · rw [h0]; simpa [splice] using h
  · have hdn : 0 < dn := by omega
    have hn : 0 < n := by omega
    obtain rfl := hdp hdn
    obtain ⟨ad, rfl, hc⟩ := hr.2.2 hn
    rcases h.2 with ⟨e1, -⟩ | ⟨g', cap, cur, e1, hb, hg, h2, h3, h4, h5⟩
    · cases e1
    · cases e1
      have hln : (xs.take (min n dn)).length = min n dn := by rw [List.length_take]; omega
      have hin : ∀ j v, (xs.take (min n dn))[j]? = some v → w.cell? (ad.add j) = some v := fun j v hv => hc j v (by
        rw [List.getElem?_take] at hv
        split at hv
        · exact hv
        · cases hv)
      have h1' : ∀ v ∈ xs.take (min n dn), v.oneCell' = true := fun v hv => h1 v (List.mem_of_mem_take hv)
      generalize xs.take (min n dn) = cs at *
      have hrun := run_copy_row Try.prog w dT sT ty e g off dn dc ad n c' cur e cs hu hsz hg (by rw [hln]) hin (by rw [hln]; omega) h1'
      refine ⟨_, by rw [hrun, hln], ⟨?_, .inr ⟨g, c, _, rfl, hb, setRow_heap w g _ _ _ _ hg, h2, h3, ?_, ?_⟩⟩, ⟨rfl, rfl, rfl, by simp [World.setRow], fun k _ hk => setRow_other w g k _ hk⟩⟩
      · rw [length_splice _ _ _ (by rw [hln, h.1]; omega)]; exact h.1
      · have := length_splice cur.toList off cs (by rw [hln]; simp; omega)
        simp only [splice] at this
        rw [hln] at this
        rw [List.size_toArray, List.append_assoc, this]
        simpa using h4
      · have := take_splice cur.toList (N * 1) off cs (by rw [hln]; omega) (by simp; omega)
        rw [h5] at this
        rw [← this]
        simp [splice, hln]
theorem wpList_copy_in {w : World} {ops : Array Oper} {rest : List Oper} {o : Oper} {a : Act} {Q : Exit → Act → World → Prop} (hgd : o.guard = none) (d s : Operand) {dT sT e : TypeId}
    (ho : o.op = .call { callee := .builtin .copy, args := #[d, s], argTypes := #[dT, sT] }) (hu : Try.prog.underlying dT = some (.slice e)) (hsz : (Try.prog.info? e).map (·.size) = some 1) {g c N off dn dc : Nat} {L : List Value}
    (h : Own w e 1 (.slice (some ⟨g, 0, none⟩) N c) N L) {dp : Option Addr} (hd : a.eval d = .slice dp dn dc) (hdp : 0 < dn → dp = some ⟨g, off, none⟩) (hfit : off + dn ≤ N) {A : Option Addr} {n c' : Nat} {xs : List Value} (hr : Rd w 1 A n xs) (hs : a.eval s = .slice A n c') (h1 : ∀ v ∈ xs, v.oneCell' = true)
    (hK : ∀ w', Hid (Own w' e 1 (.slice (some ⟨g, 0, none⟩) N c) N (splice L off (xs.take (min n dn)))) → Keep (fun b => b = g) w w' → wpList Try.prog ops Q rest (a.put o.dst (goInt (min n dn : Nat))) w') : wpList Try.prog ops Q (o :: rest) a w := by
  obtain ⟨w', hrun, ho', hk'⟩ := run_copy_in (ty := o.type) (sT := sT) hu hsz h hdp hfit (dc := dc) (c' := c') hr h1
  refine wpList_plain hgd fun K hK' => ?_
  unfold Oper.wp
  simp [execOp, ho, resolve, invoke, builtin, hd, hs, hrun, Result.andThen]
  exact hK' _ _ (by simpa using hK w' ho' hk')
theorem step_copy_in {w : World} {ops : Array Oper} {o : Oper} {a : Act} {K : Act → World → Prop} {Q : Exit → Act → World → Prop} {E : Prop} (hgd : o.guard = none) (d s : Operand) {dT sT e : TypeId}
    (ho : o.op = .call { callee := .builtin .copy, args := #[d, s], argTypes := #[dT, sT] }) (hu : Try.prog.underlying dT = some (.slice e)) (hsz : (Try.prog.info? e).map (·.size) = some 1) {g c N off dn dc : Nat} {L : List Value}
    (h : Own w e 1 (.slice (some ⟨g, 0, none⟩) N c) N L) {dp : Option Addr} (hd : a.eval d = .slice dp dn dc) (hdp : 0 < dn → dp = some ⟨g, off, none⟩) (hfit : off + dn ≤ N) {A : Option Addr} {n c' : Nat} {xs : List Value} (hr : Rd w 1 A n xs) (hs : a.eval s = .slice A n c') (h1 : ∀ v ∈ xs, v.oneCell' = true)
    (hK : ∀ w', Hid (Own w' e 1 (.slice (some ⟨g, 0, none⟩) N c) N (splice L off (xs.take (min n dn)))) → Keep (fun b => b = g) w w' → K (a.put o.dst (goInt (min n dn : Nat))) w') :
    if Region.wanted o (yielded ops a.tmps) = true then Oper.wp Try.prog o a w K Q else E := by
  have hw : Region.wanted o (yielded ops a.tmps) = true := by simp [Region.wanted, hgd]
  rw [if_pos hw]
  obtain ⟨w', hrun, ho', hk'⟩ := run_copy_in (ty := o.type) (sT := sT) hu hsz h hdp hfit (dc := dc) (c' := c') hr h1
  unfold Oper.wp
  simp [execOp, ho, resolve, invoke, builtin, hd, hs, hrun, Result.andThen]
  exact hK w' ho' hk'
end Go.Proofs.Ytfmfedfalljokaa
