/-
  The disk made; what waits, what lasts.
-/
import Derived.Test.YtfmfedfalljokaaDisk3
import Derived.Deep.CutBlock
namespace Go.Proofs.Ytfmfedfalljokaa
open Go.RowKit

/-! ### a disk of zeros -/
def zeros (n : Nat) : List Int := List.replicate n 0
theorem make_u8 (w : World) : (Instr.makeSlice 28 (.int .i64 128) (.int .i64 128)).run Try.prog w = .ok (.slice (some ⟨w.heap.size, 0, none⟩) 128 128) (w.alloc (.cells (madeCells #[.int .u8 0] 128) 5)) := by
  obtain ⟨i, hi, hz, hs, hb⟩ := info_parts info_u8
  have := run_make (P := Try.prog) w 28 5 i (.int .u8 0) Try.underlying28 hi hz .i64 .i64 128 128 (by omega) (by omega) (by rw [hb]; omega) (by omega)
  rw [hs] at this
  exact this
theorem made_u8 (w : World) (n : Nat) (hn : n ≤ maxLen) : Own (w.alloc (.cells (madeCells #[.int .u8 0] n) 5)) 5 1 (.slice (some ⟨w.heap.size, 0, none⟩) n n) n (iv .u8 (zeros n)) := by
  have h := World.ownsRow_lit (size := 1) (base := 0) (e := 5) w (madeCells #[.int .u8 0] n) n (Nat.zero_le _) hn (by simp [madeCells])
  rw [toList_madeCells_one] at h
  simpa [zeros, iv] using h

theorem stepapp_bytes {ops : Array Oper} {o : Oper} {a : Act} {K : Act → World → Prop} {Q : Exit → Act → World → Prop} {E : Prop} {w : World} (hgd : o.guard = none) (s x : Operand)
    (ho : o.op = .call { callee := .builtin .append, args := #[s, x], argTypes := #[27, 27] })
    {v : Value} {n : Nat} {xs : List Value} (hown : Own w 28 1 v n xs) (hs : a.eval s = v)
    {A : Option Addr} {m c : Nat} {news : List Value} (hr : Rd w 1 A m news) (hx : a.eval x = .slice A m c) (h1 : ∀ u ∈ news, u.oneCell' = true) (hb : n + m ≤ 4000000000000)
    (h : ∀ A' c' w', Own w' 28 1 (.slice A' (n + m) c') (n + m) (xs ++ news) → w.grownBy w' v.ownBlock → ((Value.slice A' (n + m) c').ownBlock = v.ownBlock ∨ (Value.slice A' (n + m) c').ownBlock = some w.heap.size) → K (a.put o.dst (.slice A' (n + m) c')) w') :
    if Region.wanted o (yielded ops a.tmps) = true then Oper.wp Try.prog o a w K Q else E :=
  step_app w hgd s x 27 ho 28 _ 1 24 Try.underlying27 info_bytes rfl (by decide) hown hs hr hx h1 (by omega) (by omega) fun v' w' ho hg hb => by
    obtain ⟨A', c', rfl⟩ := ho.shape
    exact h A' c' w' ho hg hb
theorem app_bytes {ops : Array Oper} {rest : List Oper} {o : Oper} {a : Act} {Q : Exit → Act → World → Prop} {w : World} (hgd : o.guard = none) (s x : Operand)
    (ho : o.op = .call { callee := .builtin .append, args := #[s, x], argTypes := #[27, 27] })
    {v : Value} {n : Nat} {xs : List Value} (hown : Own w 28 1 v n xs) (hs : a.eval s = v)
    {A : Option Addr} {m c : Nat} {news : List Value} (hr : Rd w 1 A m news) (hx : a.eval x = .slice A m c) (h1 : ∀ u ∈ news, u.oneCell' = true) (hb : n + m ≤ 4000000000000)
    (h : ∀ v' w', Own w' 28 1 v' (n + m) (xs ++ news) → w.grownBy w' v.ownBlock → (v'.ownBlock = v.ownBlock ∨ v'.ownBlock = some w.heap.size) → wpList Try.prog ops Q rest (a.put o.dst v') w') : wpList Try.prog ops Q (o :: rest) a w :=
  wpList_app w hgd s x 27 ho 28 _ 1 24 Try.underlying27 info_bytes rfl (by decide) hown hs hr hx h1 (by omega) (by omega) h

/-- One sector of zeros more. -/
theorem DiskIn.more {F : Nat → Prop} {w1 w2 w3 : World} {g : Nat} {d : DiskS} {fv wv av rv : Value} {fvs : List Value} {ws : List (Int × Value)} {v2 v3 : Value} {l : List Int} {n : Nat} {o : Obj}
    (h : DiskIn F w1 g d fv wv av rv fvs ws) (hn : NewB w1 w2 5 .u8 v2 n l)
    (ho : Own w3 28 1 v3 (d.firm.length + 1) (fvs ++ [v2])) (hg : (w2.alloc o).grownBy w3 fv.ownBlock) (hb : v3.ownBlock = fv.ownBlock ∨ v3.ownBlock = some (w2.alloc o).heap.size) :
    DiskIn (Grow F w1 (w3.setCell ⟨g, 0, none⟩ v3)) (w3.setCell ⟨g, 0, none⟩ v3) g { d with firm := d.firm ++ [l] } v3 wv av rv (fvs ++ [v2]) ws ∧ Keep F w1 (w3.setCell ⟨g, 0, none⟩ v3) := by
  have hsz : (w3.setCell ⟨g, 0, none⟩ v3).heap.size = w3.heap.size := by simp [World.setCell]
  have h2 := h.keep hn.2.1 (fun _ _ f => f)
  have h2a := h2.keep ((Keep.refl (fun _ => False) w2).alloc o) (fun _ _ f => f)
  have kW : Keep (OfType (w2.alloc o) 28) (w2.alloc o) w3 := (Keep.refl _ _).grown hg (fun k hk _ => own_ofType h2a.firm hk)
  have b3 : Blk w3 g 83 _ := h2a.blk.ty kW (by decide)
  have kG : Keep (OfType w3 83) w3 (w3.setCell ⟨g, 0, none⟩ v3) := (Keep.refl _ w3).setCell (p := ⟨g, 0, none⟩) (fun _ => b3.ofType) _
  have kAll : Keep F w1 (w3.setCell ⟨g, 0, none⟩ v3) := (((hn.2.1.any F).alloc o).grown hg (fun k hk _ => h.inf k hk)).setCell (p := ⟨g, 0, none⟩) (fun _ => h.fg) _
  have hv2 : ByteIn (Grow F w1 (w3.setCell ⟨g, 0, none⟩ v3)) (w3.setCell ⟨g, 0, none⟩ v3) v2 l := by
    have hv := hn.byteIn
    have hv' : ByteIn (fun b => w1.heap.size ≤ b) (w3.setCell ⟨g, 0, none⟩ v3) v2 l := ((hv.fresh ((Keep.refl (fun _ => False) w2).alloc o)).ty kW (by decide)).ty kG (by decide)
    exact ⟨hv'.1, fun k hk => .inr ⟨hv.2 k hk, own_lt hv'.1 hk⟩⟩
  have up : ∀ b, F b → Grow F w1 (w3.setCell ⟨g, 0, none⟩ v3) b := fun b hb => .inl hb
  have hinf : In (Grow F w1 (w3.setCell ⟨g, 0, none⟩ v3)) v3 := by
    intro k hk
    rcases hb with hb | hb
    · exact .inl (h.inf k (hb ▸ hk))
    · have hlt := own_lt ho hk
      have := hn.2.1.size
      rw [hb] at hk
      injection hk with hk
      simp at hk
      exact .inr ⟨by omega, by omega⟩
  refine ⟨?_, kAll⟩
  exact { blk := by simpa using b3.set_ 0 v3, fg := .inl h.fg, inf := hinf, inw := h.inw.grow, inr := h.inr.grow
          firm := by simpa using own_ty ho kG (by decide)
          firms := (h2a.firms.imp fun _ _ _ _ r => ((r.ty kW (by decide)).ty kG (by decide)).mono up).snoc hv2
          waits := own_ty (own_ty h2a.waits kW (by decide)) kG (by decide)
          waitss := h2a.waitss.imp fun _ _ _ _ r => ⟨r.1, ((r.2.ty kW (by decide)).ty kG (by decide)).mono up⟩
          armed := ((h2a.armed.ty kW (by decide) (by decide)).ty kG (by decide) (by decide)).mono up
          writes := own_ty (own_ty h2a.writes kW (by decide)) kG (by decide)
          low := fun b hb => hb.elim (fun hb => Nat.lt_of_lt_of_le (h.low b hb) kAll.size) (fun hb => hb.2) }

theorem New_nil (n : Int) (w : World) (h : n < 1 ∨ 2048 < n) : Calls Try.prog 14 #[.int .i64 n] w fun e w' => e = .returned (.pointer none) ∧ w = w' := by
  rcases h with h | h
  · go_enter Try.func14, Try.ntmps14
    go_wp2
    go_ret
    exact ⟨rfl, rfl⟩
  · have h' : ¬ n < 1 := by omega
    go_enter Try.func14, Try.ntmps14
    go_wp2
    go_ret
    exact ⟨rfl, rfl⟩

def firstDisk : DiskS := { firm := [], waits := [], on := true, armed := none, writes := [], flushes := 0 }
set_option maxRecDepth 100000 in
set_option maxHeartbeats 1000000 in
theorem New_calls (n : Nat) (w : World) (h0 : 1 ≤ n) (h1 : n ≤ 2048) : Calls Try.prog 14 #[.int .i64 n] w fun e w' => ∃ g, e = .returned (ptr g) ∧ w.heap.size ≤ g ∧ DiskAt (fun b => w.heap.size ≤ b ∧ b < w'.heap.size) w' g (DiskS.new n) ∧ Fresh w w' := by
  have b1 : decide ((n : Int) < 1) = false := by simp; omega
  have b2 : decide ((2048 : Int) < (n : Int)) = false := by simp; omega
  have hmk := make_u8
  go_enter Try.func14, Try.ntmps14
  go_wp2
  go_loopw [13] (fun i wr => ∃ (k : Nat) (fv : Value) (fvs : List Value), k ≤ n ∧ i = .int .i64 k ∧
      DiskIn (fun b => w.heap.size ≤ b ∧ b < wr.heap.size) wr w.heap.size { firstDisk with firm := List.replicate k (zeros 128) } fv (.slice none 0 0) (.pointer none) (.slice none 0 0) fvs [] ∧ Fresh w wr)
    (fun i _ => n - (intOf i).toNat)
  case atStart =>
    refine ⟨0, .slice none 0 0, [], Nat.zero_le _, rfl, ?_, (Keep.refl _ w).alloc _⟩
    exact { blk := Blk.new _ _ _, fg := ⟨Nat.le_refl _, by simp⟩, inf := In.none, inw := In.none, inr := In.none, firm := Own.nil _ _ _, firms := All2.nil, waits := Own.nil _ _ _, waitss := All2.nil
            armed := rfl, writes := Own.nil _ _ _, low := fun b hb => hb.2 }
  case round =>
    obtain ⟨k, fv, fvs, hk, rfl, hd, hf⟩ := hrel
    by_cases hlt : k < n
    · obtain ⟨c0, -, -, -, -, -⟩ := hd.cells
      have f0 := hd.blk.frozen 0
      have hW : Own wr 28 1 fv k fvs := by simpa using hd.firm
      have c0a := alloc_cell c0
      have c0b := fun o => alloc_cell (c0a o)
      have hlow := hd.blk.lt
      go_upto_block 1 with fail
      go_cut [] (fun wx => ∃ (fv' : Value) (fvs' : List Value), DiskIn (fun b => w.heap.size ≤ b ∧ b < wx.heap.size) wx w.heap.size { firstDisk with firm := List.replicate (k + 1) (zeros 128) } fv' (.slice none 0 0) (.pointer none) (.slice none 0 0) fvs' [] ∧ Fresh w wx)
      case first =>
        go_wp2_with fail
        go_region_law (refine stepapp_bytes rfl (.tmp 19) (.tmp 21) rfl ((World.ownsRow.alloc (w := wr.drew) hW _).alloc _) rfl (Rd.lit' _ [.slice (some ⟨wr.heap.size, 0, none⟩) 128 128] _ 1 1 (wr.heap.size + 1) (by simp) rfl (by omega)) rfl (by simp [Value.oneCell']) (by omega) ?_; intro A3 c3 w3 ho3 hg3 hb3; have B3 := (((hd.blk.drew).alloc (.cells (madeCells #[.int .u8 0] 128) 5)).alloc (.cells #[.slice (some ⟨wr.heap.size, 0, none⟩) 128 128] 28)).grown hg3 (own_blk_ne hW hd.blk (by decide)).symm; have q1 := B3.at_ 0 rfl; have q2 := B3.frozen 0)
        all_goals
          go_wp2_with fail
          go_meet
          have hnew : NewB wr.drew (wr.drew.alloc (.cells (madeCells #[.int .u8 0] 128) 5)) 5 .u8 (.slice (some ⟨wr.heap.size, 0, none⟩) 128 128) 128 (zeros 128) :=
            ⟨made_u8 wr.drew 128 (by simp [maxLen]), (Keep.refl _ _).alloc _, freshV_new _ _ _ _ _⟩
          have hdr := hd.keep ((Keep.refl (fun _ => False) wr).drew) (fun _ _ f => f)
          obtain ⟨hx1, hx2⟩ := DiskIn.more (o := .cells #[.slice (some ⟨wr.heap.size, 0, none⟩) 128 128] 28) hdr hnew (by simpa using ho3) hg3 hb3
          refine ⟨.slice A3 (k + 1) c3, fvs ++ [.slice (some ⟨wr.heap.size, 0, none⟩) 128 128], ?_, hf.trans hx2.undrew (fun b hb hh => by omega)⟩
          have hx3 := hx1.mono (G := fun b => w.heap.size ≤ b ∧ b < (w3.setCell ⟨w.heap.size, 0, none⟩ (.slice A3 (k + 1) c3)).heap.size) (fun b hb => by
            have h2 := hx2.size
            rcases hb with hb | hb
            · exact ⟨hb.1, Nat.lt_of_lt_of_le hb.2 h2⟩
            · exact ⟨Nat.le_trans hf.size hb.1, hb.2⟩) (fun b hb => hb.2)
          simpa [← List.replicate_succ'] using hx3
      case rest =>
        obtain ⟨fv', fvs', hd', hf'⟩ := hcut
        go_wp2
        go_roundw
        case rel => exact ⟨k + 1, fv', fvs', by omega, by go_num, hd', hf'⟩
        case measure => simp [intOf]; omega
    · go_wp2
      go_ret
      obtain rfl : k = n := by omega
      exact ⟨_, rfl, Nat.le_refl _, ⟨_, _, _, _, _, _, hd⟩, hf⟩
end Go.Proofs.Ytfmfedfalljokaa
