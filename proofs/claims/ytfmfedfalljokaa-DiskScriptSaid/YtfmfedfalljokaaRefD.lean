/-
  The document's own disk made; bytes lent, and kept.
-/
import Derived.Deep.CutBlock
import Derived.Test.YtfmfedfalljokaaRefC
namespace Go.Proofs.Ytfmfedfalljokaa
open Go.RowKit

/-- One sector of zeros more. -/
theorem RefIn.more {F : Nat → Prop} {w1 w2 w3 : World} {g : Nat} {d : DiskS} {fv wv kv rv : Value} {left : Int} {fvs : List Value} {ws : List (Int × Value)} {v2 v3 : Value} {l : List Int} {n : Nat} {o : Obj}
    (h : RefIn F w1 g d fv wv kv rv left fvs ws) (hn : NewB w1 w2 5 .u8 v2 n l)
    (ho : Own w3 28 1 v3 (d.firm.length + 1) (fvs ++ [v2])) (hg : (w2.alloc o).grownBy w3 fv.ownBlock) (hb : v3.ownBlock = fv.ownBlock ∨ v3.ownBlock = some (w2.alloc o).heap.size) :
    RefIn (Grow F w1 (w3.setCell ⟨g, 0, none⟩ v3)) (w3.setCell ⟨g, 0, none⟩ v3) g { d with firm := d.firm ++ [l] } v3 wv kv rv left (fvs ++ [v2]) ws ∧ Keep F w1 (w3.setCell ⟨g, 0, none⟩ v3) := by
  have hsz : (w3.setCell ⟨g, 0, none⟩ v3).heap.size = w3.heap.size := by simp [World.setCell]
  have h2 := h.keep hn.2.1 (fun _ _ f => f)
  have h2a := h2.keep ((Keep.refl (fun _ => False) w2).alloc o) (fun _ _ f => f)
  have kW : Keep (OfType (w2.alloc o) 28) (w2.alloc o) w3 := (Keep.refl _ _).grown hg (fun k hk _ => own_ofType h2a.firm hk)
  have b3 : Blk w3 g 56 _ := h2a.blk.ty kW (by decide)
  have kG : Keep (OfType w3 56) w3 (w3.setCell ⟨g, 0, none⟩ v3) := (Keep.refl _ w3).setCell (p := ⟨g, 0, none⟩) (fun _ => b3.ofType) _
  have kAll : Keep F w1 (w3.setCell ⟨g, 0, none⟩ v3) := (((hn.2.1.any F).alloc o).grown hg (fun k hk _ => h.inf k hk)).setCell (p := ⟨g, 0, none⟩) (fun _ => h.fg) _
  have hv2 : ByteIn (Grow F w1 (w3.setCell ⟨g, 0, none⟩ v3)) (w3.setCell ⟨g, 0, none⟩ v3) v2 l := by
    have hv := hn.byteIn
    have hv' : ByteIn (fun b => w1.heap.size ≤ b) (w3.setCell ⟨g, 0, none⟩ v3) v2 l := ((hv.fresh ((Keep.refl (fun _ => False) w2).alloc o)).ty kW (by decide)).ty kG (by decide)
    exact ⟨hv'.1, fun k hk => .inr ⟨hv.2 k hk, own_lt hv'.1 hk⟩⟩
  have up : ∀ b, F b → Grow F w1 (w3.setCell ⟨g, 0, none⟩ v3) b := fun b hb => .inl hb
  have hinf : In (Grow F w1 (w3.setCell ⟨g, 0, none⟩ v3)) v3 := by
    intro k hk
    rcases hb with hb | hb
    · exact .inl (h.inf k (hb ▸ hk))
    · have hlt := own_lt ho hk
      have := hn.2.1.size
      rw [hb] at hk
      injection hk with hk
      simp at hk
      exact .inr ⟨by omega, by omega⟩
  refine ⟨?_, kAll⟩
  exact { blk := by simpa using b3.set_ 0 v3, fg := .inl h.fg, inf := hinf, inw := h.inw.grow, inr := h.inr.grow, ink := h.ink.grow
          firm := by simpa using own_ty ho kG (by decide)
          firms := (h2a.firms.imp fun _ _ _ _ r => ((r.ty kW (by decide)).ty kG (by decide)).mono up).snoc hv2
          waits := own_ty (own_ty h2a.waits kW (by decide)) kG (by decide)
          waitss := h2a.waitss.imp fun _ _ _ _ r => ⟨r.1, ((r.2.ty kW (by decide)).ty kG (by decide)).mono up⟩
          armed := (h2a.armed.ty kW (by decide)).ty kG (by decide)
          writes := own_ty (own_ty h2a.writes kW (by decide)) kG (by decide)
          low := fun b hb => hb.elim (fun hb => Nat.lt_of_lt_of_le (h.low b hb) kAll.size) (fun hb => hb.2) }

theorem RNew_nil (n : Int) (w : World) (h : n < 1 ∨ 2048 < n) : Calls Try.prog 31 #[.int .i64 n] w fun e w' => e = .returned (.pointer none) ∧ w = w' := by
  rcases h with h | h
  · go_enter Try.func31, Try.ntmps31
    go_wp2
    go_ret
    exact ⟨rfl, rfl⟩
  · have h' : ¬ n < 1 := by omega
    go_enter Try.func31, Try.ntmps31
    go_wp2
    go_ret
    exact ⟨rfl, rfl⟩

def RMadePost (n : Nat) (w : World) (e : Ending) (w' : World) : Prop := ∃ g, e = .returned (ptr g) ∧ w.heap.size ≤ g ∧ RefAt (fun b => w.heap.size ≤ b ∧ b < w'.heap.size) w' g (DiskS.new n) ∧ Fresh w w'
set_option maxRecDepth 100000 in
set_option maxHeartbeats 1000000 in
theorem RNew_calls (n : Nat) (w : World) (h0 : 1 ≤ n) (h1 : n ≤ 2048) : Calls Try.prog 31 #[.int .i64 n] w (RMadePost n w) := by
  have b1 : decide ((n : Int) < 1) = false := by simp; omega
  have b2 : decide ((2048 : Int) < (n : Int)) = false := by simp; omega
  have hmk := make_u8
  go_enter Try.func31, Try.ntmps31
  go_wp2
  go_loopw [4] (fun i wr => ∃ (k : Nat) (fv : Value) (fvs : List Value), k ≤ n ∧ i = .int .i64 k ∧
      RefIn (fun b => w.heap.size ≤ b ∧ b < wr.heap.size) wr w.heap.size { firstDisk with firm := List.replicate k (zeros 128) } fv (.slice none 0 0) (.slice none 0 0) (.slice none 0 0) (-1) fvs [] ∧ Fresh w wr)
    (fun i _ => n - (intOf i).toNat)
  case atStart =>
    refine ⟨0, .slice none 0 0, [], Nat.zero_le _, rfl, ?_, (Keep.refl _ w).alloc _⟩
    exact { blk := Blk.new _ _ _, fg := ⟨Nat.le_refl _, by simp⟩, inf := In.none, inw := In.none, inr := In.none, ink := In.none, firm := Own.nil _ _ _, firms := All2.nil, waits := Own.nil _ _ _, waitss := All2.nil
            armed := ⟨rfl, [], Own.nil _ _ _⟩, writes := Own.nil _ _ _, low := fun b hb => hb.2 }
  case round =>
    obtain ⟨k, fv, fvs, hk, rfl, hd, hf⟩ := hrel
    by_cases hlt : k < n
    · obtain ⟨c0, -, -, -, -, -, -⟩ := hd.cells
      have f0 := hd.blk.frozen 0
      have hW : Own wr 28 1 fv k fvs := by simpa using hd.firm
      have c0a := alloc_cell c0
      have c0b := fun o => alloc_cell (c0a o)
      have hlow := hd.blk.lt
      go_upto_block 1 with fail
      go_cut [] (fun wx => ∃ (fv' : Value) (fvs' : List Value), RefIn (fun b => w.heap.size ≤ b ∧ b < wx.heap.size) wx w.heap.size { firstDisk with firm := List.replicate (k + 1) (zeros 128) } fv' (.slice none 0 0) (.slice none 0 0) (.slice none 0 0) (-1) fvs' [] ∧ Fresh w wx)
      case first =>
        go_wp2_with fail
        go_region_law (refine stepapp_bytes rfl (.tmp 22) (.tmp 24) rfl ((World.ownsRow.alloc (w := wr.drew) hW _).alloc _) rfl (Rd.lit' _ [.slice (some ⟨wr.heap.size, 0, none⟩) 128 128] _ 1 1 (wr.heap.size + 1) (by simp) rfl (by omega)) rfl (by simp [Value.oneCell']) (by omega) ?_; intro A3 c3 w3 ho3 hg3 hb3; have B3 := (((hd.blk.drew).alloc (.cells (madeCells #[.int .u8 0] 128) 5)).alloc (.cells #[.slice (some ⟨wr.heap.size, 0, none⟩) 128 128] 28)).grown hg3 (own_blk_ne hW hd.blk (by decide)).symm; have q1 := B3.at_ 0 rfl; have q2 := B3.frozen 0)
        all_goals
          go_wp2_with fail
          go_meet
          have hnew : NewB wr.drew (wr.drew.alloc (.cells (madeCells #[.int .u8 0] 128) 5)) 5 .u8 (.slice (some ⟨wr.heap.size, 0, none⟩) 128 128) 128 (zeros 128) :=
            ⟨made_u8 wr.drew 128 (by simp [maxLen]), (Keep.refl _ _).alloc _, freshV_new _ _ _ _ _⟩
          have hdr := hd.keep ((Keep.refl (fun _ => False) wr).drew) (fun _ _ f => f)
          obtain ⟨hx1, hx2⟩ := RefIn.more (o := .cells #[.slice (some ⟨wr.heap.size, 0, none⟩) 128 128] 28) hdr hnew (by simpa using ho3) hg3 hb3
          refine ⟨.slice A3 (k + 1) c3, fvs ++ [.slice (some ⟨wr.heap.size, 0, none⟩) 128 128], ?_, hf.trans hx2.undrew (fun b hb hh => by omega)⟩
          have hx3 := hx1.mono (G := fun b => w.heap.size ≤ b ∧ b < (w3.setCell ⟨w.heap.size, 0, none⟩ (.slice A3 (k + 1) c3)).heap.size) (fun b hb => by
            have h2 := hx2.size
            rcases hb with hb | hb
            · exact ⟨hb.1, Nat.lt_of_lt_of_le hb.2 h2⟩
            · exact ⟨Nat.le_trans hf.size hb.1, hb.2⟩) (fun b hb => hb.2)
          simpa [← List.replicate_succ'] using hx3
      case rest =>
        obtain ⟨fv', fvs', hd', hf'⟩ := hcut
        go_wp2
        go_roundw
        case rel => exact ⟨k + 1, fv', fvs', by omega, by go_num, hd', hf'⟩
        case measure => simp [intOf]; omega
    · go_wp2
      go_ret
      obtain rfl : k = n := by omega
      exact ⟨_, rfl, Nat.le_refl _, ⟨_, _, _, _, _, _, _, hd⟩, hf⟩
end Go.Proofs.Ytfmfedfalljokaa
