/-
  More small functions, walked: bytes that are filled, lent, kept, written over.
-/
import Derived.Test.YtcjackjoonijnaaLeaf
namespace Go.Proofs.Ytcjackjoonijnaa
open Go.RowKit

theorem Rd.one (w : World) (ki : IntKind) (x : Int) (e : TypeId) : Rd (w.alloc (.cells #[.int ki x] e)) 1 (some ⟨w.heap.size, 0, none⟩) 1 (iv ki [x]) := Rd.lit w (iv ki [x]) e 1 1 rfl (by omega)
theorem NewB.app {w W w1 : World} {e : TypeId} {ki : IntKind} {v0 v1 : Value} {n m : Nat} {l l1 : List Int} (h : NewB w W e ki v0 n l) (o : Obj) (ho1 : Own w1 e 1 v1 m (iv ki l1)) (hg1 : (W.alloc o).grownBy w1 v0.ownBlock)
    (hb1 : v1.ownBlock = v0.ownBlock ∨ v1.ownBlock = some (W.alloc o).heap.size) : NewB w w1 e ki v1 m l1 :=
  newB_app (h.2.1.alloc o) h.2.2 ho1 hg1 hb1

/-! ### Fill -/
def fillAt (n : Int) (k : Nat) : Int := (n / 2 ^ (8 * (k % 4)) + (k : Int) * 7) % 256
def fillL (n : Int) (s : Nat) : List Int := (List.range s).map (fillAt n)
theorem fillL_succ (n : Int) (k : Nat) : fillL n k ++ [(n / 2 ^ (8 * (k % 4)) + (k : Int) * 7) % 256] = fillL n (k + 1) := by simp [fillL, List.range_succ, fillAt]

set_option maxHeartbeats 400000 in
theorem OverBytes_calls (w : World) {v : Value} {n : Nat} {l : List Int} (h1 : Own w 5 1 v n (iv .u8 l)) (hn : n ≤ 1000000) :
    Calls Try.prog 18 #[v] w fun e w' => e = .returned (.tuple #[]) ∧ Keep (fun b => v.ownBlock = some b) w w' := by
  rcases h1.slice with ⟨rfl, rfl, hx⟩ | ⟨g, c, rfl, hc, hg⟩
  · go_enter Try.func18, Try.ntmps18
    go_wp2
    refine wp_loop_rounds 1 ?_
    rw [rounds_succ]
    go_wp2_with (first | (at_builtin; refine app_u8 (l := []) rfl _ _ rfl ((Own.nil _ _ _).alloc _) rfl (Rd.one _ _ _ _) rfl (by omega) ?_; intro v1 w1 ho1 hg1 hb1))
    go_end0
    exact ⟨rfl, ((Keep.refl _ w).alloc _).grown hg1 (fun k hk => by simp [Value.ownBlock] at hk)⟩
  · go_enter Try.func18, Try.ntmps18
    go_wp2
    go_loopw [2] (fun i wr => ∃ (k : Nat) (l' : List Int), k ≤ n ∧ i = .int .i64 k ∧ Own wr 5 1 (.slice (some ⟨g, 0, none⟩) n c) n (iv .u8 l') ∧ Keep (fun b => g = b) w wr) (fun i _ => n - (intOf i).toNat)
    case atStart => exact ⟨0, l, Nat.zero_le _, rfl, h1, Keep.refl _ _⟩
    case round =>
      obtain ⟨k, l', hk, rfl, ho, hkeep⟩ := hrel
      by_cases hlt : k < n
      · have hcell : wr.cell? ⟨g, k, none⟩ = some (.int .u8 (l'.getD k 0)) := by
          rw [ho.cellAt k (by omega)]
          have hl := ho.len
          simp [List.getD_eq_getElem?_getD, List.getElem?_eq_getElem (show k < l'.length by omega)]
        have hfro := ho.frozenAt k
        have hi0 : (0 : Int) ≤ (k : Int) := Int.natCast_nonneg _
        have hi1 : (k : Int) < (n : Int) := by omega
        go_wp2
        go_roundw
        case rel =>
          exact ⟨k + 1, l'.set k 238, by omega, by go_num, by simpa [iv, List.map_set] using (ho.stored k (.int .u8 238)).1, hkeep.setCell (p := ⟨g, k, none⟩) (fun _ => rfl) _⟩
        case measure => simp [intOf]; omega
      · go_wp2_with (first | (at_builtin; refine app_u8 (l := l') rfl _ _ rfl (ho.alloc _) rfl (Rd.one _ _ _ _) rfl (by omega) ?_; intro v1 w1 ho1 hg1 hb1))
        go_end0
        refine ⟨rfl, (hkeep.mono ?_).grown (row := some g) ((World.grownBy_alloc _ _ _).trans hg1) ?_⟩
        · rintro b _ rfl; rfl
        · rintro b hb _; exact hb
/-! ### bytes that are lent -/
/-- Lent bytes: a row with three marked cells behind. -/
def Lent (w : World) (v : Value) (n : Nat) (l : List Int) : Prop := ∃ g, v = .slice (some ⟨g, 0, none⟩) n (n + 3) ∧ Own w 5 1 (.slice (some ⟨g, 0, none⟩) (n + 3) (n + 3)) (n + 3) (iv .u8 (l ++ [119, 119, 119])) ∧ l.length = n

theorem Rd.one' (w : World) (ki : IntKind) (x : Int) (e : TypeId) (B : Nat) (hB : w.heap.size = B) : Rd (w.alloc (.cells #[.int ki x] e)) 1 (some ⟨B, 0, none⟩) 1 (iv ki [x]) := Rd.lit' w (iv ki [x]) e 1 1 B hB rfl (by omega)
theorem shape_of {P : Program} {f : FuncId} {args : Array Value} {w : World} {e : TypeId} {ki : IntKind} {n : Nat} {l : List Int} (h : Calls P f args w fun x w' => ∃ v, x = .returned v ∧ NewB w w' e ki v n l) :
    Calls P f args w fun x w' => ∃ B k, x = .returned (.slice B n k) ∧ NewB w w' e ki (.slice B n k) n l :=
  h.mono fun _ _ ⟨v, he, hn⟩ => by
    obtain ⟨B, k, rfl, _, _⟩ := Own.rd hn.1
    exact ⟨B, k, he, hn⟩
end Go.Proofs.Ytcjackjoonijnaa
