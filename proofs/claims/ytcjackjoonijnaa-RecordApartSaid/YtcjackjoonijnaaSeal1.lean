/-
  Sealed sectors: the sum, walked in both texts; appends of zeros and of a string's bytes.
-/
import Derived.Lib.AppendStr
import Derived.Lib.AppendZerosOnto
import Derived.Test.YtcjackjoonijnaaLend
namespace Go.Proofs.Ytcjackjoonijnaa
open Go.RowKit

/-! ### the sum -/
def xr (a b : Int) : Int := bits BinOp.xor IntKind.u32 a b
theorem xr_lo (a b : Int) : 0 ≤ xr a b ∧ xr a b < 4294967296 := by
  unfold xr bits
  simp only [IntKind.wrap, IntKind.bits, IntKind.signed, Bool.false_and, Bool.false_eq_true, if_false]
  exact ⟨Int.emod_nonneg _ (by decide), Int.emod_lt_of_pos _ (by decide)⟩
def sumS (r x : Int) : Int := xr r (x % 4294967296) * 16777619 % 4294967296
def sumTo (l : List Int) : Int := l.foldl sumS 2166136261
def sumMid (x : Int) : Int := xr x (x / 32768) * 2246822507 % 4294967296
def sumL (l : List Int) : Int := xr (sumMid (sumTo l)) (sumMid (sumTo l) / 8192)
theorem sumS_lo (r x : Int) : 0 ≤ sumS r x ∧ sumS r x < 4294967296 := ⟨Int.emod_nonneg _ (by decide), Int.emod_lt_of_pos _ (by decide)⟩
theorem sumTo_take {l : List Int} {k : Nat} (h : k < l.length) : sumTo (l.take (k + 1)) = sumS (sumTo (l.take k)) (l.getD k 0) := by
  rw [List.take_succ_eq_append_getElem h]
  unfold sumTo
  rw [List.foldl_append, List.getD_eq_getElem?_getD, List.getElem?_eq_getElem h]
  rfl
theorem sumL_lo (l : List Int) : 0 ≤ sumL l ∧ sumL l < 4294967296 := xr_lo _ _

set_option maxHeartbeats 400000 in
theorem Sum_calls (w : World) {A : Option Addr} {n c : Nat} {l : List Int} (hr : Rd w 1 A n (iv .u8 l)) :
    Calls Try.prog 46 #[.slice A n c] w fun e w' => e = .returned (.int .u32 (sumL l)) ∧ w = w' := by
  have hle := hr.le
  have hl := hr.len
  have HL := Lib.hid hl; clear hl
  go_enter Try.func46, Try.ntmps46
  go_wp2
  go_loop [3, 8] (fun r i => ∃ (k : Nat) (x : Int), k ≤ n ∧ i = .int .i64 k ∧ r = .int .u32 x ∧ 0 ≤ x ∧ x < 4294967296 ∧ Hid (x = sumTo (l.take k))) (fun _ i => n - (intOf i).toNat)
  case atStart => exact ⟨0, _, Nat.zero_le _, rfl, rfl, by omega, by omega, rfl⟩
  case round =>
    obtain ⟨k, x, hk, rfl, rfl, hx0, hx1, hx⟩ := hrel
    by_cases hlt : k < n
    · obtain ⟨ad, rfl, hc⟩ := hr.int hlt
      obtain ⟨y, hy⟩ : ∃ y, y = l.getD k 0 := ⟨_, rfl⟩
      rw [← hy] at hc
      have HY := Lib.hid hy; clear hy
      have hs := sumS_lo x y
      go_wp2
      go_round
      case rel => exact ⟨k + 1, sumS x y, by omega, by go_num, rfl, hs.1, hs.2, by show sumS x y = _; rw [sumTo_take (by rw [HL.out]; exact hlt), ← HY.out, ← hx.out]⟩
      case measure => simp [intOf]; omega
    · go_wp2
      go_ret
      obtain rfl : k = n := by omega
      refine ⟨ret_int ?_, rfl⟩
      have e := hx.out
      rw [List.take_of_length_le (by rw [HL.out]; exact Nat.le_refl _)] at e
      unfold sumL
      rw [← e]
      rfl

set_option maxHeartbeats 400000 in
theorem RSum_calls (w : World) {A : Option Addr} {n c : Nat} {l : List Int} (hr : Rd w 1 A n (iv .u8 l)) :
    Calls Try.prog 47 #[.slice A n c] w fun e w' => e = .returned (.int .u32 (sumL l)) ∧ w = w' := by
  have hle := hr.le
  have hl := hr.len
  have HL := Lib.hid hl; clear hl
  go_enter Try.func47, Try.ntmps47
  go_wp2
  go_loop [3, 4] (fun r i => ∃ (k : Nat) (x : Int), k ≤ n ∧ i = .int .i64 k ∧ r = .int .u32 x ∧ 0 ≤ x ∧ x < 4294967296 ∧ Hid (x = sumTo (l.take k))) (fun _ i => n - (intOf i).toNat)
  case atStart => exact ⟨0, _, Nat.zero_le _, rfl, rfl, by omega, by omega, rfl⟩
  case round =>
    obtain ⟨k, x, hk, rfl, rfl, hx0, hx1, hx⟩ := hrel
    by_cases hlt : k < n
    · obtain ⟨ad, rfl, hc⟩ := hr.int hlt
      obtain ⟨y, hy⟩ : ∃ y, y = l.getD k 0 := ⟨_, rfl⟩
      rw [← hy] at hc
      have HY := Lib.hid hy; clear hy
      have hs := sumS_lo x y
      go_wp2
      go_round
      case rel => exact ⟨k + 1, sumS x y, by omega, by go_num, rfl, hs.1, hs.2, by show sumS x y = _; rw [sumTo_take (by rw [HL.out]; exact hlt), ← HY.out, ← hx.out]⟩
      case measure => simp [intOf]; omega
    · go_wp2
      go_ret
      obtain rfl : k = n := by omega
      refine ⟨ret_int ?_, rfl⟩
      have e := hx.out
      rw [List.take_of_length_le (by rw [HL.out]; exact Nat.le_refl _)] at e
      unfold sumL
      rw [← e]
      rfl

/-! ### zeros, and a string's bytes, behind a row of one's own -/
/-- A string's bytes. -/
def sb (s : ByteArray) : List Int := s.data.toList.map fun b => (b.toNat : Int)
theorem sb_len (s : ByteArray) : (sb s).length = s.size := by
  rw [sb, List.length_map, Array.length_toList]; rfl
theorem sb_cells (s : ByteArray) : Lib.strCells s = iv .u8 (sb s) := by simp [Lib.strCells, iv, sb]
theorem zeroCells_one (k : Nat) : (Builtin.zeroCells (Value.int .u8 0).cells k).toList = iv .u8 (List.replicate k 0) := by
  apply List.ext_getElem
  · simp [Builtin.zeroCells, Value.cells, iv]
  · intro i h1 h2
    have e : i % 1 = 0 := Nat.mod_one i
    simp [Builtin.zeroCells, Value.cells, iv, Nat.mod_one]
/-- A row that has just grown into a new block. -/
theorem own_grown (w : World) (news : List Value) (olds : Array Value) (m N c : Nat) (z : Array Value) (hz : z.size = c - N) (hl : olds.size + news.length = N) (hN : N ≤ c) (hc : c ≤ maxLen) (row : Option Nat) :
    Own (w.drew.alloc (.cells (olds ++ news.toArray ++ z) 5)) 5 1 (.slice (some ⟨w.heap.size, 0, none⟩) N c) N (olds.toList ++ news) ∧ w.grownBy (w.drew.alloc (.cells (olds ++ news.toArray ++ z) 5)) row := by
  refine ⟨⟨by simp; omega, .inr ⟨w.heap.size, c, _, rfl, Nat.zero_le _, heap_alloc_new w.drew _, hN, hc, by simp; omega, ?_⟩⟩, ⟨rfl, rfl, rfl, by simp, fun k hk _ => heap_alloc_old w.drew _ hk⟩⟩
  simp only [Array.toList_append]
  rw [List.take_append_of_le_length (by simp; omega), List.take_of_length_le (by simp; omega)]
def Landed (w w' : World) (v v' : Value) (N : Nat) (l : List Int) : Prop := Own w' 5 1 v' N (iv .u8 l) ∧ w.grownBy w' v.ownBlock ∧ (v'.ownBlock = v.ownBlock ∨ v'.ownBlock = some w.heap.size)
theorem run_app_str {w : World} (ty : TypeId) {v : Value} {n : Nat} {l : List Int} (hown : Own w 5 1 v n (iv .u8 l)) (s : ByteArray) (hb : n + s.size ≤ 1000000) :
    ∃ A' c' w', (Builtin.append_ #[24, 9] ty #[v, .string s]).run Try.prog w = .ok (.slice A' (n + s.size) c') w' ∧ Landed w w' v (.slice A' (n + s.size) c') (n + s.size) (l ++ sb s) := by
  obtain ⟨i, hi, hz, hsz, hby⟩ := info_parts info_u8
  have hll := hown.len
  have hsc : (Lib.strCells s).length = s.size := Lib.strCells_length s
  have hap : iv .u8 (l ++ sb s) = iv .u8 l ++ Lib.strCells s := by rw [sb_cells]; simp [iv]
  unfold Landed
  rw [hap]
  by_cases h0 : s.size = 0
  · have hcs : Lib.strCells s = [] := List.eq_nil_of_length_eq_zero (by omega)
    have hf := Lib.run_firstCells_string (P := Try.prog) w 1 s
    rw [h0, hcs] at hf
    rw [hcs, h0, List.append_nil, Nat.add_zero]
    rcases hown.2 with ⟨rfl, rfl⟩ | ⟨g, cap, cur, rfl, _, _, hnc, _⟩
    · exact ⟨none, 0, w, by simp [Builtin.append_, run_underlying Try.underlying24, run_underlying Try.underlying9, sizeOf, typeInfo, hi, hsz, Builtin.lenOf, h0, hf], hown, World.grownBy.refl w _, .inl rfl⟩
    · exact ⟨_, cap, w, by simp [Builtin.append_, run_underlying Try.underlying24, run_underlying Try.underlying9, sizeOf, typeInfo, hi, hsz, Builtin.lenOf, h0, hf, hnc, storeCells], hown, World.grownBy.refl w _, .inl rfl⟩
  · rcases hown.2 with ⟨rfl, rfl⟩ | ⟨g, cap, cur, rfl, hbg, hg, hnc, hcm, hcs, htake⟩
    · have hl0 : l = [] := List.eq_nil_of_length_eq_zero hll
      subst hl0
      have hr := run_append_nil_string (P := Try.prog) w 24 9 ty 5 i (.int .u8 0) Try.underlying24 Try.underlying9 hi hz s (by omega) (by omega) (by rw [hby]; omega)
      have e1 : (s.data.map fun b => Value.int .u8 b.toNat) = (Lib.strCells s).toArray := by
        apply Array.ext'
        simp [Lib.strCells]
      rw [e1] at hr
      obtain ⟨q1, q2⟩ := own_grown w (Lib.strCells s) #[] 0 s.size (grownCap w s.size 0 5) (Builtin.zeroCells (Value.int .u8 0).cells (grownCap w s.size 0 5 - s.size)) (by rw [size_zeroCells]; exact Nat.mul_one _) (by simpa using hsc) (grownCap_ge w s.size 0 _) (grownCap_le_maxLen w s.size 0 _ (by simp [maxLen]; omega)) (Value.slice none 0 0).ownBlock
      simp only [Array.empty_append, Nat.zero_add, List.nil_append, iv, List.map_nil] at q1 q2 hr ⊢
      exact ⟨_, _, _, hr, q1, q2, .inr rfl⟩
    · by_cases hroom : n + s.size ≤ cap
      · have hcs' : cur.size = cap := by simpa using hcs
        have hr := Lib.run_append_room_string (P := Try.prog) w 24 9 ty 5 i Try.underlying24 Try.underlying9 hi hsz g n cap cur hg s hroom (by omega)
        refine ⟨_, _, _, hr, ⟨by simp [hsc, hll], .inr ⟨g, cap, _, rfl, hbg, setRow_heap w g cur _ _ _ hg, hroom, hcm, ?_, ?_⟩⟩, ⟨rfl, rfl, rfl, by simp [World.setRow], fun k _ hk => setRow_other w g k _ (fun e => hk (by simp [Value.ownBlock, e]))⟩, .inl rfl⟩
        · simp only [List.size_toArray, List.length_append, List.length_take, List.length_drop, Array.length_toList, hsc]
          omega
        · have ht' : cur.toList.take n = iv .u8 l := by simpa using htake
          rw [ht', List.take_append_of_le_length (by simp [hsc, hll]), List.take_of_length_le (by simp [hsc, hll])]
      · have holds : ∀ j u, (iv .u8 l)[j]? = some u → w.cell? ((⟨g, 0, none⟩ : Addr).add j) = some u := hown.cells (g := g) rfl
        have hr := Lib.run_append_grow_string (P := Try.prog) w 24 9 ty 5 i (.int .u8 0) Try.underlying24 Try.underlying9 hi hz ⟨g, 0, none⟩ n cap (iv .u8 l) (by rw [hsz]; simpa using hll) holds s (by omega) (by omega) (by rw [hby]; exact growslice_fits (by omega) (by omega))
        obtain ⟨q1, q2⟩ := own_grown w (Lib.strCells s) (iv .u8 l).toArray n (n + s.size) (grownCap w (n + s.size) cap 5) (Builtin.zeroCells (Value.int .u8 0).cells (grownCap w (n + s.size) cap 5 - (n + s.size))) (by rw [size_zeroCells]; exact Nat.mul_one _) (by simp [hsc, hll]) (grownCap_ge w _ cap _) (grownCap_le_maxLen w _ cap _ (by simp [maxLen]; omega)) (Value.slice (some ⟨g, 0, none⟩) n cap).ownBlock
        exact ⟨_, _, _, hr, q1, q2, .inr rfl⟩
theorem run_app_zeros {w : World} (ty : TypeId) {v : Value} {n : Nat} {l : List Int} (hown : Own w 5 1 v n (iv .u8 l)) (k : Nat) (hb : n + k ≤ 1000000) :
    ∃ A' c' w', (Builtin.append_ #[24, 3] ty #[v, .int .i64 k]).run Try.prog w = .ok (.slice A' (n + k) c') w' ∧ Landed w w' v (.slice A' (n + k) c') (n + k) (l ++ List.replicate k 0) := by
  obtain ⟨i, hi, hz, hsz, hby⟩ := info_parts info_u8
  have hll := hown.len
  have hap : iv .u8 (l ++ List.replicate k 0) = iv .u8 l ++ iv .u8 (List.replicate k 0) := by simp [iv]
  have hzc := zeroCells_one k
  have hzl : (iv .u8 (List.replicate k 0)).length = k := by simp
  have hza : Builtin.zeroCells (Value.int .u8 0).cells k = (iv .u8 (List.replicate k 0)).toArray := by rw [← hzc]
  have hw : IntKind.i64.wrap (k : Int) = k := by rw [IntKind.wrap_i64]; omega
  have hneg : ¬ ((k : Int) < 0) := by omega
  have h48 : ¬ (281474976710656 < (k : Int)) := by omega
  unfold Landed
  rw [hap]
  by_cases h0 : k = 0
  · subst h0
    simp only [List.replicate_zero, iv, List.map_nil, List.append_nil, Nat.add_zero]
    rcases hown.2 with ⟨rfl, rfl⟩ | ⟨g, cap, cur, rfl, _, _, hnc, _⟩
    · exact ⟨none, 0, w, by simp [Builtin.append_, run_underlying Try.underlying24, run_underlying Try.underlying3, sizeOf, typeInfo, hi, hsz, asInt, asIntOf, IntKind.wrap_i64], hown, World.grownBy.refl w _, .inl rfl⟩
    · exact ⟨_, cap, w, by simp [Builtin.append_, run_underlying Try.underlying24, run_underlying Try.underlying3, sizeOf, typeInfo, hi, hsz, asInt, asIntOf, IntKind.wrap_i64, hnc, storeCells], hown, World.grownBy.refl w _, .inl rfl⟩
  · rcases hown.2 with ⟨rfl, rfl⟩ | ⟨g, cap, cur, rfl, hbg, hg, hnc, hcm, hcs, htake⟩
    · have hl0 : l = [] := List.eq_nil_of_length_eq_zero hll
      subst hl0
      have hr := Lib.run_append_nil_zeros (P := Try.prog) w 24 3 ty 5 i (.int .u8 0) .i64 .i64 Try.underlying24 Try.underlying3 hi hz k (by omega) (by omega) (by omega) (by rw [hby]; omega)
      rw [hza] at hr
      obtain ⟨q1, q2⟩ := own_grown w (iv .u8 (List.replicate k 0)) #[] 0 k (grownCap w k 0 5) (Builtin.zeroCells (Value.int .u8 0).cells (grownCap w k 0 5 - k)) (by rw [size_zeroCells]; exact Nat.mul_one _) (by simp) (grownCap_ge w k 0 _) (grownCap_le_maxLen w k 0 _ (by simp [maxLen]; omega)) (Value.slice none 0 0).ownBlock
      simp only [Array.empty_append, Nat.zero_add, List.nil_append] at q1 q2 hr ⊢
      exact ⟨_, _, _, hr, by simpa [iv] using q1, q2, .inr rfl⟩
    · by_cases hroom : n + k ≤ cap
      · have hcs' : cur.size = cap := by simpa using hcs
        have hst := run_storeCells_at Try.prog g n 5 (iv .u8 (List.replicate k 0)) 0 cur w hg (by rw [hzl]; omega) (iv_one _ _)
        rw [Nat.add_zero, hzl] at hst
        have hr : (Builtin.append_ #[24, 3] ty #[.slice (some ⟨g, 0, none⟩) n cap, .int .i64 k]).run Try.prog w = .ok (.slice (some ⟨g, 0, none⟩) (n + k) cap) (w.setRow g (cur.toList.take n ++ iv .u8 (List.replicate k 0) ++ cur.toList.drop (n + k)).toArray) := by
          simp [Builtin.append_, run_underlying Try.underlying24, run_underlying Try.underlying3, sizeOf, typeInfo, zeroValue, hi, hz, hsz, hby, asInt, asIntOf, hw, hneg, h48, h0, hroom, hza, Addr.add_lit]
          simp [iv] at hst ⊢
          rw [hst]
          rfl
        refine ⟨_, _, _, hr, ⟨by simp [hll], .inr ⟨g, cap, _, rfl, hbg, setRow_heap w g cur _ _ _ hg, hroom, hcm, ?_, ?_⟩⟩, ⟨rfl, rfl, rfl, by simp [World.setRow], fun k _ hk => setRow_other w g k _ (fun e => hk (by simp [Value.ownBlock, e]))⟩, .inl rfl⟩
        · simp only [List.size_toArray, List.length_append, List.length_take, List.length_drop, Array.length_toList, hzl]
          omega
        · have ht' : cur.toList.take n = iv .u8 l := by simpa using htake
          rw [ht', List.take_append_of_le_length (by simp [hll]), List.take_of_length_le (by simp [hll])]
      · have hold : (Builtin.firstCells i.size n (.slice (some ⟨g, 0, none⟩) n cap)).run Try.prog w.drew = .ok (iv .u8 l).toArray w.drew :=
          run_firstCells_some (P := Try.prog) w.drew i.size n ⟨g, 0, none⟩ n cap (iv .u8 l) (by rw [hsz]; simpa using hll) (by have := hown.cells (g := g) rfl; simpa using this)
        have hr := Lib.run_append_grow_zeros (P := Try.prog) w 24 3 ty 5 i (.int .u8 0) .i64 .i64 Try.underlying24 Try.underlying3 hi hz (some ⟨g, 0, none⟩) n cap (iv .u8 l) hold k (by omega) (by omega) (by omega) (by omega) (by rw [hby]; omega) (by rw [hby]; exact growslice_fits (by omega) (by omega))
        rw [hza] at hr
        obtain ⟨q1, q2⟩ := own_grown w (iv .u8 (List.replicate k 0)) (iv .u8 l).toArray n (n + k) (grownCap w (n + k) cap 5) (Builtin.zeroCells (Value.int .u8 0).cells (grownCap w (n + k) cap 5 - (n + k))) (by rw [size_zeroCells]; exact Nat.mul_one _) (by simp [hll]) (grownCap_ge w _ cap _) (grownCap_le_maxLen w _ cap _ (by simp [maxLen]; omega)) (Value.slice (some ⟨g, 0, none⟩) n cap).ownBlock
        exact ⟨_, _, _, hr, q1, q2, .inr rfl⟩
theorem app_str {ops : Array Oper} {rest : List Oper} {o : Oper} {a : Act} {Q : Exit → Act → World → Prop} {w : World} (hgd : o.guard = none) (sl x : Operand)
    (ho : o.op = .call { callee := .builtin .append, args := #[sl, x], argTypes := #[24, 9] })
    {v : Value} {n : Nat} {l : List Int} (hown : Own w 5 1 v n (iv .u8 l)) (hs : a.eval sl = v) {s : ByteArray} (hx : a.eval x = .string s) (hb : n + s.size ≤ 1000000)
    (h : ∀ A' c' w', Landed w w' v (.slice A' (n + s.size) c') (n + s.size) (l ++ sb s) → wpList Try.prog ops Q rest (a.put o.dst (.slice A' (n + s.size) c')) w') : wpList Try.prog ops Q (o :: rest) a w := by
  obtain ⟨A', c', w', hr, hL⟩ := run_app_str (w := w) o.type hown s hb
  refine wpList_plain hgd fun K hK => ?_
  unfold Oper.wp execOp
  simp only [ho, resolve, invoke, builtin, Sem.run_bind, Sem.run_pure, Result.andThen_ok, List.map_toArray, List.map_cons, List.map_nil, hs, hx, hr]
  exact hK _ _ (h A' c' w' hL)
theorem app_zeros {ops : Array Oper} {rest : List Oper} {o : Oper} {a : Act} {Q : Exit → Act → World → Prop} {w : World} (hgd : o.guard = none) (sl x : Operand)
    (ho : o.op = .call { callee := .builtin .append, args := #[sl, x], argTypes := #[24, 3] })
    {v : Value} {n : Nat} {l : List Int} (hown : Own w 5 1 v n (iv .u8 l)) (hs : a.eval sl = v) {z : Int} (hx : a.eval x = .int .i64 z) (k : Nat) (hz : z = (k : Int)) (hb : n + k ≤ 1000000)
    (h : ∀ A' c' w', Landed w w' v (.slice A' (n + k) c') (n + k) (l ++ List.replicate k 0) → wpList Try.prog ops Q rest (a.put o.dst (.slice A' (n + k) c')) w') : wpList Try.prog ops Q (o :: rest) a w := by
  subst hz
  obtain ⟨A', c', w', hr, hL⟩ := run_app_zeros (w := w) o.type hown k hb
  refine wpList_plain hgd fun K hK => ?_
  unfold Oper.wp execOp
  simp only [ho, resolve, invoke, builtin, Sem.run_bind, Sem.run_pure, Result.andThen_ok, List.map_toArray, List.map_cons, List.map_nil, hs, hx, hr]
  exact hK _ _ (h A' c' w' hL)
theorem Landed.newB {w W W' : World} {v v' : Value} {N n : Nat} {l l0 : List Int} (h : Landed W W' v v' N l) (h0 : NewB w W 5 .u8 v n l0) : NewB w W' 5 .u8 v' N l := newB_app h0.2.1 h0.2.2 h.1 h.2.1 h.2.2
end Go.Proofs.Ytcjackjoonijnaa
