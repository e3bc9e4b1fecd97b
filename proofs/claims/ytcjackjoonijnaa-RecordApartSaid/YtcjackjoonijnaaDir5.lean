/-
  A block of slots: laid in the document's own text.
-/
import Derived.Test.YtcjackjoonijnaaDir4
namespace Go.Proofs.Ytcjackjoonijnaa
open Go.RowKit

theorem okB_lost2 {k : Int} {x a b c d : Slt} (hz : (x.ino != 0) = true) (h : findI x.name a b c d ≠ k) : okB k x a b c d = false := by
  have h1 : ¬ x.ino = 0 := by simpa using hz
  simp [okB, h1, h]
theorem okB_zero2 {k : Int} {x a b c d : Slt} (hm : mayB x = true) (h : (x.ino != 0) = false) : okB k x a b c d = true := by
  have h1 : x.ino = 0 := by simpa using h
  simp [okB, hm, h1]
theorem step_u8 {ops : Array Oper} {o : Oper} {a : Act} {K : Act → World → Prop} {Q : Exit → Act → World → Prop} {E : Prop} {w : World} (hgd : o.guard = none) (s x : Operand)
    (ho : o.op = .call { callee := .builtin .append, args := #[s, x], argTypes := #[24, 24] })
    {v : Value} {n : Nat} {l : List Int} (hown : Own w 5 1 v n (iv .u8 l)) (hs : a.eval s = v)
    {A : Option Addr} {m c : Nat} {news : List Int} (hr : Rd w 1 A m (iv .u8 news)) (hx : a.eval x = .slice A m c) (hb : n + m ≤ 140737488355328)
    (h : ∀ v' w', Own w' 5 1 v' (n + m) (iv .u8 (l ++ news)) → w.grownBy w' v.ownBlock → (v'.ownBlock = v.ownBlock ∨ v'.ownBlock = some w.heap.size) → K (a.put o.dst v') w') : if Region.wanted o (yielded ops a.tmps) = true then Oper.wp Try.prog o a w K Q else E :=
  step_app w hgd s x 24 ho 5 _ 1 1 Try.underlying24 info_u8 rfl (by decide) hown hs hr hx (iv_one _ _) (by omega) (by omega) fun v' w' h2 h3 h4 => h v' w' (by simpa [iv] using h2) h3 h4
theorem step_str {ops : Array Oper} {o : Oper} {a : Act} {K : Act → World → Prop} {Q : Exit → Act → World → Prop} {E : Prop} {w : World} (hgd : o.guard = none) (sl x : Operand)
    (ho : o.op = .call { callee := .builtin .append, args := #[sl, x], argTypes := #[24, 9] })
    {v : Value} {n : Nat} {l : List Int} (hown : Own w 5 1 v n (iv .u8 l)) (hs : a.eval sl = v) {s : ByteArray} (hx : a.eval x = .string s) (hb : n + s.size ≤ 1000000)
    (h : ∀ A' c' w', Landed w w' v (.slice A' (n + s.size) c') (n + s.size) (l ++ sb s) → K (a.put o.dst (.slice A' (n + s.size) c')) w') : if Region.wanted o (yielded ops a.tmps) = true then Oper.wp Try.prog o a w K Q else E := by
  have hw : Region.wanted o (yielded ops a.tmps) = true := by simp [Region.wanted, hgd]
  rw [if_pos hw]
  obtain ⟨A', c', w', hr, hL⟩ := run_app_str (w := w) o.type hown s hb
  unfold Oper.wp execOp
  simp only [ho, resolve, invoke, builtin, Sem.run_bind, Sem.run_pure, Result.andThen_ok, List.map_toArray, List.map_cons, List.map_nil, hs, hx, hr]
  exact h A' c' w' hL
def headW (x : Slt) : List Int := [IntKind.u8.wrap (x.ino / 256), IntKind.u8.wrap x.ino, IntKind.u8.wrap x.kind, IntKind.u8.wrap x.name.size]
theorem headW_eq {x : Slt} (h : x.name.size ≤ 24) : headW x = headL x := by
  unfold headW headL
  rw [IntKind.wrap_u8, IntKind.wrap_u8, IntKind.wrap_u8, IntKind.wrap_u8, Int.emod_eq_of_lt (a := (x.name.size : Int)) (by omega) (by omega)]
def headO (x : Slt) : Obj := .cells #[.int .u8 (IntKind.u8.wrap (x.ino / 256)), .int .u8 (IntKind.u8.wrap x.ino), .int .u8 (IntKind.u8.wrap x.kind), .int .u8 (IntKind.u8.wrap x.name.size)] 5
theorem head_rd (w : World) (x : Slt) : Rd (w.alloc (headO x)) 1 (some ⟨w.heap.size, 0, none⟩) 4 (iv .u8 (headW x)) := Rd.lit' w (iv .u8 (headW x)) 5 1 4 w.heap.size rfl rfl (by omega)
theorem laid_list (l : List Int) {x : Slt} (h : x.name.size ≤ 24) : l ++ headW x ++ sb x.name ++ List.replicate (24 - x.name.size) 0 = l ++ laidL x := by simp [laidL, headW_eq h]

set_option maxRecDepth 100000 in
set_option maxHeartbeats 4000000 in
theorem RLay_calls (p q r t : Slt) (w : World) : Calls Try.prog 24 #[sltsV p q r t] w (LayPost p q r t w) := by
  obtain ⟨pi, pk, pn⟩ := p
  obtain ⟨qi, qk, qn⟩ := q
  obtain ⟨ri, rk, rn⟩ := r
  obtain ⟨ti, tk, tn⟩ := t
  unfold sltsV
  dsimp only
  go_enter Try.func24, Try.ntmps24
  go_wp2
  go_loopw [4, 5] (fun v i wr => ∃ (k : Int) (n : Nat), (k = 0 ∨ k = 1 ∨ k = 2 ∨ k = 3 ∨ k = 4) ∧ i = .int .i64 k ∧ Hid (PastO ⟨pi, pk, pn⟩ ⟨qi, qk, qn⟩ ⟨ri, rk, rn⟩ ⟨ti, tk, tn⟩ k) ∧ Hid ((n : Int) = 28 * k) ∧ NewB (w.alloc (.cells (sltsC ⟨pi, pk, pn⟩ ⟨qi, qk, qn⟩ ⟨ri, rk, rn⟩ ⟨ti, tk, tn⟩) 40)) wr 5 .u8 v n (goneD ⟨pi, pk, pn⟩ ⟨qi, qk, qn⟩ ⟨ri, rk, rn⟩ ⟨ti, tk, tn⟩ k)) (fun _ i _ => 4 - (intOf i).toNat)
  case atStart => exact ⟨0, 0, by omega, rfl, ⟨fun h => by omega, fun h => by omega, fun h => by omega, fun h => by omega⟩, by show ((0:Nat):Int) = 28 * 0; rfl, Own.nil _ _ _, Keep.refl _ _, freshV_none _ _ _⟩
  case round =>
    obtain ⟨k, n, hk, rfl, HP, HN, hnb⟩ := hrel
    have hbox := (Blk.new w 40 (sltsC ⟨pi, pk, pn⟩ ⟨qi, qk, qn⟩ ⟨ri, rk, rn⟩ ⟨ti, tk, tn⟩)).fresh hnb.2.1
    unfold sltsC at hbox
    have HBX := Lib.hid hbox; clear hbox
    obtain ⟨a0, a1, a2, a3, a4, a5, a6, a7, a8, a9, a10, a11⟩ := Blk.c12 HBX.out
    have hF0 := ((Keep.refl (fun _ => False) w).alloc _).trans hnb.2.1 (fun _ _ f => f)
    obtain ⟨l, hl⟩ : ∃ l, goneD ⟨pi, pk, pn⟩ ⟨qi, qk, qn⟩ ⟨ri, rk, rn⟩ ⟨ti, tk, tn⟩ k = l := ⟨_, rfl⟩
    rw [hl] at hnb
    have HNB := Lib.hid hnb; clear hnb
    have HL := Lib.hid hl; clear hl
    obtain rfl | rfl | rfl | rfl | rfl := hk
    · cases hm : mayB ⟨pi, pk, pn⟩
      · go_wp2_with (first | (go_at_call 30; refine (RMay_calls ⟨pi, pk, pn⟩ _).mono ?_; rintro e w2 ⟨rfl, k2⟩; rw [hm]))
        go_ret2
        exact .inl ⟨lay_no0 (okB_no hm), rfl, (hF0.trans (((Keep.refl (fun _ => False) wr).alloc _).trans k2 (fun _ _ f => f)) (fun _ _ f => f))⟩
      · have hsz : pn.size ≤ 24 := mayB_size hm
        cases hz : (pi != 0)
        · have hok : okB 0 ⟨pi, pk, pn⟩ ⟨pi, pk, pn⟩ ⟨qi, qk, qn⟩ ⟨ri, rk, rn⟩ ⟨ti, tk, tn⟩ = true := okB_zero2 hm hz
          have HOK := Lib.hid hok; clear hok
          go_wp2_with (first | (go_at_call 30; refine (RMay_calls ⟨pi, pk, pn⟩ _).mono ?_; rintro e w2 ⟨rfl, k2⟩; rw [hm]; obtain ⟨b0, b1, b2, b3, b4, b5, b6, b7, b8, b9, b10, b11⟩ := Blk.c12 ((Blk.alloc HBX.out _).fresh k2); have hx2 := Lib.hid ((Blk.new wr 39 #[.int .i64 pi, .int .i64 pk, .string pn]).fresh k2); obtain ⟨x0, x1, x2⟩ := Blk.c3 hx2.out))
          have k5 := (((Keep.refl (fun _ => False) wr).alloc _).trans k2 (fun _ _ f => f)).drew
          have HK5 := Lib.hid k5; clear k5
          have HX := Lib.hid (Blk.drew hx2.out); 
          have hO := own_keep HNB.out.1 HK5.out (fun _ _ f => f)
          have HO := Lib.hid hO; clear hO
          obtain ⟨y0, y1, y2⟩ := Blk.c3 HX.out
          go_region_held3 (fun w' => w'.cell? ⟨wr.heap.size, 0, none⟩ = some (.int .i64 pi) ∧ w'.cell? ⟨wr.heap.size, 1, none⟩ = some (.int .i64 pk) ∧ w'.cell? ⟨wr.heap.size, 2, none⟩ = some (.string pn)) (first | (exact ⟨by assumption, by assumption, by assumption⟩) | go_keep) (first | (refine step_u8 (l := l) rfl (.tmp 30) (.tmp 45) rfl (World.ownsRow.alloc HO.out (headO ⟨pi, pk, pn⟩)) rfl (head_rd w2.drew ⟨pi, pk, pn⟩) rfl (by have := HN.out; omega) ?_; intro v5 w5 ho5 hg5 hb5; obtain ⟨A5, c5, rfl⟩ := ho5.shape; have h5 := Lib.hid (newB_app ((HNB.out.2.1.trans HK5.out (fun _ _ f => f)).alloc (headO ⟨pi, pk, pn⟩)) HNB.out.2.2 ho5 hg5 hb5); have hX5 := Lib.hid ((Blk.alloc HX.out (headO ⟨pi, pk, pn⟩)).grown hg5 (fun e => own_blk_ne (World.ownsRow.alloc HO.out (headO ⟨pi, pk, pn⟩)) (Blk.alloc HX.out _) (by decide) e.symm)); obtain ⟨z0, z1, z2⟩ := Blk.c3 hX5.out) | (refine step_str rfl (.tmp 46) (.tmp 48) rfl h5.out.1 rfl rfl (by have := HN.out; omega) ?_; intro A6 c6 w6 hL6; have h6 := hL6.newB h5.out; have hX6 := Lib.hid (Blk.grown hX5.out hL6.2.1 (fun e => own_blk_ne h5.out.1 hX5.out (by decide) e.symm)); obtain ⟨g0, g1, g2⟩ := Blk.c3 hX6.out))
          obtain ⟨m, hm6⟩ : ∃ m, m = n + 4 + pn.size + (24 - pn.size) := ⟨_, rfl⟩
          have HM6 := Lib.hid hm6; clear hm6
          go_wp2_with (first | (at_builtin; refine app_zeros rfl (.tmp 50) (.tmp 54) rfl h6.1 rfl rfl (24 - pn.size) (by omega) (by have := HN.out; omega) ?_; intro A7 c7 w7 hL7; have h7 := hL7.newB h6; rw [← HM6.out] at h7; rw [← HM6.out]))
          go_round
          case rel => exact ⟨_, _, by omega, rfl, pasto1 HP.out HOK.out, by have := HN.out; have := HM6.out; show ((m : Nat) : Int) = _; omega, gone1 HL.out (laid_list l (x := ⟨pi, pk, pn⟩) hsz ▸ h7)⟩
          case measure => simp [intOf]
        · obtain ⟨z, hf⟩ : ∃ z, findI pn ⟨pi, pk, pn⟩ ⟨qi, qk, qn⟩ ⟨ri, rk, rn⟩ ⟨ti, tk, tn⟩ = z := ⟨_, rfl⟩
          have HF := Lib.hid hf; clear hf
          cases hne : (z != 0)
          · have hok : okB 0 ⟨pi, pk, pn⟩ ⟨pi, pk, pn⟩ ⟨qi, qk, qn⟩ ⟨ri, rk, rn⟩ ⟨ti, tk, tn⟩ = true := okB_found hm (by rw [HF.out]; exact (by simpa using hne))
            have HOK := Lib.hid hok; clear hok
            go_wp2_with (first | (go_at_call 30; refine (RMay_calls ⟨pi, pk, pn⟩ _).mono ?_; rintro e w2 ⟨rfl, k2⟩; rw [hm]; obtain ⟨b0, b1, b2, b3, b4, b5, b6, b7, b8, b9, b10, b11⟩ := Blk.c12 ((Blk.alloc HBX.out _).fresh k2); have hx2 := Lib.hid ((Blk.new wr 39 #[.int .i64 pi, .int .i64 pk, .string pn]).fresh k2); obtain ⟨x0, x1, x2⟩ := Blk.c3 hx2.out) | (go_at_call 32; refine (RFind_calls ⟨pi, pk, pn⟩ ⟨qi, qk, qn⟩ ⟨ri, rk, rn⟩ ⟨ti, tk, tn⟩ pn _).mono ?_; rintro e w3 ⟨rfl, k3⟩; rw [HF.out]; obtain ⟨x3, x4, x5⟩ := Blk.c3 (Blk.fresh hx2.out k3)))
            have k5 := (((Keep.refl (fun _ => False) wr).alloc _).trans (k2.trans k3 (fun _ _ f => f)) (fun _ _ f => f)).drew
            have HK5 := Lib.hid k5; clear k5
            have HX := Lib.hid (Blk.drew (Blk.fresh hx2.out k3)); 
            have hO := own_keep HNB.out.1 HK5.out (fun _ _ f => f)
            have HO := Lib.hid hO; clear hO
            obtain ⟨y0, y1, y2⟩ := Blk.c3 HX.out
            go_region_held3 (fun w' => w'.cell? ⟨wr.heap.size, 0, none⟩ = some (.int .i64 pi) ∧ w'.cell? ⟨wr.heap.size, 1, none⟩ = some (.int .i64 pk) ∧ w'.cell? ⟨wr.heap.size, 2, none⟩ = some (.string pn)) (first | (exact ⟨by assumption, by assumption, by assumption⟩) | go_keep) (first | (refine step_u8 (l := l) rfl (.tmp 30) (.tmp 45) rfl (World.ownsRow.alloc HO.out (headO ⟨pi, pk, pn⟩)) rfl (head_rd w3.drew ⟨pi, pk, pn⟩) rfl (by have := HN.out; omega) ?_; intro v5 w5 ho5 hg5 hb5; obtain ⟨A5, c5, rfl⟩ := ho5.shape; have h5 := Lib.hid (newB_app ((HNB.out.2.1.trans HK5.out (fun _ _ f => f)).alloc (headO ⟨pi, pk, pn⟩)) HNB.out.2.2 ho5 hg5 hb5); have hX5 := Lib.hid ((Blk.alloc HX.out (headO ⟨pi, pk, pn⟩)).grown hg5 (fun e => own_blk_ne (World.ownsRow.alloc HO.out (headO ⟨pi, pk, pn⟩)) (Blk.alloc HX.out _) (by decide) e.symm)); obtain ⟨z0, z1, z2⟩ := Blk.c3 hX5.out) | (refine step_str rfl (.tmp 46) (.tmp 48) rfl h5.out.1 rfl rfl (by have := HN.out; omega) ?_; intro A6 c6 w6 hL6; have h6 := hL6.newB h5.out; have hX6 := Lib.hid (Blk.grown hX5.out hL6.2.1 (fun e => own_blk_ne h5.out.1 hX5.out (by decide) e.symm)); obtain ⟨g0, g1, g2⟩ := Blk.c3 hX6.out))
            obtain ⟨m, hm6⟩ : ∃ m, m = n + 4 + pn.size + (24 - pn.size) := ⟨_, rfl⟩
            have HM6 := Lib.hid hm6; clear hm6
            go_wp2_with (first | (at_builtin; refine app_zeros rfl (.tmp 50) (.tmp 54) rfl h6.1 rfl rfl (24 - pn.size) (by omega) (by have := HN.out; omega) ?_; intro A7 c7 w7 hL7; have h7 := hL7.newB h6; rw [← HM6.out] at h7; rw [← HM6.out]))
            go_round
            case rel => exact ⟨_, _, by omega, rfl, pasto1 HP.out HOK.out, by have := HN.out; have := HM6.out; show ((m : Nat) : Int) = _; omega, gone1 HL.out (laid_list l (x := ⟨pi, pk, pn⟩) hsz ▸ h7)⟩
            case measure => simp [intOf]
          · go_wp2_with (first | (go_at_call 30; refine (RMay_calls ⟨pi, pk, pn⟩ _).mono ?_; rintro e w2 ⟨rfl, k2⟩; rw [hm]; obtain ⟨b0, b1, b2, b3, b4, b5, b6, b7, b8, b9, b10, b11⟩ := Blk.c12 ((Blk.alloc HBX.out _).fresh k2); have hx2 := Lib.hid ((Blk.new wr 39 #[.int .i64 pi, .int .i64 pk, .string pn]).fresh k2); obtain ⟨x0, x1, x2⟩ := Blk.c3 hx2.out) | (go_at_call 32; refine (RFind_calls ⟨pi, pk, pn⟩ ⟨qi, qk, qn⟩ ⟨ri, rk, rn⟩ ⟨ti, tk, tn⟩ pn _).mono ?_; rintro e w3 ⟨rfl, k3⟩; rw [HF.out]))
            go_ret2
            exact .inl ⟨lay_no0 (okB_lost2 hz (by rw [HF.out]; exact (by simpa using hne))), rfl, hF0.trans (((Keep.refl (fun _ => False) wr).alloc _).trans (k2.trans k3 (fun _ _ f => f)) (fun _ _ f => f)) (fun _ _ f => f)⟩
    · cases hm : mayB ⟨qi, qk, qn⟩
      · go_wp2_with (first | (go_at_call 30; refine (RMay_calls ⟨qi, qk, qn⟩ _).mono ?_; rintro e w2 ⟨rfl, k2⟩; rw [hm]))
        go_ret2
        exact .inl ⟨lay_no1 (okB_no hm), rfl, (hF0.trans (((Keep.refl (fun _ => False) wr).alloc _).trans k2 (fun _ _ f => f)) (fun _ _ f => f))⟩
      · have hsz : qn.size ≤ 24 := mayB_size hm
        cases hz : (qi != 0)
        · have hok : okB 1 ⟨qi, qk, qn⟩ ⟨pi, pk, pn⟩ ⟨qi, qk, qn⟩ ⟨ri, rk, rn⟩ ⟨ti, tk, tn⟩ = true := okB_zero2 hm hz
          have HOK := Lib.hid hok; clear hok
          go_wp2_with (first | (go_at_call 30; refine (RMay_calls ⟨qi, qk, qn⟩ _).mono ?_; rintro e w2 ⟨rfl, k2⟩; rw [hm]; obtain ⟨b0, b1, b2, b3, b4, b5, b6, b7, b8, b9, b10, b11⟩ := Blk.c12 ((Blk.alloc HBX.out _).fresh k2); have hx2 := Lib.hid ((Blk.new wr 39 #[.int .i64 qi, .int .i64 qk, .string qn]).fresh k2); obtain ⟨x0, x1, x2⟩ := Blk.c3 hx2.out))
          have k5 := (((Keep.refl (fun _ => False) wr).alloc _).trans k2 (fun _ _ f => f)).drew
          have HK5 := Lib.hid k5; clear k5
          have HX := Lib.hid (Blk.drew hx2.out); 
          have hO := own_keep HNB.out.1 HK5.out (fun _ _ f => f)
          have HO := Lib.hid hO; clear hO
          obtain ⟨y0, y1, y2⟩ := Blk.c3 HX.out
          go_region_held3 (fun w' => w'.cell? ⟨wr.heap.size, 0, none⟩ = some (.int .i64 qi) ∧ w'.cell? ⟨wr.heap.size, 1, none⟩ = some (.int .i64 qk) ∧ w'.cell? ⟨wr.heap.size, 2, none⟩ = some (.string qn)) (first | (exact ⟨by assumption, by assumption, by assumption⟩) | go_keep) (first | (refine step_u8 (l := l) rfl (.tmp 30) (.tmp 45) rfl (World.ownsRow.alloc HO.out (headO ⟨qi, qk, qn⟩)) rfl (head_rd w2.drew ⟨qi, qk, qn⟩) rfl (by have := HN.out; omega) ?_; intro v5 w5 ho5 hg5 hb5; obtain ⟨A5, c5, rfl⟩ := ho5.shape; have h5 := Lib.hid (newB_app ((HNB.out.2.1.trans HK5.out (fun _ _ f => f)).alloc (headO ⟨qi, qk, qn⟩)) HNB.out.2.2 ho5 hg5 hb5); have hX5 := Lib.hid ((Blk.alloc HX.out (headO ⟨qi, qk, qn⟩)).grown hg5 (fun e => own_blk_ne (World.ownsRow.alloc HO.out (headO ⟨qi, qk, qn⟩)) (Blk.alloc HX.out _) (by decide) e.symm)); obtain ⟨z0, z1, z2⟩ := Blk.c3 hX5.out) | (refine step_str rfl (.tmp 46) (.tmp 48) rfl h5.out.1 rfl rfl (by have := HN.out; omega) ?_; intro A6 c6 w6 hL6; have h6 := hL6.newB h5.out; have hX6 := Lib.hid (Blk.grown hX5.out hL6.2.1 (fun e => own_blk_ne h5.out.1 hX5.out (by decide) e.symm)); obtain ⟨g0, g1, g2⟩ := Blk.c3 hX6.out))
          obtain ⟨m, hm6⟩ : ∃ m, m = n + 4 + qn.size + (24 - qn.size) := ⟨_, rfl⟩
          have HM6 := Lib.hid hm6; clear hm6
          go_wp2_with (first | (at_builtin; refine app_zeros rfl (.tmp 50) (.tmp 54) rfl h6.1 rfl rfl (24 - qn.size) (by omega) (by have := HN.out; omega) ?_; intro A7 c7 w7 hL7; have h7 := hL7.newB h6; rw [← HM6.out] at h7; rw [← HM6.out]))
          go_round
          case rel => exact ⟨_, _, by omega, rfl, pasto2 HP.out HOK.out, by have := HN.out; have := HM6.out; show ((m : Nat) : Int) = _; omega, gone2 HL.out (laid_list l (x := ⟨qi, qk, qn⟩) hsz ▸ h7)⟩
          case measure => simp [intOf]
        · obtain ⟨z, hf⟩ : ∃ z, findI qn ⟨pi, pk, pn⟩ ⟨qi, qk, qn⟩ ⟨ri, rk, rn⟩ ⟨ti, tk, tn⟩ = z := ⟨_, rfl⟩
          have HF := Lib.hid hf; clear hf
          cases hne : (z != 1)
          · have hok : okB 1 ⟨qi, qk, qn⟩ ⟨pi, pk, pn⟩ ⟨qi, qk, qn⟩ ⟨ri, rk, rn⟩ ⟨ti, tk, tn⟩ = true := okB_found hm (by rw [HF.out]; exact (by simpa using hne))
            have HOK := Lib.hid hok; clear hok
            go_wp2_with (first | (go_at_call 30; refine (RMay_calls ⟨qi, qk, qn⟩ _).mono ?_; rintro e w2 ⟨rfl, k2⟩; rw [hm]; obtain ⟨b0, b1, b2, b3, b4, b5, b6, b7, b8, b9, b10, b11⟩ := Blk.c12 ((Blk.alloc HBX.out _).fresh k2); have hx2 := Lib.hid ((Blk.new wr 39 #[.int .i64 qi, .int .i64 qk, .string qn]).fresh k2); obtain ⟨x0, x1, x2⟩ := Blk.c3 hx2.out) | (go_at_call 32; refine (RFind_calls ⟨pi, pk, pn⟩ ⟨qi, qk, qn⟩ ⟨ri, rk, rn⟩ ⟨ti, tk, tn⟩ qn _).mono ?_; rintro e w3 ⟨rfl, k3⟩; rw [HF.out]; obtain ⟨x3, x4, x5⟩ := Blk.c3 (Blk.fresh hx2.out k3)))
            have k5 := (((Keep.refl (fun _ => False) wr).alloc _).trans (k2.trans k3 (fun _ _ f => f)) (fun _ _ f => f)).drew
            have HK5 := Lib.hid k5; clear k5
            have HX := Lib.hid (Blk.drew (Blk.fresh hx2.out k3)); 
            have hO := own_keep HNB.out.1 HK5.out (fun _ _ f => f)
            have HO := Lib.hid hO; clear hO
            obtain ⟨y0, y1, y2⟩ := Blk.c3 HX.out
            go_region_held3 (fun w' => w'.cell? ⟨wr.heap.size, 0, none⟩ = some (.int .i64 qi) ∧ w'.cell? ⟨wr.heap.size, 1, none⟩ = some (.int .i64 qk) ∧ w'.cell? ⟨wr.heap.size, 2, none⟩ = some (.string qn)) (first | (exact ⟨by assumption, by assumption, by assumption⟩) | go_keep) (first | (refine step_u8 (l := l) rfl (.tmp 30) (.tmp 45) rfl (World.ownsRow.alloc HO.out (headO ⟨qi, qk, qn⟩)) rfl (head_rd w3.drew ⟨qi, qk, qn⟩) rfl (by have := HN.out; omega) ?_; intro v5 w5 ho5 hg5 hb5; obtain ⟨A5, c5, rfl⟩ := ho5.shape; have h5 := Lib.hid (newB_app ((HNB.out.2.1.trans HK5.out (fun _ _ f => f)).alloc (headO ⟨qi, qk, qn⟩)) HNB.out.2.2 ho5 hg5 hb5); have hX5 := Lib.hid ((Blk.alloc HX.out (headO ⟨qi, qk, qn⟩)).grown hg5 (fun e => own_blk_ne (World.ownsRow.alloc HO.out (headO ⟨qi, qk, qn⟩)) (Blk.alloc HX.out _) (by decide) e.symm)); obtain ⟨z0, z1, z2⟩ := Blk.c3 hX5.out) | (refine step_str rfl (.tmp 46) (.tmp 48) rfl h5.out.1 rfl rfl (by have := HN.out; omega) ?_; intro A6 c6 w6 hL6; have h6 := hL6.newB h5.out; have hX6 := Lib.hid (Blk.grown hX5.out hL6.2.1 (fun e => own_blk_ne h5.out.1 hX5.out (by decide) e.symm)); obtain ⟨g0, g1, g2⟩ := Blk.c3 hX6.out))
            obtain ⟨m, hm6⟩ : ∃ m, m = n + 4 + qn.size + (24 - qn.size) := ⟨_, rfl⟩
            have HM6 := Lib.hid hm6; clear hm6
            go_wp2_with (first | (at_builtin; refine app_zeros rfl (.tmp 50) (.tmp 54) rfl h6.1 rfl rfl (24 - qn.size) (by omega) (by have := HN.out; omega) ?_; intro A7 c7 w7 hL7; have h7 := hL7.newB h6; rw [← HM6.out] at h7; rw [← HM6.out]))
            go_round
            case rel => exact ⟨_, _, by omega, rfl, pasto2 HP.out HOK.out, by have := HN.out; have := HM6.out; show ((m : Nat) : Int) = _; omega, gone2 HL.out (laid_list l (x := ⟨qi, qk, qn⟩) hsz ▸ h7)⟩
            case measure => simp [intOf]
          · go_wp2_with (first | (go_at_call 30; refine (RMay_calls ⟨qi, qk, qn⟩ _).mono ?_; rintro e w2 ⟨rfl, k2⟩; rw [hm]; obtain ⟨b0, b1, b2, b3, b4, b5, b6, b7, b8, b9, b10, b11⟩ := Blk.c12 ((Blk.alloc HBX.out _).fresh k2); have hx2 := Lib.hid ((Blk.new wr 39 #[.int .i64 qi, .int .i64 qk, .string qn]).fresh k2); obtain ⟨x0, x1, x2⟩ := Blk.c3 hx2.out) | (go_at_call 32; refine (RFind_calls ⟨pi, pk, pn⟩ ⟨qi, qk, qn⟩ ⟨ri, rk, rn⟩ ⟨ti, tk, tn⟩ qn _).mono ?_; rintro e w3 ⟨rfl, k3⟩; rw [HF.out]))
            go_ret2
            exact .inl ⟨lay_no1 (okB_lost2 hz (by rw [HF.out]; exact (by simpa using hne))), rfl, hF0.trans (((Keep.refl (fun _ => False) wr).alloc _).trans (k2.trans k3 (fun _ _ f => f)) (fun _ _ f => f)) (fun _ _ f => f)⟩
    · cases hm : mayB ⟨ri, rk, rn⟩
      · go_wp2_with (first | (go_at_call 30; refine (RMay_calls ⟨ri, rk, rn⟩ _).mono ?_; rintro e w2 ⟨rfl, k2⟩; rw [hm]))
        go_ret2
        exact .inl ⟨lay_no2 (okB_no hm), rfl, (hF0.trans (((Keep.refl (fun _ => False) wr).alloc _).trans k2 (fun _ _ f => f)) (fun _ _ f => f))⟩
      · have hsz : rn.size ≤ 24 := mayB_size hm
        cases hz : (ri != 0)
        · have hok : okB 2 ⟨ri, rk, rn⟩ ⟨pi, pk, pn⟩ ⟨qi, qk, qn⟩ ⟨ri, rk, rn⟩ ⟨ti, tk, tn⟩ = true := okB_zero2 hm hz
          have HOK := Lib.hid hok; clear hok
          go_wp2_with (first | (go_at_call 30; refine (RMay_calls ⟨ri, rk, rn⟩ _).mono ?_; rintro e w2 ⟨rfl, k2⟩; rw [hm]; obtain ⟨b0, b1, b2, b3, b4, b5, b6, b7, b8, b9, b10, b11⟩ := Blk.c12 ((Blk.alloc HBX.out _).fresh k2); have hx2 := Lib.hid ((Blk.new wr 39 #[.int .i64 ri, .int .i64 rk, .string rn]).fresh k2); obtain ⟨x0, x1, x2⟩ := Blk.c3 hx2.out))
          have k5 := (((Keep.refl (fun _ => False) wr).alloc _).trans k2 (fun _ _ f => f)).drew
          have HK5 := Lib.hid k5; clear k5
          have HX := Lib.hid (Blk.drew hx2.out); 
          have hO := own_keep HNB.out.1 HK5.out (fun _ _ f => f)
          have HO := Lib.hid hO; clear hO
          obtain ⟨y0, y1, y2⟩ := Blk.c3 HX.out
          go_region_held3 (fun w' => w'.cell? ⟨wr.heap.size, 0, none⟩ = some (.int .i64 ri) ∧ w'.cell? ⟨wr.heap.size, 1, none⟩ = some (.int .i64 rk) ∧ w'.cell? ⟨wr.heap.size, 2, none⟩ = some (.string rn)) (first | (exact ⟨by assumption, by assumption, by assumption⟩) | go_keep) (first | (refine step_u8 (l := l) rfl (.tmp 30) (.tmp 45) rfl (World.ownsRow.alloc HO.out (headO ⟨ri, rk, rn⟩)) rfl (head_rd w2.drew ⟨ri, rk, rn⟩) rfl (by have := HN.out; omega) ?_; intro v5 w5 ho5 hg5 hb5; obtain ⟨A5, c5, rfl⟩ := ho5.shape; have h5 := Lib.hid (newB_app ((HNB.out.2.1.trans HK5.out (fun _ _ f => f)).alloc (headO ⟨ri, rk, rn⟩)) HNB.out.2.2 ho5 hg5 hb5); have hX5 := Lib.hid ((Blk.alloc HX.out (headO ⟨ri, rk, rn⟩)).grown hg5 (fun e => own_blk_ne (World.ownsRow.alloc HO.out (headO ⟨ri, rk, rn⟩)) (Blk.alloc HX.out _) (by decide) e.symm)); obtain ⟨z0, z1, z2⟩ := Blk.c3 hX5.out) | (refine step_str rfl (.tmp 46) (.tmp 48) rfl h5.out.1 rfl rfl (by have := HN.out; omega) ?_; intro A6 c6 w6 hL6; have h6 := hL6.newB h5.out; have hX6 := Lib.hid (Blk.grown hX5.out hL6.2.1 (fun e => own_blk_ne h5.out.1 hX5.out (by decide) e.symm)); obtain ⟨g0, g1, g2⟩ := Blk.c3 hX6.out))
          obtain ⟨m, hm6⟩ : ∃ m, m = n + 4 + rn.size + (24 - rn.size) := ⟨_, rfl⟩
          have HM6 := Lib.hid hm6; clear hm6
          go_wp2_with (first | (at_builtin; refine app_zeros rfl (.tmp 50) (.tmp 54) rfl h6.1 rfl rfl (24 - rn.size) (by omega) (by have := HN.out; omega) ?_; intro A7 c7 w7 hL7; have h7 := hL7.newB h6; rw [← HM6.out] at h7; rw [← HM6.out]))
          go_round
          case rel => exact ⟨_, _, by omega, rfl, pasto3 HP.out HOK.out, by have := HN.out; have := HM6.out; show ((m : Nat) : Int) = _; omega, gone3 HL.out (laid_list l (x := ⟨ri, rk, rn⟩) hsz ▸ h7)⟩
          case measure => simp [intOf]
        · obtain ⟨z, hf⟩ : ∃ z, findI rn ⟨pi, pk, pn⟩ ⟨qi, qk, qn⟩ ⟨ri, rk, rn⟩ ⟨ti, tk, tn⟩ = z := ⟨_, rfl⟩
          have HF := Lib.hid hf; clear hf
          cases hne : (z != 2)
          · have hok : okB 2 ⟨ri, rk, rn⟩ ⟨pi, pk, pn⟩ ⟨qi, qk, qn⟩ ⟨ri, rk, rn⟩ ⟨ti, tk, tn⟩ = true := okB_found hm (by rw [HF.out]; exact (by simpa using hne))
            have HOK := Lib.hid hok; clear hok
            go_wp2_with (first | (go_at_call 30; refine (RMay_calls ⟨ri, rk, rn⟩ _).mono ?_; rintro e w2 ⟨rfl, k2⟩; rw [hm]; obtain ⟨b0, b1, b2, b3, b4, b5, b6, b7, b8, b9, b10, b11⟩ := Blk.c12 ((Blk.alloc HBX.out _).fresh k2); have hx2 := Lib.hid ((Blk.new wr 39 #[.int .i64 ri, .int .i64 rk, .string rn]).fresh k2); obtain ⟨x0, x1, x2⟩ := Blk.c3 hx2.out) | (go_at_call 32; refine (RFind_calls ⟨pi, pk, pn⟩ ⟨qi, qk, qn⟩ ⟨ri, rk, rn⟩ ⟨ti, tk, tn⟩ rn _).mono ?_; rintro e w3 ⟨rfl, k3⟩; rw [HF.out]; obtain ⟨x3, x4, x5⟩ := Blk.c3 (Blk.fresh hx2.out k3)))
            have k5 := (((Keep.refl (fun _ => False) wr).alloc _).trans (k2.trans k3 (fun _ _ f => f)) (fun _ _ f => f)).drew
            have HK5 := Lib.hid k5; clear k5
            have HX := Lib.hid (Blk.drew (Blk.fresh hx2.out k3)); 
            have hO := own_keep HNB.out.1 HK5.out (fun _ _ f => f)
            have HO := Lib.hid hO; clear hO
            obtain ⟨y0, y1, y2⟩ := Blk.c3 HX.out
            go_region_held3 (fun w' => w'.cell? ⟨wr.heap.size, 0, none⟩ = some (.int .i64 ri) ∧ w'.cell? ⟨wr.heap.size, 1, none⟩ = some (.int .i64 rk) ∧ w'.cell? ⟨wr.heap.size, 2, none⟩ = some (.string rn)) (first | (exact ⟨by assumption, by assumption, by assumption⟩) | go_keep) (first | (refine step_u8 (l := l) rfl (.tmp 30) (.tmp 45) rfl (World.ownsRow.alloc HO.out (headO ⟨ri, rk, rn⟩)) rfl (head_rd w3.drew ⟨ri, rk, rn⟩) rfl (by have := HN.out; omega) ?_; intro v5 w5 ho5 hg5 hb5; obtain ⟨A5, c5, rfl⟩ := ho5.shape; have h5 := Lib.hid (newB_app ((HNB.out.2.1.trans HK5.out (fun _ _ f => f)).alloc (headO ⟨ri, rk, rn⟩)) HNB.out.2.2 ho5 hg5 hb5); have hX5 := Lib.hid ((Blk.alloc HX.out (headO ⟨ri, rk, rn⟩)).grown hg5 (fun e => own_blk_ne (World.ownsRow.alloc HO.out (headO ⟨ri, rk, rn⟩)) (Blk.alloc HX.out _) (by decide) e.symm)); obtain ⟨z0, z1, z2⟩ := Blk.c3 hX5.out) | (refine step_str rfl (.tmp 46) (.tmp 48) rfl h5.out.1 rfl rfl (by have := HN.out; omega) ?_; intro A6 c6 w6 hL6; have h6 := hL6.newB h5.out; have hX6 := Lib.hid (Blk.grown hX5.out hL6.2.1 (fun e => own_blk_ne h5.out.1 hX5.out (by decide) e.symm)); obtain ⟨g0, g1, g2⟩ := Blk.c3 hX6.out))
            obtain ⟨m, hm6⟩ : ∃ m, m = n + 4 + rn.size + (24 - rn.size) := ⟨_, rfl⟩
            have HM6 := Lib.hid hm6; clear hm6
            go_wp2_with (first | (at_builtin; refine app_zeros rfl (.tmp 50) (.tmp 54) rfl h6.1 rfl rfl (24 - rn.size) (by omega) (by have := HN.out; omega) ?_; intro A7 c7 w7 hL7; have h7 := hL7.newB h6; rw [← HM6.out] at h7; rw [← HM6.out]))
            go_round
            case rel => exact ⟨_, _, by omega, rfl, pasto3 HP.out HOK.out, by have := HN.out; have := HM6.out; show ((m : Nat) : Int) = _; omega, gone3 HL.out (laid_list l (x := ⟨ri, rk, rn⟩) hsz ▸ h7)⟩
            case measure => simp [intOf]
          · go_wp2_with (first | (go_at_call 30; refine (RMay_calls ⟨ri, rk, rn⟩ _).mono ?_; rintro e w2 ⟨rfl, k2⟩; rw [hm]; obtain ⟨b0, b1, b2, b3, b4, b5, b6, b7, b8, b9, b10, b11⟩ := Blk.c12 ((Blk.alloc HBX.out _).fresh k2); have hx2 := Lib.hid ((Blk.new wr 39 #[.int .i64 ri, .int .i64 rk, .string rn]).fresh k2); obtain ⟨x0, x1, x2⟩ := Blk.c3 hx2.out) | (go_at_call 32; refine (RFind_calls ⟨pi, pk, pn⟩ ⟨qi, qk, qn⟩ ⟨ri, rk, rn⟩ ⟨ti, tk, tn⟩ rn _).mono ?_; rintro e w3 ⟨rfl, k3⟩; rw [HF.out]))
            go_ret2
            exact .inl ⟨lay_no2 (okB_lost2 hz (by rw [HF.out]; exact (by simpa using hne))), rfl, hF0.trans (((Keep.refl (fun _ => False) wr).alloc _).trans (k2.trans k3 (fun _ _ f => f)) (fun _ _ f => f)) (fun _ _ f => f)⟩
    · cases hm : mayB ⟨ti, tk, tn⟩
      · go_wp2_with (first | (go_at_call 30; refine (RMay_calls ⟨ti, tk, tn⟩ _).mono ?_; rintro e w2 ⟨rfl, k2⟩; rw [hm]))
        go_ret2
        exact .inl ⟨lay_no3 (okB_no hm), rfl, (hF0.trans (((Keep.refl (fun _ => False) wr).alloc _).trans k2 (fun _ _ f => f)) (fun _ _ f => f))⟩
      · have hsz : tn.size ≤ 24 := mayB_size hm
        cases hz : (ti != 0)
        · have hok : okB 3 ⟨ti, tk, tn⟩ ⟨pi, pk, pn⟩ ⟨qi, qk, qn⟩ ⟨ri, rk, rn⟩ ⟨ti, tk, tn⟩ = true := okB_zero2 hm hz
          have HOK := Lib.hid hok; clear hok
          go_wp2_with (first | (go_at_call 30; refine (RMay_calls ⟨ti, tk, tn⟩ _).mono ?_; rintro e w2 ⟨rfl, k2⟩; rw [hm]; obtain ⟨b0, b1, b2, b3, b4, b5, b6, b7, b8, b9, b10, b11⟩ := Blk.c12 ((Blk.alloc HBX.out _).fresh k2); have hx2 := Lib.hid ((Blk.new wr 39 #[.int .i64 ti, .int .i64 tk, .string tn]).fresh k2); obtain ⟨x0, x1, x2⟩ := Blk.c3 hx2.out))
          have k5 := (((Keep.refl (fun _ => False) wr).alloc _).trans k2 (fun _ _ f => f)).drew
          have HK5 := Lib.hid k5; clear k5
          have HX := Lib.hid (Blk.drew hx2.out); 
          have hO := own_keep HNB.out.1 HK5.out (fun _ _ f => f)
          have HO := Lib.hid hO; clear hO
          obtain ⟨y0, y1, y2⟩ := Blk.c3 HX.out
          go_region_held3 (fun w' => w'.cell? ⟨wr.heap.size, 0, none⟩ = some (.int .i64 ti) ∧ w'.cell? ⟨wr.heap.size, 1, none⟩ = some (.int .i64 tk) ∧ w'.cell? ⟨wr.heap.size, 2, none⟩ = some (.string tn)) (first | (exact ⟨by assumption, by assumption, by assumption⟩) | go_keep) (first | (refine step_u8 (l := l) rfl (.tmp 30) (.tmp 45) rfl (World.ownsRow.alloc HO.out (headO ⟨ti, tk, tn⟩)) rfl (head_rd w2.drew ⟨ti, tk, tn⟩) rfl (by have := HN.out; omega) ?_; intro v5 w5 ho5 hg5 hb5; obtain ⟨A5, c5, rfl⟩ := ho5.shape; have h5 := Lib.hid (newB_app ((HNB.out.2.1.trans HK5.out (fun _ _ f => f)).alloc (headO ⟨ti, tk, tn⟩)) HNB.out.2.2 ho5 hg5 hb5); have hX5 := Lib.hid ((Blk.alloc HX.out (headO ⟨ti, tk, tn⟩)).grown hg5 (fun e => own_blk_ne (World.ownsRow.alloc HO.out (headO ⟨ti, tk, tn⟩)) (Blk.alloc HX.out _) (by decide) e.symm)); obtain ⟨z0, z1, z2⟩ := Blk.c3 hX5.out) | (refine step_str rfl (.tmp 46) (.tmp 48) rfl h5.out.1 rfl rfl (by have := HN.out; omega) ?_; intro A6 c6 w6 hL6; have h6 := hL6.newB h5.out; have hX6 := Lib.hid (Blk.grown hX5.out hL6.2.1 (fun e => own_blk_ne h5.out.1 hX5.out (by decide) e.symm)); obtain ⟨g0, g1, g2⟩ := Blk.c3 hX6.out))
          obtain ⟨m, hm6⟩ : ∃ m, m = n + 4 + tn.size + (24 - tn.size) := ⟨_, rfl⟩
          have HM6 := Lib.hid hm6; clear hm6
          go_wp2_with (first | (at_builtin; refine app_zeros rfl (.tmp 50) (.tmp 54) rfl h6.1 rfl rfl (24 - tn.size) (by omega) (by have := HN.out; omega) ?_; intro A7 c7 w7 hL7; have h7 := hL7.newB h6; rw [← HM6.out] at h7; rw [← HM6.out]))
          go_round
          case rel => exact ⟨_, _, by omega, rfl, pasto4 HP.out HOK.out, by have := HN.out; have := HM6.out; show ((m : Nat) : Int) = _; omega, gone4 HL.out (laid_list l (x := ⟨ti, tk, tn⟩) hsz ▸ h7)⟩
          case measure => simp [intOf]
        · obtain ⟨z, hf⟩ : ∃ z, findI tn ⟨pi, pk, pn⟩ ⟨qi, qk, qn⟩ ⟨ri, rk, rn⟩ ⟨ti, tk, tn⟩ = z := ⟨_, rfl⟩
          have HF := Lib.hid hf; clear hf
          cases hne : (z != 3)
          · have hok : okB 3 ⟨ti, tk, tn⟩ ⟨pi, pk, pn⟩ ⟨qi, qk, qn⟩ ⟨ri, rk, rn⟩ ⟨ti, tk, tn⟩ = true := okB_found hm (by rw [HF.out]; exact (by simpa using hne))
            have HOK := Lib.hid hok; clear hok
            go_wp2_with (first | (go_at_call 30; refine (RMay_calls ⟨ti, tk, tn⟩ _).mono ?_; rintro e w2 ⟨rfl, k2⟩; rw [hm]; obtain ⟨b0, b1, b2, b3, b4, b5, b6, b7, b8, b9, b10, b11⟩ := Blk.c12 ((Blk.alloc HBX.out _).fresh k2); have hx2 := Lib.hid ((Blk.new wr 39 #[.int .i64 ti, .int .i64 tk, .string tn]).fresh k2); obtain ⟨x0, x1, x2⟩ := Blk.c3 hx2.out) | (go_at_call 32; refine (RFind_calls ⟨pi, pk, pn⟩ ⟨qi, qk, qn⟩ ⟨ri, rk, rn⟩ ⟨ti, tk, tn⟩ tn _).mono ?_; rintro e w3 ⟨rfl, k3⟩; rw [HF.out]; obtain ⟨x3, x4, x5⟩ := Blk.c3 (Blk.fresh hx2.out k3)))
            have k5 := (((Keep.refl (fun _ => False) wr).alloc _).trans (k2.trans k3 (fun _ _ f => f)) (fun _ _ f => f)).drew
            have HK5 := Lib.hid k5; clear k5
            have HX := Lib.hid (Blk.drew (Blk.fresh hx2.out k3)); 
            have hO := own_keep HNB.out.1 HK5.out (fun _ _ f => f)
            have HO := Lib.hid hO; clear hO
            obtain ⟨y0, y1, y2⟩ := Blk.c3 HX.out
            go_region_held3 (fun w' => w'.cell? ⟨wr.heap.size, 0, none⟩ = some (.int .i64 ti) ∧ w'.cell? ⟨wr.heap.size, 1, none⟩ = some (.int .i64 tk) ∧ w'.cell? ⟨wr.heap.size, 2, none⟩ = some (.string tn)) (first | (exact ⟨by assumption, by assumption, by assumption⟩) | go_keep) (first | (refine step_u8 (l := l) rfl (.tmp 30) (.tmp 45) rfl (World.ownsRow.alloc HO.out (headO ⟨ti, tk, tn⟩)) rfl (head_rd w3.drew ⟨ti, tk, tn⟩) rfl (by have := HN.out; omega) ?_; intro v5 w5 ho5 hg5 hb5; obtain ⟨A5, c5, rfl⟩ := ho5.shape; have h5 := Lib.hid (newB_app ((HNB.out.2.1.trans HK5.out (fun _ _ f => f)).alloc (headO ⟨ti, tk, tn⟩)) HNB.out.2.2 ho5 hg5 hb5); have hX5 := Lib.hid ((Blk.alloc HX.out (headO ⟨ti, tk, tn⟩)).grown hg5 (fun e => own_blk_ne (World.ownsRow.alloc HO.out (headO ⟨ti, tk, tn⟩)) (Blk.alloc HX.out _) (by decide) e.symm)); obtain ⟨z0, z1, z2⟩ := Blk.c3 hX5.out) | (refine step_str rfl (.tmp 46) (.tmp 48) rfl h5.out.1 rfl rfl (by have := HN.out; omega) ?_; intro A6 c6 w6 hL6; have h6 := hL6.newB h5.out; have hX6 := Lib.hid (Blk.grown hX5.out hL6.2.1 (fun e => own_blk_ne h5.out.1 hX5.out (by decide) e.symm)); obtain ⟨g0, g1, g2⟩ := Blk.c3 hX6.out))
            obtain ⟨m, hm6⟩ : ∃ m, m = n + 4 + tn.size + (24 - tn.size) := ⟨_, rfl⟩
            have HM6 := Lib.hid hm6; clear hm6
            go_wp2_with (first | (at_builtin; refine app_zeros rfl (.tmp 50) (.tmp 54) rfl h6.1 rfl rfl (24 - tn.size) (by omega) (by have := HN.out; omega) ?_; intro A7 c7 w7 hL7; have h7 := hL7.newB h6; rw [← HM6.out] at h7; rw [← HM6.out]))
            go_round
            case rel => exact ⟨_, _, by omega, rfl, pasto4 HP.out HOK.out, by have := HN.out; have := HM6.out; show ((m : Nat) : Int) = _; omega, gone4 HL.out (laid_list l (x := ⟨ti, tk, tn⟩) hsz ▸ h7)⟩
            case measure => simp [intOf]
          · go_wp2_with (first | (go_at_call 30; refine (RMay_calls ⟨ti, tk, tn⟩ _).mono ?_; rintro e w2 ⟨rfl, k2⟩; rw [hm]; obtain ⟨b0, b1, b2, b3, b4, b5, b6, b7, b8, b9, b10, b11⟩ := Blk.c12 ((Blk.alloc HBX.out _).fresh k2); have hx2 := Lib.hid ((Blk.new wr 39 #[.int .i64 ti, .int .i64 tk, .string tn]).fresh k2); obtain ⟨x0, x1, x2⟩ := Blk.c3 hx2.out) | (go_at_call 32; refine (RFind_calls ⟨pi, pk, pn⟩ ⟨qi, qk, qn⟩ ⟨ri, rk, rn⟩ ⟨ti, tk, tn⟩ tn _).mono ?_; rintro e w3 ⟨rfl, k3⟩; rw [HF.out]))
            go_ret2
            exact .inl ⟨lay_no3 (okB_lost2 hz (by rw [HF.out]; exact (by simpa using hne))), rfl, hF0.trans (((Keep.refl (fun _ => False) wr).alloc _).trans (k2.trans k3 (fun _ _ f => f)) (fun _ _ f => f)) (fun _ _ f => f)⟩
    · obtain rfl : n = 112 := by have := HN.out; omega
      have hno := HNB.out
      rw [← HL.out] at hno
      obtain ⟨A6, c6, rfl⟩ := hno.1.shape
      go_wp2_with (go_at_call 37; refine (RSeal_calls _ 68 (Rd.of_own hno.1) (by decide) (by omega)).mono ?_; rintro e w6 ⟨v6, rfl, h6⟩)
      go_ret2
      exact .inr ⟨lay_yes HP.out, _, rfl, h6.1, hF0.trans h6.2.1 (fun _ _ f => f), fun b hb => Nat.le_trans hF0.size (h6.2.2 b hb)⟩
end Go.Proofs.Ytcjackjoonijnaa
