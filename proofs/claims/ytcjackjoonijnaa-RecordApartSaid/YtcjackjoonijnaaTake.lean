/-
  In a region that draws its order a call that leaves the world alone is taken first, as a load is. Laws on regions, no program in sight.
-/
import Derived.OrdersHeld
import Derived.Deep.RegionHeld
namespace Go.Proofs.Ytcjackjoonijnaa

section
variable {P : Program} {ops : Array Oper} {Q : Exit → Act → World → Prop} {md : Region.Mode} {S : World → Prop}

/-- To the operation o the states a and b are the same. -/
def Alike (ops : Array Oper) (o : Oper) (a b : Act) : Prop := execOp b.eval o = execOp a.eval o ∧ Region.wanted o (yielded ops b.tmps) = Region.wanted o (yielded ops a.tmps)
theorem Alike.trans {o : Oper} {a b c : Act} (h : Alike ops o a b) (k : Alike ops o b c) : Alike ops o a c := ⟨k.1.trans h.1, k.2.trans h.2⟩

/-- In each state that is the same to it the operation goes on with v, the world as it was. -/
def Tame (P : Program) (ops : Array Oper) (Q : Exit → Act → World → Prop) (S : World → Prop) (i : Nat) (o : Oper) (v : Value) (a : Act) : Prop :=
  ∀ b, Alike ops o a b → ∀ (K : Act → World → Prop) w, S w → K (b.put o.dst v) w → wpOp P ops Q i K b w
theorem Tame.to {i : Nat} {o : Oper} {v : Value} {a b : Act} (h : Tame P ops Q S i o v a) (k : Alike ops o a b) : Tame P ops Q S i o v b :=
  fun _ kb => h _ (k.trans kb)

/-- What o leaves may be laid ahead of an operation that is apart from it. -/
theorem ahead {j : Nat} {o p : Oper} {v : Value} (hj : ops[j]? = some p) (hap : o.apart ops p = true)
    (ho : ∀ cs b, o.op ≠ .select cs b) (hp : ∀ cs b, p.op ≠ .select cs b)
    (hQ : ∀ c a w, Q (.panic c) (a.put o.dst v) w → Q (.panic c) a w) {K : Act → World → Prop} {a : Act} {w : World}
    (h : wpOp P ops Q j K (a.put o.dst v) w) : wpOp P ops Q j (fun b w' => Alike ops o a b ∧ K (b.put o.dst v) w') a w := by
  obtain ⟨h1, h2, h3⟩ := Oper.apart_spec hap
  have put : ∀ (c : Act), Alike ops o a c → ∀ u, Alike ops o a (c.put p.dst u) := fun c hc u =>
    hc.trans ⟨execOp_put o ho c p.dst u h3, wanted_put o c p.dst u h3⟩
  have same : Alike ops o a a := ⟨rfl, rfl⟩
  have swap : ∀ (c : Act) u w', Alike ops o a c → K ((c.put o.dst v).put p.dst u) w' → Alike ops o a (c.put p.dst u) ∧ K ((c.put p.dst u).put o.dst v) w' :=
    fun c u _ hc hk => ⟨put c hc u, by rw [← Act.put_comm c v u h2]; exact hk⟩
  unfold wpOp at h ⊢
  simp only [hj, wanted_put p a o.dst v h1] at h ⊢
  cases hw : Region.wanted p (yielded ops a.tmps)
  · simp only [hw] at h ⊢
    exact swap a undef w same h
  · simp only [hw, if_true] at h ⊢
    refine h.imp (fun h => ?_) fun ⟨ha, hl⟩ => ⟨by unfold Oper.asks at *; rw [execOp_put p hp a o.dst v h1] at ha; exact ha, hl⟩
    unfold Oper.wp at h ⊢
    rw [execOp_put p hp a o.dst v h1] at h
    revert h
    generalize (execOp a.eval p).run P w = r
    intro h
    cases r with
    | ok n w' =>
      cases n
      case defer d =>
        simp only [Oper.upon] at h ⊢
        exact swap { a with defers := d :: a.defers } undef w' (same.trans ⟨rfl, rfl⟩) (by rw [← Act.put_defers]; exact h)
      case enter f args =>
        simp only [Oper.upon] at h ⊢
        exact Calls.mono h fun e w1 he => match e, he with
          | .returned u, he => swap a u w1 same he
          | .panicked _, he => hQ _ _ _ he
          | .outgrown, he => he
      all_goals simp only [Oper.upon] at h ⊢
      case row => exact Rows.mono h fun u w1 he => swap a u w1 same he
      all_goals first | exact swap a _ w' same h | exact h
    | halt x w' =>
      cases x
      case panic => simp only [Oper.upon] at h ⊢; exact hQ _ _ _ h
      all_goals (simp only [Oper.upon] at h ⊢; try exact h)

theorem tame_first {i : Nat} {o : Oper} {v : Value} (hi : ops[i]? = some o) (hsel : ∀ (j : Nat) (p : Oper) cs b, ops[j]? = some p → p.op ≠ .select cs b)
    (hQ : ∀ c a w, Q (.panic c) (a.put o.dst v) w → Q (.panic c) a w) (fuel : Nat) : ∀ (listed : Array Bool) (a : Act) (w : World),
      (∀ j p, ops[j]? = some p → j ≠ i → listed.getD j true = false → (∀ e ∈ p.after, Region.binds md e = true → e.on ≠ i) → o.apart ops p = true) →
      i ∈ Region.ready md ops listed → Tame P ops Q S i o v a → S w →
      wpAnyH P md ops Q S fuel (listed.setIfInBounds i true) (a.put o.dst v) w → wpAnyH P md ops Q S (fuel + 1) listed a w := by
  induction fuel with
  | zero =>
    intro listed a w _ hr ht hS H
    refine ⟨fun h0 => absurd (h0 ▸ hr) (by simp), fun j hj => ?_⟩
    rcases Decidable.em (j = i) with rfl | hne
    · exact ht a ⟨rfl, rfl⟩ _ w hS ⟨hS, H⟩
    · exact absurd (H.1 ▸ ready_mono hj hne) (by simp)
  | succ fuel ih =>
    intro listed a w hfree hr ht hS H
    refine ⟨fun h0 => absurd (h0 ▸ hr) (by simp), fun j hj => ?_⟩
    rcases Decidable.em (j = i) with rfl | hne
    · exact ht a ⟨rfl, rfl⟩ _ w hS ⟨hS, H⟩
    obtain ⟨hun, p, hp, hall⟩ := mem_ready.1 hj
    have hnot : ∀ e ∈ p.after, Region.binds md e = true → e.on ≠ i := by
      intro e he hb heq
      have e1 := hall e he hb
      have e0 := (mem_ready.1 hr).1
      rw [heq] at e1
      rw [Array.getD_eq_getD_getElem?] at e1 e0
      cases hx : listed[i]? <;> rw [hx] at e1 e0 <;> simp_all
    refine wpOp_mono (fun b w1 h3 => ⟨h3.2.1, ih (listed.setIfInBounds j true) b w1 (fun k q hk hki hu hno => hfree k q hk hki ?_ hno) (ready_mono hr (Ne.symm hne)) (ht.to h3.1) h3.2.1 ?_⟩)
      (ahead hp (hfree j p hp hne hun hnot) (fun cs b => hsel i o cs b hi) (fun cs b => hsel j p cs b hp) hQ (H.2 j (ready_mono hj hne)))
    · rcases Decidable.em (j = k) with rfl | hjk
      · exact hun
      · rwa [getD_set_ne true hjk] at hu
    · rw [Array.setIfInBounds_comm _ _ hne]
      exact h3.2.2

theorem tame_call {i : Nat} {o : Oper} {v : Value} {a : Act} {f : FuncId} {args : Array Value} (hi : ops[i]? = some o) (hw : Region.wanted o (yielded ops a.tmps) = true)
    (hr : ∀ w, (execOp a.eval o).run P w = .ok (.enter f args) w) (hc : ∀ w, S w → Calls P f args w fun e w' => e = .returned v ∧ w = w') : Tame P ops Q S i o v a := by
  intro b hb K w hS hK
  unfold wpOp
  simp only [hi, hb.2, hw, if_true, Oper.wp, hb.1, hr w, Oper.upon]
  exact .inl (Calls.mono (hc w hS) fun e w' ⟨he, hw'⟩ => by subst he; subst hw'; exact hK)
theorem tame_do {i : Nat} {o : Oper} {v : Value} {a : Act} (hi : ops[i]? = some o) (hw : Region.wanted o (yielded ops a.tmps) = true)
    (hr : ∀ w, S w → (execOp a.eval o).run P w = .ok (.value v) w) : Tame P ops Q S i o v a := by
  intro b hb K w hS hK
  unfold wpOp
  simp only [hi, hb.2, hw, if_true, Oper.wp, hb.1, hr w hS, Oper.upon]
  exact .inl hK
theorem tame_skip {i : Nat} {o : Oper} {a : Act} (hi : ops[i]? = some o) (hw : Region.wanted o (yielded ops a.tmps) = false) : Tame P ops Q S i o undef a := by
  intro b hb K w _ hK
  unfold wpOp
  simp only [hi, hb.2, hw]
  exact hK

theorem run_go {f : FuncId} {fn : Func} (hf : P.funcs[f]? = some fn) (hn : (fn.name == "runtime.NumGoroutine") = false) (hb : fn.body.isNone = false) (args : Array Value) (w : World) :
    (callFunc f args).run P w = .ok (.enter f args) w := by
  have hn' : ¬ fn.name = "runtime.NumGoroutine" := by simpa using hn
  have hb' : ¬ fn.body = none := by intro h; rw [h] at hb; cases hb
  simp [callFunc, go_sem, hf, hn', hb']
theorem exec_go {o : Oper} {a : Act} {f : FuncId} {xs : Array Operand} {ats : Array TypeId} (ho : o.op = .call { callee := .value (.func f), args := xs, argTypes := ats }) : execOp a.eval o = callFunc f (#[] ++ xs.map a.eval ++ #[]) := by
  obtain ⟨d, op, t, ps, af, g⟩ := o
  dsimp only at ho
  subst ho
  rfl
/-- Take number 'i', a call that leaves the world alone, first. -/
theorem wpAnyC_call (i : Nat) (d : Option Tmp) {oi : Oper} {f : FuncId} {fn : Func} (hf : P.funcs[f]? = some fn) (hn : (fn.name == "runtime.NumGoroutine") = false) (hb : fn.body.isNone = false) (v : Value) (args : Array Value)
    {xs : Array Operand} {ats : Array TypeId} {fuel : Nat} {listed : Array Bool} {a : Act} {w : World} (hi : ops[i]? = some oi) (hd : oi.dst = d) (ho : oi.op = .call { callee := .value (.func f), args := xs, argTypes := ats }) (hargs : xs.map a.eval = args)
    (hs : Region.noSelect ops = true) (hfr : Region.free md ops listed i = true) (hr : (Region.ready md ops listed).contains i = true)
    (hQ : ∀ c a w, Q (.panic c) (a.put d v) w → Q (.panic c) a w) (hw : Region.wanted oi (yielded ops a.tmps) = true)
    (hc : ∀ w, S w → Calls P f args w fun e w' => e = .returned v ∧ w = w') (hS : S w)
    (h : wpAnyH P md ops Q S fuel (listed.setIfInBounds i true) (a.put d v) w) : wpAnyH P md ops Q S (fuel + 1) listed a w :=
  by subst hd; exact tame_first hi (Region.noSelect_spec hs) hQ fuel listed a w (Region.free_spec hi hfr) (by simpa using hr) (tame_call hi hw (fun w => by rw [exec_go ho, run_go hf hn hb, hargs, Array.append_empty, Array.empty_append]) hc) hS h

/-- Take number 'i', whose guard is shut, first. -/
theorem wpAnyC_skip (i : Nat) (d : Option Tmp) {oi : Oper} {fuel : Nat} {listed : Array Bool} {a : Act} {w : World} (hi : ops[i]? = some oi) (hd : oi.dst = d)
    (hs : Region.noSelect ops = true) (hf : Region.free md ops listed i = true) (hr : (Region.ready md ops listed).contains i = true)
    (hQ : ∀ c a w, Q (.panic c) (a.put d undef) w → Q (.panic c) a w) (hw : Region.wanted oi (yielded ops a.tmps) = false) (hS : S w)
    (h : wpAnyH P md ops Q S fuel (listed.setIfInBounds i true) (a.put d undef) w) : wpAnyH P md ops Q S (fuel + 1) listed a w :=
  by subst hd; exact tame_first hi (Region.noSelect_spec hs) hQ fuel listed a w (Region.free_spec hi hf) (by simpa using hr) (tame_skip hi hw) hS h

/-- Take number 'i', which yields in every world that meets S, first. -/
theorem wpAnyC_do (i : Nat) (d : Option Tmp) {oi : Oper} (v : Value) {fuel : Nat} {listed : Array Bool} {a : Act} {w : World} (hi : ops[i]? = some oi) (hd : oi.dst = d)
    (hs : Region.noSelect ops = true) (hf : Region.free md ops listed i = true) (hr : (Region.ready md ops listed).contains i = true)
    (hQ : ∀ c a w, Q (.panic c) (a.put d v) w → Q (.panic c) a w) (hw : Region.wanted oi (yielded ops a.tmps) = true)
    (hx : ∀ w, S w → (execOp a.eval oi).run P w = .ok (.value v) w) (hS : S w)
    (h : wpAnyH P md ops Q S fuel (listed.setIfInBounds i true) (a.put d v) w) : wpAnyH P md ops Q S (fuel + 1) listed a w :=
  by subst hd; exact tame_first hi (Region.noSelect_spec hs) hQ fuel listed a w (Region.free_spec hi hf) (by simpa using hr) (tame_do hi hw hx) hS h

/-- Number 'i' alone may come up: it does. -/
theorem wpAnyC_one (i : Nat) {o : Oper} {fuel : Nat} {listed : Array Bool} {a : Act} {w : World} (hi : ops[i]? = some o) (hr : Region.ready md ops listed = [i])
    (h : ∀ K' : Act → World → Prop, (∀ a w, S w → (S w → wpAnyH P md ops Q S fuel (listed.setIfInBounds i true) a w) → K' a w) → if Region.wanted o (yielded ops a.tmps) = true then Oper.wp P o a w K' Q else K' (a.put o.dst undef) w) :
    wpAnyH P md ops Q S (fuel + 1) listed a w :=
  wpAnyH_all hr (by simp) fun j hj => by
    obtain rfl : j = i := by simpa using hj
    exact wpOp_step hi (fun K' hK => h K' (fun a w hS hW => hK a w ⟨hS, hW hS⟩))
/-- Numbers 'i' and 'j' may come up: either does. -/
theorem wpAnyC_two (i j : Nat) {o p : Oper} {fuel : Nat} {listed : Array Bool} {a : Act} {w : World} (hi : ops[i]? = some o) (hj : ops[j]? = some p) (hr : Region.ready md ops listed = [i, j])
    (h1 : ∀ K' : Act → World → Prop, (∀ a w, S w → (S w → wpAnyH P md ops Q S fuel (listed.setIfInBounds i true) a w) → K' a w) → if Region.wanted o (yielded ops a.tmps) = true then Oper.wp P o a w K' Q else K' (a.put o.dst undef) w)
    (h2 : ∀ K' : Act → World → Prop, (∀ a w, S w → (S w → wpAnyH P md ops Q S fuel (listed.setIfInBounds j true) a w) → K' a w) → if Region.wanted p (yielded ops a.tmps) = true then Oper.wp P p a w K' Q else K' (a.put p.dst undef) w) :
    wpAnyH P md ops Q S (fuel + 1) listed a w :=
  wpAnyH_all hr (by simp) fun k hk => by
    rcases List.mem_cons.1 hk with rfl | hk
    · exact wpOp_step hi (fun K' hK => h1 K' (fun a w hS hW => hK a w ⟨hS, hW hS⟩))
    · obtain rfl : k = j := by simpa using hk
      exact wpOp_step hj (fun K' hK => h2 K' (fun a w hS hW => hK a w ⟨hS, hW hS⟩))
end
end Go.Proofs.Ytcjackjoonijnaa
