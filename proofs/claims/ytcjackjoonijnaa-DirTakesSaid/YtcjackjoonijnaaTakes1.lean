/-
  Slots of names of two letters, one of them freed: what is found, what is free. The plain law.
-/
import Derived.Test.YtcjackjoonijnaaTells9
import Derived.Test.YtcjackjoonijnaaTake
namespace Go.Proofs.Ytcjackjoonijnaa
open Go.RowKit

/-- The slot that the law lays at k out of a number. -/
def mkS (k x : Int) : Slt := ⟨1 + lowI x 60000, 1 + lowI x 3, strOf [97 + k, 97 + lowI x 26]⟩
def tkS (l : List Int) (i : Nat) : Slt := if i < l.length then mkS i (l.getD i 0) else Slt.zero
def tkC (l : List Int) (k : Int) : Array Value := sltsC (if 1 ≤ k then tkS l 0 else Slt.zero) (if 2 ≤ k then tkS l 1 else Slt.zero) (if 3 ≤ k then tkS l 2 else Slt.zero) (if 4 ≤ k then tkS l 3 else Slt.zero)
theorem tkC0 (l : List Int) : tkC l 0 = zeroC := rfl
theorem tkC4 (l : List Int) : tkC l 4 = sltsC (tkS l 0) (tkS l 1) (tkS l 2) (tkS l 3) := rfl
theorem tk_past {l : List Int} {i : Nat} (h : l.length ≤ i) : tkS l i = Slt.zero := if_neg (by omega)
theorem tk_all {l : List Int} {k : Int} (hk : k = 0 ∨ k = 1 ∨ k = 2 ∨ k = 3 ∨ k = 4) (h : (l.length : Int) ≤ k) : tkC l k = tkC l 4 := by
  rcases hk with rfl | rfl | rfl | rfl | rfl
  · rw [tkC4, tk_past (i := 0) (by omega), tk_past (i := 1) (by omega), tk_past (i := 2) (by omega), tk_past (i := 3) (by omega)]; rfl
  · rw [tkC4, tk_past (i := 1) (by omega), tk_past (i := 2) (by omega), tk_past (i := 3) (by omega)]; rfl
  · rw [tkC4, tk_past (i := 2) (by omega), tk_past (i := 3) (by omega)]; rfl
  · rw [tkC4, tk_past (i := 3) (by omega)]; rfl
  · rfl
section
variable {l : List Int} {x u v y : Int}
theorem tk_step0 (hn : 0 < l.length) (hx : l.getD 0 0 = x) (hu : lowI x 60000 = u) (hv : lowI x 3 = v) (hy : lowI x 26 = y) :
    layC (tkC l 0) 0 [.int .i64 (1 + u), .int .i64 (1 + v), .string (strOf [97, 97 + y])] = tkC l 1 := by
  have h : tkS l 0 = ⟨1 + u, 1 + v, strOf [97, 97 + y]⟩ := by unfold tkS mkS; rw [if_pos hn, hx, hu, hv, hy]; rfl
  show layC (sltsC Slt.zero Slt.zero Slt.zero Slt.zero) 0 _ = sltsC (tkS l 0) Slt.zero Slt.zero Slt.zero
  rw [h]; rfl
theorem tk_step1 (hn : 1 < l.length) (hx : l.getD 1 0 = x) (hu : lowI x 60000 = u) (hv : lowI x 3 = v) (hy : lowI x 26 = y) :
    layC (tkC l 1) 3 [.int .i64 (1 + u), .int .i64 (1 + v), .string (strOf [98, 97 + y])] = tkC l 2 := by
  have h : tkS l 1 = ⟨1 + u, 1 + v, strOf [98, 97 + y]⟩ := by unfold tkS mkS; rw [if_pos hn, hx, hu, hv, hy]; rfl
  show layC (sltsC (tkS l 0) Slt.zero Slt.zero Slt.zero) 3 _ = sltsC (tkS l 0) (tkS l 1) Slt.zero Slt.zero
  rw [h]; rfl
theorem tk_step2 (hn : 2 < l.length) (hx : l.getD 2 0 = x) (hu : lowI x 60000 = u) (hv : lowI x 3 = v) (hy : lowI x 26 = y) :
    layC (tkC l 2) 6 [.int .i64 (1 + u), .int .i64 (1 + v), .string (strOf [99, 97 + y])] = tkC l 3 := by
  have h : tkS l 2 = ⟨1 + u, 1 + v, strOf [99, 97 + y]⟩ := by unfold tkS mkS; rw [if_pos hn, hx, hu, hv, hy]; rfl
  show layC (sltsC (tkS l 0) (tkS l 1) Slt.zero Slt.zero) 6 _ = sltsC (tkS l 0) (tkS l 1) (tkS l 2) Slt.zero
  rw [h]; rfl
theorem tk_step3 (hn : 3 < l.length) (hx : l.getD 3 0 = x) (hu : lowI x 60000 = u) (hv : lowI x 3 = v) (hy : lowI x 26 = y) :
    layC (tkC l 3) 9 [.int .i64 (1 + u), .int .i64 (1 + v), .string (strOf [100, 97 + y])] = tkC l 4 := by
  have h : tkS l 3 = ⟨1 + u, 1 + v, strOf [100, 97 + y]⟩ := by unfold tkS mkS; rw [if_pos hn, hx, hu, hv, hy]; rfl
  show layC (sltsC (tkS l 0) (tkS l 1) (tkS l 2) Slt.zero) 9 _ = sltsC (tkS l 0) (tkS l 1) (tkS l 2) (tkS l 3)
  rw [h]; rfl
end
/-- The slots behind the freeing of number m. -/
def frS (l : List Int) (m i : Nat) : Slt := if m = i then Slt.zero else tkS l i
theorem fr_lay (l : List Int) (m : Nat) (hm : m < 4) : layC (tkC l 4) (m * 3) [.int .i64 0, .int .i64 0, .string ⟨#[]⟩] = sltsC (frS l m 0) (frS l m 1) (frS l m 2) (frS l m 3) := by
  rw [tkC4]
  match m, hm with
  | 0, _ => rfl
  | 1, _ => rfl
  | 2, _ => rfl
  | 3, _ => rfl
theorem low_pos (x n : Int) (h : 1 ≤ n) : 0 ≤ lowI x n ∧ lowI x n < n := ⟨lowI_nn x n h, lowI_lt x n h⟩
theorem two_bytes (i : Nat) (hi : i < 4) (x : Int) : Bytes8 [97 + (i : Int), 97 + lowI x 26] := by
  have := low_pos x 26 (by decide)
  intro y hy
  simp only [List.mem_cons, List.not_mem_nil, or_false] at hy
  rcases hy with rfl | rfl <;> omega
theorem mk_name (i : Nat) (hi : i < 4) (x : Int) : nameB (mkS i x).name = true := by
  have hb := two_bytes i hi x
  have hs : (strOf [97 + (i : Int), 97 + lowI x 26]).toList = [UInt8.ofNat (97 + (i : Int)).toNat, UInt8.ofNat (97 + lowI x 26).toNat] := by rw [Lib.toList_data]; rfl
  have hsz : (strOf [97 + (i : Int), 97 + lowI x 26]).size = 2 := rfl
  have hbad : hasBad (strOf [97 + (i : Int), 97 + lowI x 26]) = false := by
    unfold hasBad
    rw [sb_strOf hb]
    have := low_pos x 26 (by decide)
    simp only [List.any_cons, List.any_nil, Bool.or_false, Bool.or_eq_false_iff, decide_eq_false_iff_not]
    omega
  show nameB (strOf [97 + (i : Int), 97 + lowI x 26]) = true
  have h1 : (([UInt8.ofNat (97 + (i : Int)).toNat, UInt8.ofNat (97 + lowI x 26).toNat] : List UInt8) == [46, 46]) = false := by
    rw [beq_eq_false_iff_ne]
    intro e
    have e0 := (List.cons.inj e).1
    have : (97 + (i : Int)).toNat = 97 + i := by omega
    rw [this] at e0
    match i, hi with
    | 0, _ => exact absurd e0 (by decide)
    | 1, _ => exact absurd e0 (by decide)
    | 2, _ => exact absurd e0 (by decide)
    | 3, _ => exact absurd e0 (by decide)
  unfold nameB
  rw [hs, hsz, hbad, h1]
  simp
theorem mk_may (i : Nat) (hi : i < 4) (x : Int) : mayB (mkS i x) = true := by
  have h1 := low_pos x 60000 (by decide)
  have h2 := low_pos x 3 (by decide)
  have hn := mk_name i hi x
  unfold mayB
  rw [hn]
  have a : decide (1 ≤ (mkS i x).ino) = true := decide_eq_true (by show 1 ≤ 1 + lowI x 60000; omega)
  have b : decide ((mkS i x).ino ≤ 65535) = true := decide_eq_true (by show 1 + lowI x 60000 ≤ 65535; omega)
  have c : decide (1 ≤ (mkS i x).kind) = true := decide_eq_true (by show 1 ≤ 1 + lowI x 3; omega)
  have d : decide ((mkS i x).kind ≤ 3) = true := decide_eq_true (by show 1 + lowI x 3 ≤ 3; omega)
  rw [a, b, c, d]
  simp
theorem zero_may : mayB Slt.zero = true := by decide +kernel
theorem fr_may (l : List Int) (m i : Nat) (hi : i < 4) : mayB (frS l m i) = true := by
  unfold frS tkS
  split
  · exact zero_may
  · split
    · exact mk_may i hi _
    · exact zero_may
theorem tk_ino (l : List Int) (i : Nat) : (tkS l i).ino = 0 ∨ 1 ≤ (tkS l i).ino := by
  unfold tkS
  split
  · right
    have := low_pos (l.getD i 0) 60000 (by decide)
    show 1 ≤ 1 + lowI _ 60000
    omega
  · exact .inl rfl
theorem tk_live {l : List Int} {i : Nat} (h : (tkS l i).ino ≠ 0) : i < l.length := by
  rcases Nat.lt_or_ge i l.length with h1 | h1
  · exact h1
  · rw [tk_past h1] at h; exact absurd rfl h
theorem hit_zeroS (s : ByteArray) : hitB s Slt.zero = false := rfl
theorem hit_fr (l : List Int) (m i j : Nat) (hi : i < 4) (hj : j < 4) (h : (tkS l i).ino ≠ 0) : hitB (tkS l i).name (frS l m j) = (decide (i = j) && !decide (m = j)) := by
  by_cases hmj : m = j
  · simp [frS, hmj, hit_zeroS]
  · have hfr : frS l m j = tkS l j := if_neg hmj
    rw [hfr, decide_eq_false hmj, Bool.not_false, Bool.and_true]
    by_cases hij : i = j
    · subst hij
      have : ((tkS l i).ino != 0) = true := by simpa using h
      simp [hitB, this]
    · rw [decide_eq_false hij]
      have hli := tk_live h
      rcases Nat.lt_or_ge j l.length with hlj | hlj
      · have e1 : tkS l i = mkS i (l.getD i 0) := if_pos hli
        have e2 : tkS l j = mkS j (l.getD j 0) := if_pos hlj
        rw [e1, e2]
        unfold hitB
        have : ((mkS j (l.getD j 0)).name.toList == (mkS i (l.getD i 0)).name.toList) = false := by
          show ((strOf _).toList == (strOf _).toList) = false
          rw [str_same (two_bytes j hj _) (two_bytes i hi _), decide_eq_false_iff_not]
          intro e
          have := (List.cons.inj e).1
          omega
        rw [this, Bool.and_false]
      · rw [tk_past hlj, hit_zeroS]
theorem find_fr (l : List Int) (m i : Nat) (hi : i < 4) (h : (tkS l i).ino ≠ 0) : findI (tkS l i).name (frS l m 0) (frS l m 1) (frS l m 2) (frS l m 3) = if m = i then -1 else (i : Int) := by
  unfold findI
  rw [hit_fr l m i 0 hi (by decide) h, hit_fr l m i 1 hi (by decide) h, hit_fr l m i 2 hi (by decide) h, hit_fr l m i 3 hi (by decide) h]
  match i, hi with
  | 0, _ => by_cases e : m = 0 <;> simp [e]
  | 1, _ => by_cases e : m = 1 <;> simp [e]
  | 2, _ => by_cases e : m = 2 <;> simp [e]
  | 3, _ => by_cases e : m = 3 <;> simp [e]
theorem fr_ok (l : List Int) (m i : Nat) (hi : i < 4) : okB i (frS l m i) (frS l m 0) (frS l m 1) (frS l m 2) (frS l m 3) = true := by
  unfold okB
  rw [fr_may l m i hi, Bool.true_and]
  by_cases hz : (frS l m i).ino = 0
  · simp [hz]
  · have hmi : m ≠ i := by rintro rfl; exact hz (by simp [frS, Slt.zero])
    have e : frS l m i = tkS l i := if_neg hmi
    rw [e] at hz ⊢
    rw [find_fr l m i hi hz, if_neg hmi]
    simp
theorem fr_lay_ok (l : List Int) (m : Nat) : layOkB (frS l m 0) (frS l m 1) (frS l m 2) (frS l m 3) = true := by
  have h0 := fr_ok l m 0 (by decide)
  have h1 := fr_ok l m 1 (by decide)
  have h2 := fr_ok l m 2 (by decide)
  have h3 := fr_ok l m 3 (by decide)
  unfold layOkB
  simp only [Bool.and_eq_true]
  exact ⟨⟨⟨h0, h1⟩, h2⟩, h3⟩
theorem fr_free (l : List Int) (m : Nat) (hm : m < 4) : 0 ≤ freeI (frS l m 0) (frS l m 1) (frS l m 2) (frS l m 3) ∧ freeI (frS l m 0) (frS l m 1) (frS l m 2) (frS l m 3) ≤ m := by
  have hz : (frS l m m).ino = 0 := by simp [frS, Slt.zero]
  unfold freeI
  match m, hm with
  | 0, _ => rw [if_pos hz]; omega
  | 1, _ => rw [if_pos hz]; split <;> omega
  | 2, _ => rw [if_pos hz]; split; omega; split <;> omega
  | 3, _ => rw [if_pos hz]; split; omega; split; omega; split <;> omega
theorem hit_zzz (l : List Int) (m i : Nat) : hitB ⟨#[122, 122, 122]⟩ (frS l m i) = false := by
  unfold frS
  split
  · rfl
  · unfold tkS
    split
    · unfold hitB
      have : ((mkS i (l.getD i 0)).name.toList == (⟨#[122, 122, 122]⟩ : ByteArray).toList) = false := by
        rw [beq_eq_false_iff_ne, Lib.toList_data, Lib.toList_data]
        intro e
        have := congrArg List.length e
        simp [mkS, strOf] at this
      rw [this, Bool.and_false]
    · rfl
theorem find_zzz (l : List Int) (m : Nat) : findI ⟨#[122, 122, 122]⟩ (frS l m 0) (frS l m 1) (frS l m 2) (frS l m 3) = -1 := by
  simp [findI, hit_zzz]
theorem two_rd (w : World) (a b : Int) : Rd (w.alloc (.cells #[.int .u8 a, .int .u8 b] 5)) 1 (some ⟨w.heap.size, 0, none⟩) 2 (iv .u8 [a, b]) :=
  Rd.lit' w (iv .u8 [a, b]) 5 1 2 w.heap.size rfl rfl (by omega)
theorem two_conv (w : World) (a b : Int) : (convert 24 9 (.slice (some ⟨w.heap.size, 0, none⟩) 2 2)).run Try.prog (w.alloc (.cells #[.int .u8 a, .int .u8 b] 5)).drew = .ok (.string (strOf [a, b])) (w.alloc (.cells #[.int .u8 a, .int .u8 b] 5)).drew :=
  run_conv (Rd.drew (two_rd w a b))
end Go.Proofs.Ytcjackjoonijnaa
