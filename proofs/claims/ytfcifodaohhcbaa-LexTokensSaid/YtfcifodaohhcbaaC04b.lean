/- Part C04b of the proof: contracts of the functions that are walked, and what they compute; no condition. -/
import Derived.Test.YtfcifodaohhcbaaC04a
import Derived.Test.YtfcifodaohhcbaaV38
set_option linter.unusedVariables false
set_option linter.unusedSimpArgs false
set_option maxRecDepth 100000
namespace Go.Proofs.Ytfcifodaohhcbaa
open Go.V
open Classical
theorem sli0 {l : List UInt8} {k : Nat} (h : k ≤ l.length) : sli l 0 (k : Int) = some (l.take k) := sli_take h
theorem hasP_eq (s p : List UInt8) : m_internal_stringslite_HasPrefix s p = some (decide (s.take p.length = p)) := by
  unfold m_internal_stringslite_HasPrefix
  by_cases h : p.length ≤ s.length
  · rw [decide_eq_true (by omega), cond_true, sli0 h]; rfl
  · rw [decide_eq_false (by omega), cond_false, decide_eq_false (p := s.take p.length = p)]
    · rfl
    · intro e
      have := congrArg List.length e
      simp at this; omega
theorem cutP_eq (s p : List UInt8) : m_strings_CutPrefix s p = some (if s.take p.length = p then (s.drop p.length, true) else (s, false)) := by
  unfold m_strings_CutPrefix m_internal_stringslite_CutPrefix
  rw [hasP_eq, Option.bind_some]
  by_cases h : s.take p.length = p
  · have hl : p.length ≤ s.length := by
      have := congrArg List.length h
      simp at this; omega
    rw [decide_eq_true h, if_pos h, Bool.not_true, cond_false, sli_from rfl hl]; rfl
  · rw [decide_eq_false h, if_neg h]; rfl
/-! Numbers -/
def digB (c : UInt8) : Bool := decide (48 ≤ (c.toNat : Int)) && decide ((c.toNat : Int) ≤ 57)
def valN : Nat → List UInt8 → Nat
  | a, [] => a
  | a, c :: r => valN (10 * a + (c.toNat - 48)) r
theorem valN_ge : ∀ (r : List UInt8) (a : Nat), a * 10 ^ r.length ≤ valN a r
  | [], a => by
    show a * 10 ^ 0 ≤ a
    rw [Nat.pow_zero, Nat.mul_one]; exact Nat.le_refl _
  | c :: r, a => by
    have := valN_ge r (10 * a + (c.toNat - 48))
    refine Nat.le_trans ?_ this
    rw [List.length_cons, Nat.pow_succ]
    calc a * (10 ^ r.length * 10) = (10 * a) * 10 ^ r.length := by rw [Nat.mul_comm (10 ^ _), ← Nat.mul_assoc, Nat.mul_comm a 10]
      _ ≤ _ := Nat.mul_le_mul_right _ (by omega)
theorem valN_lt : ∀ (r : List UInt8) (a : Nat), r.all digB = true → valN a r < (a + 1) * 10 ^ r.length
  | [], a, _ => by
    show a < (a + 1) * 10 ^ 0
    rw [Nat.pow_zero, Nat.mul_one]; exact Nat.lt_succ_self _
  | c :: r, a, h => by
    simp only [List.all_cons, Bool.and_eq_true, digB, decide_eq_true_eq] at h
    have := valN_lt r (10 * a + (c.toNat - 48)) (by simpa [digB] using h.2)
    refine Nat.lt_of_lt_of_le this ?_
    rw [List.length_cons, Nat.pow_succ]
    calc (10 * a + (c.toNat - 48) + 1) * 10 ^ r.length ≤ (10 * (a + 1)) * 10 ^ r.length := Nat.mul_le_mul_right _ (by omega)
      _ = (a + 1) * (10 ^ r.length * 10) := by rw [Nat.mul_comm 10, Nat.mul_assoc, Nat.mul_comm 10]
theorem valN_mono (r : List UInt8) (a : Nat) : a ≤ valN a r := by
  have h := valN_ge r a
  have : a * 1 ≤ a * 10 ^ r.length := Nat.mul_le_mul_left _ (Nat.pos_of_ne_zero (by simp))
  omega
theorem td_nat (m n : Nat) : ((m : Int).tdiv (n : Int)) = ((m / n : Nat) : Int) := rfl
theorem td_low {d : Nat} (hd : d ≤ 9) : Int.tdiv (-9223372036854775808 + (d : Int)) 10 = -(((9223372036854775808 - d) / 10 : Nat) : Int) := by
  have key : ∀ m : Nat, Int.tdiv (-(m : Int)) 10 = -((m / 10 : Nat) : Int) := fun m => by
    rw [Int.neg_tdiv]
    exact congrArg (fun x => -x) (td_nat m 10)
  rw [← key]
  exact congrArg (fun z => Int.tdiv z 10) (show (-9223372036854775808 + (d : Int)) = -((9223372036854775808 - d : Nat) : Int) by omega)
theorem quo_ok {n : Int} {d : Nat} (hn : n ≤ 0) (hd : d ≤ 9) : n < Int.tdiv (-9223372036854775808 + (d : Int)) 10 ↔ 10 * n - d < -9223372036854775808 := by
  rw [td_low hd]
  omega
theorem digits_l (s : List UInt8) (hs : s.all digB = true) (hl : s.length ≤ 100000) : ∀ (n : Nat) (t : List UInt8) (i a : Nat), t.length < n → s.drop i = t → i ≤ s.length → a ≤ 9223372036854775808 →
    m_wrap_digits_l1 s n (-(a : Int), i) = some (if valN a t ≤ 9223372036854775808 then Out.go (-(valN a t : Int), s.length) else Out.ret (0, 5)) := by
  intro n
  induction n with
  | zero => intro t i a h; omega
  | succ n ih =>
    intro t i a hn ht hi ha
    simp only [m_wrap_digits_l1]
    have hL := drop_len ht hi
    rcases t with _ | ⟨c, t⟩
    · simp only [List.length_nil] at hL
      rw [decide_eq_false (by omega), cond_false, if_pos (show valN a [] ≤ _ from ha)]
      have : nextPos s i = s.length := by unfold nextPos; rw [if_neg (by omega)]; omega
      rw [this]; rfl
    · simp only [List.length_cons] at hL hn
      have hx : s[i]? = some c := by
        have := congrArg (·[0]?) ht
        simpa [List.getElem?_drop] using this
      have hc := List.all_eq_true.1 hs c (List.mem_of_getElem? hx)
      simp only [digB, Bool.and_eq_true, decide_eq_true_eq] at hc
      obtain ⟨r1, r2⟩ := rune_dig s i c hx (by omega)
      rw [decide_eq_true (by omega), cond_true, r1, r2, show (decide ((c.toNat : Int) < 48) || decide (57 < (c.toNat : Int))) = false by rw [Bool.or_eq_false_iff, decide_eq_false_iff_not, decide_eq_false_iff_not]; omega, cond_false]
      rw [show valN a (c :: t) = valN (10 * a + (c.toNat - 48)) t from rfl]
      have e : IntKind.i64.wrap (IntKind.i32.wrap ((c.toNat : Int) - 48)) = ((c.toNat - 48 : Nat) : Int) := by
        rw [i32w (by omega), i64w (by omega)]; omega
      rw [e]
      have hd : c.toNat - 48 ≤ 9 := by omega
      generalize c.toNat - 48 = d at *
      have hq := quo_ok (n := -(a : Int)) (d := d) (by omega) hd
      have hb : InR (Int.tdiv (-9223372036854775808 + (d : Int)) 10) := by
        rw [td_low hd]
        constructor <;> omega
      rw [grd_pos (by omega), grd_pos hb]
      by_cases hov : 10 * a + d ≤ 9223372036854775808
      · rw [decide_eq_false (by rw [hq]; omega), cond_false, grd_pos (by omega), grd_pos (by omega)]
        rw [show 10 * -(a : Int) - (d : Int) = -((10 * a + d : Nat) : Int) by omega]
        exact ih t (i + 1) (10 * a + d) (by omega) (drop_c ht) (by omega) hov
      · rw [decide_eq_true (by rw [hq]; omega), cond_true, if_neg]
        have := valN_mono t (10 * a + d)
        omega
def badN (d : List UInt8) : Prop := d = [] ∨ (1 < d.length ∧ d[0]? = some 48)
noncomputable def numP (neg : Bool) (d : List UInt8) : Int × Int :=
  if badN d ∨ 9223372036854775808 < valN 0 d ∨ (neg = true ∧ valN 0 d = 0) ∨ (neg = false ∧ valN 0 d = 9223372036854775808) then (0, 5) else (if neg = true then -(valN 0 d : Int) else (valN 0 d : Int), 0)
theorem c48 {c : UInt8} : c.toNat = 48 ↔ c = 48 := ⟨fun h => UInt8.toNat_inj.1 h, fun h => by rw [h]; rfl⟩
theorem digits_eq (d : List UInt8) (hs : d.all digB = true) (hl : d.length ≤ 100000) : m_wrap_digits d = some (if badN d ∨ 9223372036854775808 < valN 0 d then (0, 5) else (-(valN 0 d : Int), 0)) := by
  unfold m_wrap_digits
  rcases d with _ | ⟨c, r⟩
  · rw [if_pos (.inl (.inl rfl))]; rfl
  · have e1 : ((bif (decide (1 < ((c :: r).length : Int))) then ((idx (c :: r) 0).bind fun c1 => some (decide ((c1.toNat : Int) = 48))) else (some false)).bind fun p2 => some p2) = some (decide (badN (c :: r))) := by
      rw [idx_c0, Option.bind_some, bf, Option.bind_some]
      congr 1
      rw [Bool.eq_iff_iff, Bool.and_eq_true, decide_eq_true_eq, decide_eq_true_eq, decide_eq_true_eq]
      unfold badN
      simp only [reduceCtorEq, false_or, List.getElem?_cons_zero, Option.some.injEq, ← c48 (c := c)]
      omega
    rw [decide_eq_false (by simp), cond_false, e1, Option.bind_some]
    by_cases hb : badN (c :: r)
    · rw [decide_eq_true hb, cond_true, if_pos (.inl hb)]
    · rw [decide_eq_false hb, cond_false]
      have := digits_l (c :: r) hs hl FU (c :: r) 0 0 (by rw [FUv]; omega) rfl (by omega) (by omega)
      simp only [Int.ofNat_zero, Int.cast_ofNat_Int, Int.neg_zero] at this
      refine bnd this ?_
      by_cases hv : valN 0 (c :: r) ≤ 9223372036854775808
      · rw [if_pos hv, if_neg (fun h => h.elim hb (fun h => by omega))]; rfl
      · rw [if_neg hv, if_pos (.inr (by omega))]; rfl
theorem parse_w (neg : Bool) (d : List UInt8) (hs : d.all digB = true) (hl : d.length ≤ 100000) : m_wrap_Parse (if neg = true then 126 :: d else d) = some (numP neg d) := by
  unfold m_wrap_Parse
  have e : (if (if neg = true then 126 :: d else d).take ([126] : List UInt8).length = [126] then ((if neg = true then 126 :: d else d).drop ([126] : List UInt8).length, true) else ((if neg = true then 126 :: d else d), false)) = (d, neg) := by
    cases neg with
    | true => simp
    | false =>
      simp only [Bool.false_eq_true, if_false]
      rw [if_neg]
      intro h
      rcases d with _ | ⟨c, r⟩
      · simp at h
      · simp at h
        subst h
        simp [digB] at hs
  rw [cutP_eq, e]
  simp only [Option.bind_some]
  rw [digits_eq d hs hl]
  unfold numP
  by_cases hb : badN d ∨ 9223372036854775808 < valN 0 d
  · rw [if_pos hb, if_pos (by rcases hb with h | h <;> simp [h])]; rfl
  · rw [if_neg hb]
    simp only [Option.bind_some, decide_true, Bool.not_true, cond_false]
    have hb1 : ¬ badN d := fun h => hb (.inl h)
    have hb2 : valN 0 d ≤ 9223372036854775808 := by omega
    cases neg with
    | true =>
      simp only [Bool.true_and, Bool.not_true, Bool.false_and, Bool.or_false, cond_true]
      by_cases h0 : valN 0 d = 0
      · rw [decide_eq_true (by omega), cond_true, if_pos (.inr (.inr (.inl ⟨by trivial, h0⟩)))]
      · rw [decide_eq_false (by omega), cond_false, if_neg (by rintro (h | h | h | h); exact hb1 h; omega; exact h0 h.2; cases h.1)]
        simp
    | false =>
      simp only [Bool.false_and, Bool.not_false, Bool.true_and, Bool.false_or, cond_false]
      by_cases h0 : valN 0 d = 9223372036854775808
      · rw [decide_eq_true (by omega), cond_true, if_pos (.inr (.inr (.inr ⟨by trivial, h0⟩)))]
      · rw [decide_eq_false (by omega), cond_false, if_neg (by rintro (h | h | h | h); exact hb1 h; omega; cases h.1; exact h0 h.2), grd_pos (by omega)]
        simp
theorem p19 : (10 : Nat) ^ 19 ≤ 10000000000000000000 := by decide
theorem p19' : 10000000000000000000 ≤ (10 : Nat) ^ 19 := by decide
def limN (x k : Nat) : Prop := x * 10 ^ k ≤ 10000000000000000000
theorem lim_step {a d k : Nat} (h : limN (a + 1) (k + 1)) (hd : d ≤ 9) : limN (10 * a + d + 1) k ∧ 10 * a + d + 1 ≤ 10000000000000000000 := by
  unfold limN at h ⊢
  rw [Nat.pow_succ] at h
  have hpos : 1 ≤ 10 ^ k := Nat.pos_of_ne_zero (by simp)
  generalize 10 ^ k = P at *
  have h2 : (10 * a + d + 1) * P ≤ (a + 1) * (P * 10) := by
    rw [show (a + 1) * (P * 10) = (10 * (a + 1)) * P by rw [Nat.mul_comm P 10, ← Nat.mul_assoc, Nat.mul_comm (a + 1) 10]]
    exact Nat.mul_le_mul_right _ (by clear h; omega)
  have h3 : 10 * a + d + 1 ≤ (10 * a + d + 1) * P := Nat.le_mul_of_pos_right _ hpos
  exact ⟨Nat.le_trans h2 h, Nat.le_trans h3 (Nat.le_trans h2 h)⟩
theorem rparse_l (s : List UInt8) (hs : s.all digB = true) (hl : s.length ≤ 19) : ∀ (n : Nat) (t : List UInt8) (i a : Nat), t.length < n → s.drop i = t → i ≤ s.length → limN (a + 1) t.length →
    m_syntagmaref01_Parse_l1 s n ((a : Int), (i : Int)) = some (Out.go ((valN a t : Nat) : Int)) := by
  intro n
  induction n with
  | zero => intro t i a h; omega
  | succ n ih =>
    intro t i a hn ht hi ha
    simp only [m_syntagmaref01_Parse_l1]
    have hL := drop_len ht hi
    rcases t with _ | ⟨c, t⟩
    · simp only [List.length_nil] at hL
      rw [decide_eq_false (by omega), cond_false]; rfl
    · simp only [List.length_cons] at hL hn
      have hx : s[i]? = some c := by
        have := congrArg (·[0]?) ht
        simpa [List.getElem?_drop] using this
      have hc := List.all_eq_true.1 hs c (List.mem_of_getElem? hx)
      simp only [digB, Bool.and_eq_true, decide_eq_true_eq] at hc
      rw [decide_eq_true (by omega), cond_true, getI hx]
      rw [Option.bind_some, Option.bind_some, bt, show (decide ((c.toNat : Int) < 48) || decide (57 < (c.toNat : Int))) = false by rw [Bool.or_eq_false_iff, decide_eq_false_iff_not, decide_eq_false_iff_not]; omega, Option.bind_some, cond_false, Option.bind_some, grd_pos (by omega)]
      have hd : c.toNat - 48 ≤ 9 := by omega
      obtain ⟨ha2, ha3⟩ := lim_step ha hd
      have e1 : ((c - 48 : UInt8).toNat : Int) = ((c.toNat - 48 : Nat) : Int) := by
        rw [UInt8.toNat_sub_of_le _ _ (by rw [UInt8.le_iff_toNat_le]; show 48 ≤ c.toNat; omega)]; rfl
      rw [e1, u64w (n := 10 * (a : Int)) (by omega), u64w (n := ((c.toNat - 48 : Nat) : Int)) (by omega), u64w (by omega)]
      rw [show 10 * (a : Int) + ((c.toNat - 48 : Nat) : Int) = ((10 * a + (c.toNat - 48) : Nat) : Int) by omega]
      exact ih t (i + 1) _ (by omega) (drop_c ht) (by omega) ha2
theorem rparse_w (neg : Bool) (d : List UInt8) (hs : d.all digB = true) (hl : d.length ≤ 100000) : m_syntagmaref01_Parse (if neg = true then 126 :: d else d) = some (numP neg d) := by
  unfold m_syntagmaref01_Parse
  have e1 : (bif (decide (0 < ((if neg = true then 126 :: d else d).length : Int))) then ((idx (if neg = true then 126 :: d else d) 0).bind fun c1 => some (decide ((c1.toNat : Int) = 126))) else (some false)) = some neg := by
    cases neg with
    | true => simp [idx_c0]
    | false =>
      simp only [Bool.false_eq_true, if_false]
      rcases d with _ | ⟨c, r⟩
      · rfl
      · simp only [List.all_cons, Bool.and_eq_true, digB, decide_eq_true_eq] at hs
        rw [idx_c0, Option.bind_some, bf, decide_eq_false (p := (c.toNat : Int) = 126) (by omega), Bool.and_false]
  rw [e1, Option.bind_some]
  have e2 : (bif neg then (sli (if neg = true then 126 :: d else d) 1 ((if neg = true then 126 :: d else d).length : Int)).bind fun s2 => some s2 else some (if neg = true then 126 :: d else d)) = some d := by
    cases neg with
    | true =>
      have := sli_from (l := (126 : UInt8) :: d) (i := 1) rfl (by simp)
      simp only [cond_true, if_true]
      rw [show ((1 : Nat) : Int) = 1 from rfl] at this
      rw [this]; rfl
    | false => rfl
  rw [e2, Option.bind_some]
  have e3 : ((bif (decide (1 < (d.length : Int))) then ((idx d 0).bind fun c2 => some (decide ((c2.toNat : Int) = 48))) else (some false)).bind fun p3 => some p3) = some (decide (1 < d.length ∧ d[0]? = some 48)) := by
    rcases d with _ | ⟨c, r⟩
    · rfl
    · rw [idx_c0, Option.bind_some, bf, Option.bind_some]
      congr 1
      rw [Bool.eq_iff_iff, Bool.and_eq_true, decide_eq_true_eq, decide_eq_true_eq, decide_eq_true_eq]
      simp only [List.getElem?_cons_zero, Option.some.injEq, ← c48 (c := c)]
      omega
  rw [e3, bt, Option.bind_some]
  unfold numP
  by_cases hb : badN d
  · rw [if_pos (.inl hb), show ((decide ((d.length : Int) < 1) || decide (19 < (d.length : Int)) || decide (1 < d.length ∧ d[0]? = some 48)) || (neg && decide (d = ([48] : List UInt8)))) = true from ?_]; rfl
    rcases hb with rfl | hb
    · rfl
    · rw [decide_eq_true hb]; simp
  · have hne : d ≠ [] := fun h => hb (.inl h)
    obtain ⟨c, r, rfl⟩ := List.exists_cons_of_ne_nil hne
    have hcd : digB c = true ∧ r.all digB = true := by simpa using hs
    have hc := hcd.1
    simp only [digB, Bool.and_eq_true, decide_eq_true_eq] at hc
    have h1 : ¬ (1 < (c :: r).length ∧ (c :: r)[0]? = some 48) := fun h => hb (.inr h)
    have hge := valN_ge r (c.toNat - 48)
    have hv0 : valN 0 (c :: r) = valN (c.toNat - 48) r := by show valN (10 * 0 + _) r = _; simp
    have hz : c.toNat = 48 → r = [] := by
      intro h
      rcases r with _ | ⟨x, r⟩
      · rfl
      · exact absurd ⟨by simp, by simp [c48.1 h]⟩ h1
    by_cases hlen : 19 < (c :: r).length
    · rw [if_pos, decide_eq_true (p := 19 < ((c :: r).length : Int)) (by omega)]
      · simp
      · right; left
        have : c.toNat ≠ 48 := fun h => by rw [hz h] at hlen; simp at hlen
        rw [hv0]
        have h2 : 10000000000000000000 ≤ 10 ^ r.length := Nat.le_trans p19' (Nat.pow_le_pow_right (by omega) (show 19 ≤ r.length by simp at hlen; omega))
        have h3 : 1 * 10 ^ r.length ≤ (c.toNat - 48) * 10 ^ r.length := Nat.mul_le_mul_right _ (by omega)
        omega
    · have h0 : (neg && decide (c :: r = ([48] : List UInt8))) = decide (neg = true ∧ valN 0 (c :: r) = 0) := by
        rw [Bool.eq_iff_iff, Bool.and_eq_true, decide_eq_true_eq, decide_eq_true_eq]
        refine and_congr_right fun _ => ?_
        rw [hv0]
        constructor
        · intro h
          simp only [List.cons.injEq] at h
          rw [h.1, h.2]; rfl
        · intro h
          rw [h] at hge
          have hp : 0 < 10 ^ r.length := Nat.pos_of_ne_zero (by simp)
          have : c.toNat - 48 = 0 := by
            rcases Nat.eq_zero_or_pos (c.toNat - 48) with h2 | h2
            · exact h2
            · have := Nat.mul_pos h2 hp; omega
          have h5 : c.toNat = 48 := by omega
          rw [hz h5, c48.1 h5]
      rw [decide_eq_false (p := ((c :: r).length : Int) < 1) (by simp; omega), decide_eq_false (p := 19 < ((c :: r).length : Int)) (by omega), decide_eq_false h1, h0]
      simp only [Bool.false_or, Bool.or_false]
      by_cases hn : neg = true ∧ valN 0 (c :: r) = 0
      · rw [decide_eq_true hn, cond_true, if_pos (.inr (.inr (.inl hn)))]
      · rw [decide_eq_false hn, cond_false]
        have hl2 : (c :: r).length ≤ 19 := by omega
        have := rparse_l (c :: r) hs hl2 FU (c :: r) 0 0 (by rw [FUv]; omega) rfl (by omega) (by
          unfold limN; rw [Nat.zero_add, Nat.one_mul]; exact Nat.le_trans (Nat.pow_le_pow_right (by omega) hl2) p19)
        simp only [Int.ofNat_zero, Int.cast_ofNat_Int] at this
        refine bnd this ?_
        rw [go_on]
        by_cases h6 : 9223372036854775808 < valN 0 (c :: r)
        · rw [decide_eq_true (by omega), Bool.true_or, cond_true, if_pos (.inr (.inl h6))]
        · rw [decide_eq_false (p := 9223372036854775808 < ((valN 0 (c :: r) : Nat) : Int)) (by omega), Bool.false_or]
          by_cases h7 : neg = false ∧ valN 0 (c :: r) = 9223372036854775808
          · rw [h7.1, decide_eq_true (by omega), if_pos (.inr (.inr (.inr ⟨rfl, h7.2⟩)))]; rfl
          · rw [if_neg (by rintro (h | h | h | h); exact hb h; exact h6 h; exact hn h; exact h7 h)]
            cases neg with
            | true =>
              have hp : 0 < valN 0 (c :: r) := by
                rcases Nat.eq_zero_or_pos (valN 0 (c :: r)) with h | h
                · exact absurd ⟨rfl, h⟩ hn
                · exact h
              simp only [Bool.not_true, Bool.and_false, cond_false, cond_true, if_true]
              congr 2
              generalize valN 0 (c :: r) = v at *
              simp only [IntKind.wrap, IntKind.bits, IntKind.signed]
              simp
              omega
            | false =>
              have h8 : valN 0 (c :: r) ≠ 9223372036854775808 := fun h => h7 ⟨rfl, h⟩
              rw [decide_eq_false (by omega)]
              simp only [Bool.not_false, Bool.and_true, cond_false, Bool.false_eq_true, if_false]
              rw [i64w (by omega)]
end Go.Proofs.Ytfcifodaohhcbaa
