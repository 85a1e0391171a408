/- Part C02b of the proof: contracts of the functions that are walked, and what they compute; no condition. -/
import Derived.Test.YtfcifodaohhcbaaC02
set_option linter.unusedVariables false
set_option linter.unusedSimpArgs false
set_option maxRecDepth 100000
namespace Go.Proofs.Ytfcifodaohhcbaa
open Go.V
def hexd (n : Nat) : UInt8 := digitsL.getD n 0
def esc (c : UInt8) : List UInt8 := if c.toNat = 34 ∨ c.toNat = 92 then [92, c] else if c.toNat = 10 then [92, 110] else if c.toNat = 9 then [92, 116] else if 32 ≤ c.toNat ∧ c.toNat ≤ 126 then [c] else [92, 120, hexd (c.toNat / 16), hexd (c.toNat % 16)]
def printS (s : List UInt8) : List UInt8 := 34 :: s.flatMap esc ++ [34]
theorem esc_len (c : UInt8) : (esc c).length ≤ 4 := by
  unfold esc
  repeat' split
  all_goals simp
theorem escs_len : ∀ l : List UInt8, (l.flatMap esc).length ≤ 4 * l.length
  | [] => by simp
  | c :: l => by have := escs_len l; have := esc_len c; simp only [List.flatMap_cons, List.length_append, List.length_cons]; omega
theorem dig_hi (c : UInt8) : idx digitsL ((c / 16).toNat : Int) = some (hexd (c.toNat / 16)) := by
  have h : ∀ n : Fin 256, idx digitsL ((UInt8.ofNat n.val / 16).toNat : Int) = some (hexd ((UInt8.ofNat n.val).toNat / 16)) := by decide +kernel
  have := h ⟨c.toNat, c.toNat_lt⟩
  simpa using this
theorem dig_lo (c : UInt8) : idx digitsL ((c % 16).toNat : Int) = some (hexd (c.toNat % 16)) := by
  have h : ∀ n : Fin 256, idx digitsL ((UInt8.ofNat n.val % 16).toNat : Int) = some (hexd ((UInt8.ofNat n.val).toNat % 16)) := by decide +kernel
  have := h ⟨c.toNat, c.toNat_lt⟩
  simpa using this
theorem c34 {c : UInt8} (h : c.toNat = 34) : c = 34 := UInt8.toNat_inj.1 h
theorem c92 {c : UInt8} (h : c.toNat = 92) : c = 92 := UInt8.toNat_inj.1 h
theorem q_print_l (s : List UInt8) (hs : s.length ≤ 1000000) : ∀ (n : Nat) (t out : List UInt8) (i : Nat), t.length < n → s.drop i = t → i ≤ s.length → out.length ≤ 4 * i + 1 → m_q_Print_l1 s n ((i : Int), out) = some (out ++ t.flatMap esc) := by
  intro n
  induction n with
  | zero => intro t out i h; omega
  | succ n ih =>
    intro t out i hn ht hi ho
    have hl := drop_len ht hi
    rw [m_q_Print_l1]
    rw [show ([48, 49, 50, 51, 52, 53, 54, 55, 56, 57, 97, 98, 99, 100, 101, 102] : List UInt8) = digitsL from rfl]
    simp only [Bool.cond_eq_ite, decide_eq_true_eq, Bool.or_eq_true, InR]
    rcases t with _ | ⟨c, r⟩
    · simp only [List.length_nil] at hl
      simp (disch := omega) only [↓if_neg]
      simp
    · simp only [List.length_cons] at hl hn
      have key : ∀ z : List UInt8, esc c = z → z.length ≤ 4 → m_q_Print_l1 s n ((i : Int) + 1, out ++ z) = some (out ++ (c :: r).flatMap esc) := by
        intro z hz hzl
        have := ih r (out ++ z) (i + 1) (by omega) (drop_c ht) (by omega) (by simp; omega)
        rw [List.flatMap_cons, hz, ← List.append_assoc, ← this]
        rfl
      rw [if_pos (by omega), idx_dr0 ht, List.getElem?_cons_zero, Option.bind_some, plain_eq, Option.bind_some]
      by_cases h1 : plainB c = true
      · rw [if_pos h1, grd_pos (by omega), grd_pos (by omega)]
        simp only [plainB, Bool.and_eq_true, decide_eq_true_eq, Bool.not_eq_true', decide_eq_false_iff_not] at h1
        exact key [c] (by unfold esc; rw [if_neg (by omega), if_neg (by omega), if_neg (by omega), if_pos (by omega)]) (by simp)
      · rw [if_neg h1]
        simp only [plainB, Bool.and_eq_true, decide_eq_true_eq, Bool.not_eq_true', decide_eq_false_iff_not] at h1
        by_cases h2 : c.toNat = 34 ∨ c.toNat = 92
        · rw [if_pos (by omega), grd_pos (by omega), grd_pos (by simp; omega), grd_pos (by omega), List.append_assoc]
          exact key [92, c] (by unfold esc; rw [if_pos h2]) (by simp)
        · rw [if_neg (by omega)]
          by_cases h3 : c.toNat = 10
          · rw [if_pos (by omega), grd_pos (by simp; omega), grd_pos (by omega)]
            exact key [92, 110] (by unfold esc; rw [if_neg h2, if_pos h3]) (by simp)
          · rw [if_neg (by omega)]
            by_cases h4 : c.toNat = 9
            · rw [if_pos (by omega), grd_pos (by simp; omega), grd_pos (by omega)]
              exact key [92, 116] (by unfold esc; rw [if_neg h2, if_neg h3, if_pos h4]) (by simp)
            · rw [if_neg (by omega), grd_pos (by simp; omega), dig_hi, Option.bind_some, grd_pos (by simp; omega), dig_lo, Option.bind_some, grd_pos (by simp; omega), grd_pos (by omega), List.append_assoc, List.append_assoc]
              exact key [92, 120, hexd (c.toNat / 16), hexd (c.toNat % 16)] (by unfold esc; rw [if_neg h2, if_neg h3, if_neg h4, if_neg (by omega)]) (by simp)
theorem q_print_eq (s : List UInt8) (hs : s.length ≤ 1000000) : m_q_Print s = some (printS s) := by
  unfold m_q_Print
  have := escs_len s
  rw [grd_pos (by simp)]
  refine bnd (q_print_l s hs FU s [34] 0 (by unfold FU; omega) rfl (by omega) (by simp)) ?_
  rw [grd_pos (by simp only [List.length_append, List.length_cons, List.length_nil]; omega)]
  rfl
theorem r_print_l (s : List UInt8) (hs : s.length ≤ 1000000) : ∀ (n : Nat) (t out : List UInt8) (i : Nat), t.length < n → s.drop i = t → i ≤ s.length → out.length ≤ 4 * i + 1 → m_r_Print_l1 s n (out, (i : Int)) = some (out ++ t.flatMap esc) := by
  intro n
  induction n with
  | zero => intro t out i h; omega
  | succ n ih =>
    intro t out i hn ht hi ho
    have hl := drop_len ht hi
    rw [m_r_Print_l1]
    rw [show ([48, 49, 50, 51, 52, 53, 54, 55, 56, 57, 97, 98, 99, 100, 101, 102] : List UInt8) = digitsL from rfl]
    simp only [Bool.cond_eq_ite, decide_eq_true_eq, Bool.and_eq_true, InR]
    rcases t with _ | ⟨c, r⟩
    · simp only [List.length_nil] at hl
      simp (disch := omega) only [↓if_neg]
      simp
    · simp only [List.length_cons] at hl hn
      have key : ∀ z : List UInt8, esc c = z → z.length ≤ 4 → m_r_Print_l1 s n (out ++ z, (i : Int) + 1) = some (out ++ (c :: r).flatMap esc) := by
        intro z hz hzl
        have := ih r (out ++ z) (i + 1) (by omega) (drop_c ht) (by omega) (by simp; omega)
        rw [List.flatMap_cons, hz, ← List.append_assoc, ← this]
        rfl
      rw [if_pos (by omega), idx_dr0 ht, show (c :: r)[0]? = some c from rfl, Option.bind_some]
      by_cases h1 : c.toNat = 34
      · rw [if_pos (by omega), grd_pos (by simp; omega), grd_pos (by omega)]
        exact key [92, 34] (by unfold esc; rw [if_pos (by omega), c34 h1]) (by simp)
      · rw [if_neg (by omega)]
        by_cases h2 : c.toNat = 92
        · rw [if_pos (by omega), grd_pos (by simp; omega), grd_pos (by omega)]
          exact key [92, 92] (by unfold esc; rw [if_pos (by omega), c92 h2]) (by simp)
        · rw [if_neg (by omega)]
          by_cases h3 : c.toNat = 10
          · rw [if_pos (by omega), grd_pos (by simp; omega), grd_pos (by omega)]
            exact key [92, 110] (by unfold esc; rw [if_neg (by omega), if_pos h3]) (by simp)
          · rw [if_neg (by omega)]
            by_cases h4 : c.toNat = 9
            · rw [if_pos (by omega), grd_pos (by simp; omega), grd_pos (by omega)]
              exact key [92, 116] (by unfold esc; rw [if_neg (by omega), if_neg h3, if_pos h4]) (by simp)
            · rw [if_neg (by omega)]
              by_cases h5 : 32 ≤ c.toNat ∧ c.toNat ≤ 126
              · rw [if_pos (by omega), grd_pos (by simp; omega), grd_pos (by omega)]
                exact key [c] (by unfold esc; rw [if_neg (by omega), if_neg h3, if_neg h4, if_pos h5]) (by simp)
              · rw [if_neg (by omega), dig_hi, Option.bind_some, dig_lo, Option.bind_some, grd_pos (by simp), grd_pos (by simp; omega), grd_pos (by omega)]
                exact key [92, 120, hexd (c.toNat / 16), hexd (c.toNat % 16)] (by unfold esc; rw [if_neg (by omega), if_neg h3, if_neg h4, if_neg h5]) (by simp)
theorem r_print_eq (s : List UInt8) (hs : s.length ≤ 1000000) : m_r_Print s = some (printS s) := by
  unfold m_r_Print
  have := escs_len s
  refine bnd (r_print_l s hs FU s [34] 0 (by unfold FU; omega) rfl (by omega) (by simp)) ?_
  rw [grd_pos (by simp only [List.length_append, List.length_cons, List.length_nil]; omega)]
  rfl
theorem cutTo (k : Nat) (s : List UInt8) : (bif decide ((k : Int) < (s.length : Int)) then (sli s 0 (k : Int)).bind fun s3 => some s3 else some s) = some (s.take k) := by
  by_cases h : k < s.length
  · rw [show decide ((k : Int) < (s.length : Int)) = true by simp; omega, cond_true, sli_take (by omega)]; rfl
  · rw [show decide ((k : Int) < (s.length : Int)) = false by simp; omega, cond_false, List.take_of_length_le (by omega)]
theorem cut_eq (s : List UInt8) : m_q_Cut s = some (s.take 1000) := by
  unfold m_q_Cut
  have h := minL 1000 s
  rw [show (if (1000 : Int) < (s.length : Int) then (1000 : Int) else (s.length : Int)) = ((min 1000 s.length : Nat) : Int) from h, sli_take (by omega), Option.bind_some]
  congr 1
  by_cases h : 1000 ≤ s.length
  · rw [Nat.min_eq_left h]
  · rw [Nat.min_eq_right (by omega), List.take_length, List.take_of_length_le (by omega)]
theorem law_QuotePrints (s : List UInt8) : m_QuotePrints s = some true := by
  unfold m_QuotePrints
  refine bnd (cutTo 1500 s) ?_
  generalize ht : s.take 1500 = t
  have hl : t.length ≤ 1000000 := by rw [← ht]; simp; omega
  rw [bind_of (q_print_eq t hl), bind_of (r_print_eq t hl), decide_eq_true rfl, cond_true, bind_of (cut_eq t)]
  have h := cut_eq t
  unfold m_q_Cut at h
  obtain ⟨x, h1, h2⟩ := bind_some h
  rw [bind_of h1, some_eq h2, decide_eq_true rfl, cond_true, works_eq]; rfl
/-! What was written is read. -/
theorem hexN_hexd : ∀ n : Fin 16, hexN (hexd n.val) = n.val := by decide +kernel
def escChk (c : UInt8) (l : List UInt8) : Bool := match l with
  | [x] => decide (x.toNat ≠ 34 ∧ x.toNat ≠ 92 ∧ plainB x = true ∧ x = c)
  | [x, y] => decide (x.toNat = 92 ∧ ((y.toNat = 34 ∨ y.toNat = 92) ∧ y = c ∨ y.toNat = 110 ∧ c.toNat = 10 ∨ y.toNat = 116 ∧ c.toNat = 9))
  | [x, y, z, u] => decide (x.toNat = 92 ∧ y.toNat = 120 ∧ 0 ≤ hexN z ∧ 0 ≤ hexN u ∧ toU8 (16 * hexN z + hexN u) = c)
  | _ => false
theorem esc_take (c : UInt8) : ∃ x k, esc c = x :: k ∧ ((x.toNat ≠ 34 ∧ x.toNat ≠ 92 ∧ plainB x = true ∧ k = [] ∧ x = c) ∨ (x.toNat = 92 ∧ ∀ r, escOne (k ++ r) = (c, k.length) ∧ k ≠ [])) := by
  have h : ∀ n : Fin 256, escChk (UInt8.ofNat n.val) (esc (UInt8.ofNat n.val)) = true := by decide +kernel
  have h := h ⟨c.toNat, c.toNat_lt⟩
  simp only [UInt8.ofNat_toNat] at h
  unfold escChk at h
  split at h
  · rename_i x hx
    have h := of_decide_eq_true h
    exact ⟨x, [], hx, .inl ⟨h.1, h.2.1, h.2.2.1, rfl, h.2.2.2⟩⟩
  · rename_i x y hx
    have h := of_decide_eq_true h
    refine ⟨x, [y], hx, .inr ⟨h.1, fun r => ⟨?_, by simp⟩⟩⟩
    rcases h.2 with ⟨h1, h2⟩ | ⟨h1, h2⟩ | ⟨h1, h2⟩
    · dsimp only [List.cons_append, escOne]; rw [if_pos h1, h2]; rfl
    · dsimp only [List.cons_append, escOne]; rw [if_neg (by omega), if_pos h1]
      rw [show c = 10 from UInt8.toNat_inj.1 h2]; rfl
    · dsimp only [List.cons_append, escOne]; rw [if_neg (by omega), if_neg (by omega), if_pos h1]
      rw [show c = 9 from UInt8.toNat_inj.1 h2]; rfl
  · rename_i x y z u hx
    have h := of_decide_eq_true h
    refine ⟨x, [y, z, u], hx, .inr ⟨h.1, fun r => ⟨?_, by simp⟩⟩⟩
    dsimp only [List.cons_append, escOne, List.nil_append, hexPart]; rw [if_neg (by omega), if_neg (by omega), if_neg (by omega), if_pos h.2.1, if_neg (by omega), h.2.2.2.2]; rfl
  · cases h
theorem q_back_l (s : List UInt8) (hs : s.length ≤ 9223372036854775807) (more : List UInt8) : ∀ (l : List UInt8) (n : Nat) (out : List UInt8) (i : Nat), l.length < n → s.drop i = l.flatMap esc ++ (34 :: more) → i ≤ s.length → out.length + l.length ≤ 1000000 →
    m_q_Take_l1 s n ((i : Int), out) = some (Out.ret (if 200 < (out ++ l).length then ([], 0, 7) else (out ++ l, (i : Int) + (l.flatMap esc).length + 1, 0))) := by
  intro l
  induction l with
  | nil =>
    intro n out i hn ht hi ho
    obtain ⟨n, rfl⟩ : ∃ m, n = m + 1 := ⟨n - 1, by simp at hn; omega⟩
    simp only [List.flatMap_nil, List.nil_append] at ht
    have hl := drop_len ht hi
    simp only [List.length_cons] at hl
    rw [m_q_Take_l1]
    simp only [Bool.cond_eq_ite, decide_eq_true_eq, InR]
    rw [if_pos (by omega), idx_dr0 ht, show (34 :: more)[0]? = some 34 from rfl, Option.bind_some, if_pos (by decide)]
    simp only [List.append_nil, List.flatMap_nil, List.length_nil]
    by_cases h2 : out.length > 200
    · rw [if_pos (by omega), if_pos (by omega)]
    · rw [if_neg (by omega), if_neg (by omega), grd_pos (by omega)]; simp
  | cons c l ih =>
    intro n out i hn ht hi ho
    obtain ⟨n, rfl⟩ : ∃ m, n = m + 1 := ⟨n - 1, by simp at hn; omega⟩
    simp only [List.length_cons] at hn ho
    obtain ⟨x, k, hx, hk⟩ := esc_take c
    rw [List.flatMap_cons, hx, List.append_assoc, List.cons_append] at ht
    have hl := drop_len ht hi
    simp only [List.length_cons, List.length_append] at hl
    rw [m_q_Take_l1]
    simp only [Bool.cond_eq_ite, decide_eq_true_eq, InR]
    rw [if_pos (by omega), idx_dr0 ht, List.getElem?_cons_zero, Option.bind_some]
    rcases hk with ⟨h1, h2, h3, rfl, rfl⟩ | ⟨h1, h2⟩
    · rw [if_neg (by omega), if_neg (by omega), plain_eq, Option.bind_some, if_pos h3, grd_pos (by omega), grd_pos (by omega)]
      have := ih n (out ++ [x]) (i + 1) (by omega) (drop_c ht) (by omega) (by simp; omega)
      rw [List.flatMap_cons, hx]
      simp only [List.append_assoc, List.cons_append, List.nil_append, List.length_append, List.length_cons, List.length_nil] at this ⊢
      rw [show (i : Int) + 1 = ((i + 1 : Nat) : Int) by simp, this]
      congr 3
      · congr 2; simp; omega
    · have he := (h2 (l.flatMap esc ++ 34 :: more)).1
      have hk0 : 0 < k.length := List.length_pos_iff.2 (h2 []).2
      rw [if_neg (by omega), if_pos (by omega), grd_pos (by omega), sli_from1 ht, Option.bind_some, escape_eq, Option.bind_some, he]
      dsimp only
      rw [if_neg (by omega), grd_pos (by omega), grd_pos (by omega), grd_pos (by omega)]
      have hd : s.drop (i + (k.length + 1)) = l.flatMap esc ++ 34 :: more := by
        rw [drop_more ht (k.length + 1)]; simp
      have := ih n (out ++ [c]) (i + (k.length + 1)) (by omega) hd (by omega) (by simp; omega)
      rw [List.flatMap_cons, hx]
      simp only [List.append_assoc, List.cons_append, List.nil_append, List.length_append, List.length_cons, List.length_nil] at this ⊢
      rw [show (i : Int) + ((k.length : Int) + 1) = ((i + (k.length + 1) : Nat) : Int) by simp, this]
      congr 3
      · congr 2; simp; omega
theorem law_QuoteBack (s more : List UInt8) (hm : more.length ≤ 9223372036854770000) : m_QuoteBack s more = some true := by
  unfold m_QuoteBack
  rw [works_eq, Option.bind_some]
  show (Option.bind _ _) = _
  refine bnd (cutTo 300 s) ?_
  generalize ht : s.take 300 = t
  have hl : t.length ≤ 300 := by rw [← ht]; simp; omega
  have he := escs_len t
  have hp : (printS t).length = (t.flatMap esc).length + 2 := by simp [printS]
  rw [bind_of (q_print_eq t (by omega)), grd_pos (by omega)]
  have h := q_back_l (printS t ++ more) (by simp; omega) more t FU [] 1 (by unfold FU; omega) (by simp [printS]) (by simp; omega) (by simp; omega)
  have h2 : m_q_Take (printS t ++ more) = some (if 200 < t.length then ([], 0, 7) else (t, (1 : Int) + (t.flatMap esc).length + 1, 0)) := by
    unfold m_q_Take
    rw [bind_of (x := false) (by rfl)]
    simp only [cond_false]
    exact bnd h rfl
  rw [bind_of h2]
  by_cases h3 : 200 < t.length
  · rw [if_pos h3]
    have : decide (200 < (t.length : Int)) = true := by simp; omega
    rw [this]; rfl
  · rw [if_neg h3]
    have : decide (200 < (t.length : Int)) = false := by simp; omega
    rw [this]
    simp [hp]; omega
end Go.Proofs.Ytfcifodaohhcbaa
