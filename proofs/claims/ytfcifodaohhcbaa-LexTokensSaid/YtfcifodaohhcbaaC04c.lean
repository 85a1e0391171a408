/- Part C04c of the proof: contracts of the functions that are walked, and what they compute; no condition. -/
import Derived.Test.YtfcifodaohhcbaaC04b
set_option linter.unusedVariables false
set_option linter.unusedSimpArgs false
set_option maxRecDepth 100000
namespace Go.Proofs.Ytfcifodaohhcbaa
open Go.V
open Classical
/-! One token -/
def refOf (f : LexFound) (at_ : Int) : ApiToken × Int × Int := if f.e_ = 0 then (⟨f.t.kind, f.t.s, f.t.n_, at_⟩, f.n_, 0) else (⟨0, [], 0, 0⟩, 0, f.e_)
def Step (f : LexFound) (t : List UInt8) : Prop := f.e_ = 0 → 0 < f.n_ ∧ f.n_ ≤ (t.length : Int)
theorem digit_eq (c : UInt8) : m_lex_digit c = some (digB c) := rfl
theorem keyword_eq (s : List UInt8) : m_name_Keyword s = some (decide (s ∈ keysL)) := by
  unfold m_name_Keyword
  rw [keys_eq, Option.bind_some, isKey_eq _ _ (by decide)]; rfl
theorem rkeyword_eq (s : List UInt8) : m_syntagmaref03_Keyword s = some (decide (s ∈ keysL)) := by
  unfold m_syntagmaref03_Keyword
  rw [rkeys_eq, Option.bind_some, rIsKey_eq _ _ (by decide)]; rfl
theorem word_le (t : List UInt8) : wordP t ≤ t.length := by
  rcases t with _ | ⟨c, r⟩
  · simp [wordP]
  · rw [word_c]
    have := tw_le moreB r
    split <;> simp <;> omega
theorem num_l (t : List UInt8) (h : t.length ≤ 100000) (h1 : 1 ≤ t.length) : m_lex_number_l1 t FU 1 = some ((1 + ((t.drop 1).takeWhile digB).length : Nat) : Int) := by
  have := loop_while (φ := m_lex_number_l1 t) (l := t) digB (fun i => (i : Int)) (by
    intro n i x hx hi
    simp only [m_lex_number_l1]
    rw [decide_eq_true (by omega), cond_true, getI hx, Option.bind_some, digit_eq, Option.bind_some, Option.bind_some]
    exact ⟨fun hq => by rw [hq, cond_true, grd_pos (by omega)], fun hq => by rw [hq, cond_false]⟩) (by
    intro n
    simp only [m_lex_number_l1]
    rw [decide_eq_false (by omega), cond_false, Option.bind_some, cond_false]) FU 1 h1 (by rw [FUv]; omega)
  exact this
theorem rnum_l (t : List UInt8) (h : t.length ≤ 100000) (h1 : 1 ≤ t.length) : m_syntagmaref04_one_l1 t FU 1 = some ((1 + ((t.drop 1).takeWhile digB).length : Nat) : Int) := by
  have := loop_while (φ := m_syntagmaref04_one_l1 t) (l := t) digB (fun i => (i : Int)) (by
    intro n i x hx hi
    simp only [m_syntagmaref04_one_l1]
    rw [decide_eq_true (by omega), cond_true, getI hx, Option.bind_some, Option.bind_some, Option.bind_some, bf, Option.bind_some]
    exact ⟨fun hq => by unfold digB at hq; rw [hq, cond_true, grd_pos (by omega)], fun hq => by unfold digB at hq; rw [hq, cond_false]⟩) (by
    intro n
    simp only [m_syntagmaref04_one_l1]
    rw [decide_eq_false (by omega), cond_false, Option.bind_some, cond_false, Option.bind_some, cond_false]) FU 1 h1 (by rw [FUv]; omega)
  exact this
theorem takeR_ok : ∀ (k : Nat) (t out : List UInt8) (i : Nat), t.length < k → (takeR t out i).2.2 = 0 → (i : Int) < (takeR t out i).2.1 ∧ (takeR t out i).2.1 ≤ ((i + t.length : Nat) : Int) := by
  intro k
  induction k with
  | zero => intro t out i h; omega
  | succ k ih =>
    intro t out i hk h
    rcases t with _ | ⟨c, r⟩
    · rw [takeR] at h; simp at h
    · rw [takeR] at h ⊢
      simp only [List.length_cons] at hk ⊢
      split at h
      · rename_i h1
        rw [if_pos h1]
        split at h
        · simp at h
        · rename_i h2
          rw [if_neg h2]
          simp only
          omega
      · rename_i h1
        rw [if_neg h1]
        split at h
        · rename_i h2
          rw [if_pos h2]
          split at h
          · simp at h
          · rename_i h3
            rw [if_neg h3]
            have hle := escOne_le r
            have := ih _ _ _ (by simp; omega) h
            simp only [List.length_drop] at this
            omega
        · rename_i h2
          rw [if_neg h2]
          split at h
          · rename_i h3
            rw [if_pos h3]
            have := ih _ _ _ (by omega) h
            omega
          · simp at h
theorem takeS_ok (s : List UInt8) (h : (takeS s).2.2 = 0) : 0 < (takeS s).2.1 ∧ (takeS s).2.1 ≤ (s.length : Int) := by
  unfold takeS at h ⊢
  rcases s with _ | ⟨c, r⟩
  · simp at h
  · simp only at h ⊢
    split at h
    · rename_i h1
      rw [if_pos h1]
      have := takeR_ok _ _ _ _ (Nat.lt_succ_self _) h
      simp only [List.length_cons]
      omega
    · simp at h
def signsL : List UInt8 := [59, 58, 44, 46, 61, 60, 62, 43, 45, 42, 47, 94, 40, 41, 123, 125, 91, 93, 124, 38]
noncomputable def signN (t : List UInt8) : Nat := if t.take 2 = [45, 62] ∨ t.take 2 = [61, 61] then 2 else if headP (fun c => decide (c ∈ signsL)) t = true then 1 else 0
theorem rsign_eq (c : UInt8) (r : List UInt8) : m_syntagmaref04_sign (c :: r) = some (signN (c :: r) : Int) := by
  unfold m_syntagmaref04_sign signN
  have e1 : (bif (decide (2 ≤ ((c :: r).length : Int))) then ((sli (c :: r) 0 2).bind fun s2 => (bif (decide ((s2 : List UInt8) = ([45, 62] : List UInt8))) then (some true) else ((sli (c :: r) 0 2).bind fun s3 => some (decide ((s3 : List UInt8) = ([61, 61] : List UInt8))))).bind fun p2 => some p2) else (some false)) = some (decide ((c :: r).take 2 = [45, 62] ∨ (c :: r).take 2 = [61, 61])) := by
    by_cases h : 2 ≤ (c :: r).length
    · rw [decide_eq_true (by omega), cond_true, show sli (c :: r) 0 2 = some ((c :: r).take 2) from sli0 (k := 2) h]
      repeat rw [Option.bind_some]
      rw [bt, Option.bind_some]
      congr 1
      rw [Bool.eq_iff_iff, Bool.or_eq_true, decide_eq_true_eq, decide_eq_true_eq, decide_eq_true_eq]
    · rw [decide_eq_false (by omega), cond_false, decide_eq_false]
      rintro (e | e)
      · have := congrArg List.length e
        simp only [List.length_take, List.length_cons, List.length_nil] at this h; omega
      · have := congrArg List.length e
        simp only [List.length_take, List.length_cons, List.length_nil] at this h; omega
  rw [e1, Option.bind_some]
  by_cases h : (c :: r).take 2 = [45, 62] ∨ (c :: r).take 2 = [61, 61]
  · rw [decide_eq_true h, cond_true, if_pos h]; rfl
  · rw [decide_eq_false h, cond_false, if_neg h]
    have e2 := loop_any (φ := m_syntagmaref04_sign_l1 (c :: r)) (l := signsL) (1 : Int) (fun _ x => x = c) (by
      intro n i x hx hi
      simp only [m_syntagmaref04_sign_l1]
      rw [show ([59, 58, 44, 46, 61, 60, 62, 43, 45, 42, 47, 94, 40, 41, 123, 125, 91, 93, 124, 38] : List UInt8) = signsL from rfl, decide_eq_true (show (i : Int) < (signsL.length : Int) by omega), cond_true, getI hx, Option.bind_some, idx_c0, Option.bind_some]
      have hl : signsL.length = 20 := rfl
      exact ⟨fun hq => by rw [decide_eq_false (fun h => hq (UInt8.toNat_inj.1 (by omega))), cond_false, grd_pos (by omega)], fun hq => by rw [hq, decide_eq_true rfl, cond_true]⟩) (by
      intro n
      simp only [m_syntagmaref04_sign_l1]
      rw [show ([59, 58, 44, 46, 61, 60, 62, 43, 45, 42, 47, 94, 40, 41, 123, 125, 91, 93, 124, 38] : List UInt8) = signsL from rfl, decide_eq_false (by omega), cond_false]) (by rw [FUv]; decide)
    refine bnd e2 ?_
    by_cases hm : c ∈ signsL
    · rw [if_pos, if_pos]
      · rfl
      · simpa [headP] using hm
      · obtain ⟨i, hi, h2⟩ := List.getElem_of_mem hm
        exact ⟨i, c, by rw [← h2]; exact List.getElem?_eq_getElem hi, rfl⟩
    · rw [if_neg, if_neg]
      · rfl
      · simpa [headP] using hm
      · rintro ⟨i, x, h1, rfl⟩
        exact hm (List.mem_of_getElem? h1)
noncomputable def signF (t : List UInt8) : LexFound := if signN t = 0 then ⟨⟨0, [], 0, 0⟩, 0, 5⟩ else ⟨⟨7, t.take (signN t), 0, 0⟩, (signN t : Int), 0⟩
theorem sign_eq (c : UInt8) (r : List UInt8) : m_lex_sign (c :: r) = some (signF (c :: r)) := by
  unfold m_lex_sign signF signN m_strings_HasPrefix
  rw [hasP_eq, hasP_eq]
  simp only [Option.bind_some]
  rw [bt, Option.bind_some]
  simp only [List.length_cons, List.length_nil]
  rw [show (decide (List.take (0 + 1 + 1) (c :: r) = [45, 62]) || decide (List.take (0 + 1 + 1) (c :: r) = [61, 61])) = decide ((c :: r).take 2 = [45, 62] ∨ (c :: r).take 2 = [61, 61]) from by
    rw [Bool.eq_iff_iff, Bool.or_eq_true, decide_eq_true_eq, decide_eq_true_eq, decide_eq_true_eq]]
  by_cases h : (c :: r).take 2 = [45, 62] ∨ (c :: r).take 2 = [61, 61]
  · have hl : 2 ≤ (c :: r).length := by
      rcases h with e | e
      · have := congrArg List.length e
        simp only [List.length_take, List.length_cons, List.length_nil] at this ⊢; omega
      · have := congrArg List.length e
        simp only [List.length_take, List.length_cons, List.length_nil] at this ⊢; omega
    rw [decide_eq_true h, cond_true, if_pos h, if_neg (by omega), show sli (c :: r) 0 2 = some ((c :: r).take 2) from sli0 (k := 2) hl]; rfl
  · rw [decide_eq_false h, cond_false, if_neg h, idx_c0, Option.bind_some, show ([59, 58, 44, 46, 61, 60, 62, 43, 45, 42, 47, 94, 40, 41, 123, 125, 91, 93, 124, 38] : List UInt8) = signsL from rfl, first_nat]
    by_cases hm : c ∈ signsL
    · have e : headP (fun c => decide (c ∈ signsL)) (c :: r) = true := by simpa [headP] using hm
      rw [if_pos hm, decide_eq_false (by omega), cond_false, if_pos e, if_neg (by omega), show sli (c :: r) 0 1 = some ((c :: r).take 1) from sli0 (k := 1) (by simp)]; rfl
    · have e : ¬ headP (fun c => decide (c ∈ signsL)) (c :: r) = true := by simpa [headP] using hm
      rw [if_neg hm, if_neg e]; rfl
theorem sli_1 (c : UInt8) (r : List UInt8) : sli (c :: r) 1 (((c :: r).length : Nat) : Int) = some r := by
  have := sli_from (l := c :: r) (i := 1) rfl (by simp)
  simpa using this
theorem one_same (s t : List UInt8) (k : Nat) (ht : s.drop k = t) (hk : k ≤ s.length) (h0 : t ≠ []) (hl : s.length ≤ 1000) : ∃ f, m_lex_one t = some f ∧ m_syntagmaref04_one s (k : Int) = some (refOf f (k : Int)) ∧ Step f t := by
  obtain ⟨c, r, rfl⟩ := List.exists_cons_of_ne_nil h0
  have hL := drop_len ht hk
  simp only [List.length_cons] at hL
  unfold m_lex_one m_syntagmaref04_one
  rw [sli_from ht hk, Option.bind_some, idx_c0, Option.bind_some, Option.bind_some, word_eq _ (by simp; omega), rword_eq _ (by simp; omega), Option.bind_some, Option.bind_some]
  have hwl := word_le (c :: r)
  by_cases hw : 0 < wordP (c :: r)
  · -- a word
    rw [decide_eq_true (by omega), cond_true, cond_true, sli0 hwl, Option.bind_some]
    unfold m_lex_word
    rw [sli0 hwl, Option.bind_some]
    by_cases h20 : 20 < wordP (c :: r)
    · rw [decide_eq_true (by omega), cond_true, cond_true]
      exact ⟨_, rfl, rfl, fun h => by simp at h⟩
    · rw [decide_eq_false (by omega), cond_false, cond_false, keyword_eq, rkeyword_eq, Option.bind_some, Option.bind_some]
      have hst : Step ⟨⟨0, [], 0, 0⟩, (wordP (c :: r) : Int), 0⟩ (c :: r) := fun _ => by simp only; omega
      by_cases hkw : (c :: r).take (wordP (c :: r)) ∈ keysL
      · rw [decide_eq_true hkw, cond_true, cond_true, Option.bind_some]
        exact ⟨_, rfl, rfl, hst⟩
      · rw [decide_eq_false hkw, cond_false, cond_false]
        have e0 : idx ((c :: r).take (wordP (c :: r))) 0 = some c := by
          obtain ⟨m, hm⟩ : ∃ m, wordP (c :: r) = m + 1 := ⟨wordP (c :: r) - 1, by omega⟩
          rw [hm, List.take_succ_cons, idx_c0]
        rw [e0, Option.bind_some]
        repeat rw [Option.bind_some]
        rw [bf]
        repeat rw [Option.bind_some]
        cases (decide (65 ≤ (c.toNat : Int)) && decide ((c.toNat : Int) ≤ 90)) with
        | true => exact ⟨_, rfl, rfl, hst⟩
        | false => exact ⟨_, rfl, rfl, hst⟩
  · rw [decide_eq_false (by omega), cond_false, cond_false]
    by_cases h39 : (c.toNat : Int) = 39
    · -- a variable
      rw [decide_eq_true h39, cond_true, cond_true]
      unfold m_lex_variable
      have hwr := word_le r
      rw [sli_1, Option.bind_some, Option.bind_some, word_eq _ (by omega), rword_eq _ (by omega), Option.bind_some, Option.bind_some]
      by_cases hz : wordP r = 0
      · rw [decide_eq_true (by omega)]
        repeat first | rw [cond_true] | rw [Option.bind_some]
        exact ⟨_, rfl, rfl, fun h => by simp at h⟩
      · obtain ⟨d, r2, rfl⟩ : ∃ d r2, r = d :: r2 := by
          rcases r with _ | ⟨d, r2⟩
          · simp [wordP] at hz
          · exact ⟨d, r2, rfl⟩
        rw [decide_eq_false (by omega), cond_false, idx_c1]
        repeat rw [Option.bind_some]
        rw [bf]
        repeat rw [Option.bind_some]
        cases hgr : (decide (65 ≤ (d.toNat : Int)) && decide ((d.toNat : Int) ≤ 90)) with
        | true => exact ⟨_, rfl, rfl, fun h => by simp at h⟩
        | false =>
          rw [cond_false, cond_false]
          by_cases h20 : 20 < wordP (d :: r2)
          · rw [decide_eq_true (by omega), cond_true, cond_true]
            exact ⟨_, rfl, rfl, fun h => by simp at h⟩
          · rw [decide_eq_false (by omega), cond_false, cond_false]
            rw [grd_pos (show InR ((wordP (d :: r2) : Int) + 1) by omega), grd_pos (show InR (1 + (wordP (d :: r2) : Int)) by omega)]
            have hs := sli_nat (c :: d :: r2) 1 (wordP (d :: r2) + 1) (by omega) (by simp only [List.length_cons] at hwr ⊢; omega)
            rw [show ((1 : Nat) : Int) = 1 from rfl, show ((wordP (d :: r2) + 1 : Nat) : Int) = (wordP (d :: r2) : Int) + 1 by omega] at hs
            rw [show (1 : Int) + (wordP (d :: r2) : Int) = (wordP (d :: r2) : Int) + 1 by omega, hs]
            repeat rw [Option.bind_some]
            rw [grd_pos (by omega)]
            repeat rw [Option.bind_some]
            rw [grd_pos (by omega)]
            exact ⟨_, rfl, rfl, fun _ => by simp only [List.length_cons] at hwr ⊢; omega⟩
    · rw [decide_eq_false h39, cond_false, cond_false, digit_eq, Option.bind_some]
      cases hd : (digB c || decide ((c.toNat : Int) = 126)) with
      | true =>
        -- a number
        rw [cond_true]
        unfold digB at hd
        rw [hd, cond_true]
        unfold m_lex_number
        rw [num_l _ (by simp; omega) (by simp), rnum_l _ (by simp; omega) (by simp), Option.bind_some, Option.bind_some]
        have htl := tw_le digB r
        generalize hN : 1 + (((c :: r).drop 1).takeWhile digB).length = N
        have hNr : N = 1 + (r.takeWhile digB).length := by rw [← hN]; rfl
        rw [sli0 (l := c :: r) (k := N) (by simp; omega), Option.bind_some, Option.bind_some]
        have hT : (c :: r).take N = c :: r.takeWhile digB := by
          rw [hNr, Nat.add_comm, List.take_succ_cons]
          congr 1
          exact (List.prefix_iff_eq_take.1 (List.takeWhile_prefix digB)).symm
        have hall : (r.takeWhile digB).all digB = true := List.all_eq_true.2 fun x hx => mem_takeWhile hx
        have hpar : ∃ p : Int × Int, m_wrap_Parse ((c :: r).take N) = some p ∧ m_syntagmaref01_Parse ((c :: r).take N) = some p := by
          rw [hT]
          by_cases h126 : (c.toNat : Int) = 126
          · have hc : c = 126 := UInt8.toNat_inj.1 (by show c.toNat = 126; omega)
            subst hc
            exact ⟨_, parse_w true _ hall (by omega), rparse_w true _ hall (by omega)⟩
          · have hdc : digB c = true := by
              rw [decide_eq_false h126, Bool.or_false] at hd
              exact hd
            exact ⟨_, parse_w false (c :: r.takeWhile digB) (by simp [hdc, hall]) (by simp; omega), rparse_w false (c :: r.takeWhile digB) (by simp [hdc, hall]) (by simp; omega)⟩
        obtain ⟨⟨v, e⟩, p1, p2⟩ := hpar
        rw [p1, p2]
        repeat rw [Option.bind_some]
        refine ⟨_, rfl, ?_, fun _ => by simp only [List.length_cons]; omega⟩
        unfold refOf
        simp only
        by_cases he : e = 0
        · rw [decide_eq_true he, if_pos he]; rfl
        · rw [decide_eq_false he, if_neg he]; rfl
      | false =>
        rw [cond_false]
        have hd2 := hd
        unfold digB at hd2
        rw [hd2, cond_false]
        by_cases h34 : (c.toNat : Int) = 34
        · -- a text
          rw [decide_eq_true h34, cond_true, cond_true]
          unfold m_lex_text
          rw [q_take_eq _ (by simp; omega), r_take_eq _ (by simp; omega)]
          have hok := takeS_ok (c :: r)
          generalize takeS (c :: r) = T at hok
          obtain ⟨v, n, e⟩ := T
          repeat rw [Option.bind_some]
          refine ⟨_, rfl, ?_, fun h => hok h⟩
          unfold refOf
          simp only
          by_cases he : e = 0
          · rw [decide_eq_true he, if_pos he]; rfl
          · rw [decide_eq_false he, if_neg he]; rfl
        · rw [decide_eq_false h34, cond_false, cond_false, sign_eq, rsign_eq, Option.bind_some, Option.bind_some]
          refine ⟨_, rfl, ?_, ?_⟩
          · unfold signF refOf
            by_cases hz : signN (c :: r) = 0
            · rw [if_pos hz, decide_eq_false (by omega), cond_false]; rfl
            · have hsn : signN (c :: r) ≤ (c :: r).length := by
                unfold signN
                split
                · rename_i h
                  rcases h with e | e
                  · have := congrArg List.length e
                    simp only [List.length_take, List.length_cons, List.length_nil] at this ⊢; omega
                  · have := congrArg List.length e
                    simp only [List.length_take, List.length_cons, List.length_nil] at this ⊢; omega
                · split <;> simp
              rw [if_neg hz, decide_eq_true (by omega), cond_true, sli0 hsn]; rfl
          · unfold signF Step
            by_cases hz : signN (c :: r) = 0
            · rw [if_pos hz]; intro h; simp at h
            · rw [if_neg hz]
              intro _
              have hsn : signN (c :: r) ≤ (c :: r).length := by
                unfold signN
                split
                · rename_i h
                  rcases h with e | e
                  · have := congrArg List.length e
                    simp only [List.length_take, List.length_cons, List.length_nil] at this ⊢; omega
                  · have := congrArg List.length e
                    simp only [List.length_take, List.length_cons, List.length_nil] at this ⊢; omega
                · split <;> simp
              simp only
              omega
end Go.Proofs.Ytfcifodaohhcbaa
