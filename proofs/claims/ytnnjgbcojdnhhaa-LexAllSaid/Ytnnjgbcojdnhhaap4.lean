/- Part 4 of the proof: a program logic, what the functions compute, and what these answer; no condition. -/
import Derived.Test.Ytnnjgbcojdnhhaap3
set_option linter.unusedVariables false
set_option linter.unusedSimpArgs false
set_option maxRecDepth 100000
namespace Go.Proofs.Ytnnjgbcojdnhhaa
open Go.V
open Classical
theorem FUv : FU = 18446744073709551616 := rfl
theorem bt (b c : Bool) : (bif b then some true else some c : Option Bool) = some (b || c) := by cases b <;> rfl
theorem bf (b c : Bool) : (bif b then some c else some false : Option Bool) = some (b && c) := by cases b <;> rfl
theorem tw_le {α : Type} (p : α → Bool) (l : List α) : (l.takeWhile p).length ≤ l.length := (List.takeWhile_prefix p).length_le
def digitsL : List UInt8 := [48, 49, 50, 51, 52, 53, 54, 55, 56, 57, 97, 98, 99, 100, 101, 102]
def hexN (c : UInt8) : Int := if 48 ≤ c.toNat ∧ c.toNat ≤ 57 then (c.toNat : Int) - 48 else if 97 ≤ c.toNat ∧ c.toNat ≤ 102 then (c.toNat : Int) - 87 else -1
theorem idx_hex : ∀ c : UInt8, firstIdx ⟨digitsL.toArray⟩ c = hexN c := fun c => by
  have h : ∀ n : Fin 256, firstIdx ⟨digitsL.toArray⟩ (UInt8.ofNat n.val) = hexN (UInt8.ofNat n.val) := by decide +kernel
  have := h ⟨c.toNat, c.toNat_lt⟩
  simpa using this
theorem hex_eq (c : UInt8) : m_syntagmaref02_hex c = some (hexN c) := by
  have h : ∀ n : Fin 256, m_syntagmaref02_hex (UInt8.ofNat n.val) = some (hexN (UInt8.ofNat n.val)) := by decide +kernel
  have := h ⟨c.toNat, c.toNat_lt⟩
  simpa using this
theorem hexN_b (c : UInt8) : -1 ≤ hexN c ∧ hexN c < 16 := by
  unfold hexN
  split
  · omega
  · split <;> omega
def plainB (c : UInt8) : Bool := ((((decide (32 ≤ (c.toNat : Int))) && (decide ((c.toNat : Int) ≤ 126))) && (!decide ((c.toNat : Int) = 34))) && (!decide ((c.toNat : Int) = 92)))
theorem plain_eq (c : UInt8) : m_quote_plain c = some (plainB c) := rfl
def hexPart (r : List UInt8) : UInt8 × Nat := match r with
  | h :: l :: _ => if hexN h < 0 ∨ hexN l < 0 then (0, 0) else (toU8 (16 * hexN h + hexN l), 3)
  | _ => (0, 0)
/-- What stands behind a slash. -/
def escOne : List UInt8 → UInt8 × Nat
  | [] => (0, 0)
  | c :: r => if c.toNat = 34 ∨ c.toNat = 92 then (c, 1) else if c.toNat = 110 then (10, 1) else if c.toNat = 116 then (9, 1) else if c.toNat = 120 then hexPart r else (0, 0)
theorem escOne_le (t : List UInt8) : (escOne t).2 ≤ t.length := by
  unfold escOne hexPart
  repeat' split
  all_goals simp
theorem escape_eq (r : List UInt8) : m_quote_escape r = some ((escOne r).1, ((escOne r).2 : Int)) := by
  unfold m_quote_escape
  rw [show ([48, 49, 50, 51, 52, 53, 54, 55, 56, 57, 97, 98, 99, 100, 101, 102] : List UInt8) = digitsL from rfl]
  simp only [idx_hex, Bool.cond_eq_ite, Bool.and_eq_true, Bool.or_eq_true, Bool.not_eq_true', decide_eq_true_eq, decide_eq_false_iff_not, InR]
  rcases r with _ | ⟨c, r⟩
  · rfl
  · simp only [reduceCtorEq, if_false, idx_c0, Option.bind_some, escOne]
    by_cases h1 : c.toNat = 34 ∨ c.toNat = 92
    · by_cases h2 : c.toNat = 34
      · simp (disch := omega) only [↓if_pos, ↓if_neg, Option.bind_some, decide_eq_true_eq]; rfl
      · simp (disch := omega) only [↓if_pos, ↓if_neg, Option.bind_some, decide_eq_true_eq]; rfl
    · simp (disch := omega) only [↓if_pos, ↓if_neg, Option.bind_some, decide_eq_true_eq]
      by_cases h2 : c.toNat = 110
      · simp (disch := omega) only [↓if_pos, ↓if_neg]; rfl
      · by_cases h3 : c.toNat = 116
        · simp (disch := omega) only [↓if_pos, ↓if_neg]; rfl
        · by_cases h4 : c.toNat = 120
          · simp (disch := omega) only [↓if_pos, ↓if_neg]
            rcases r with _ | ⟨h, _ | ⟨l, r⟩⟩
            · simp (disch := omega) only [↓if_pos, ↓if_neg, List.length_cons, List.length_nil]; rfl
            · simp (disch := omega) only [↓if_pos, ↓if_neg, List.length_cons, List.length_nil]; rfl
            · have h1 := hexN_b h; have h2 := hexN_b l
              simp (disch := omega) only [↓if_neg, List.length_cons, idx_c1, idx_c2, Option.bind_some]
              dsimp only [hexPart]
              by_cases hh : hexN h < 0 ∨ hexN l < 0
              · simp only [if_pos hh]; rfl
              · simp (disch := omega) only [if_neg hh, ↓grd_pos]; rfl
          · simp (disch := omega) only [↓if_pos, ↓if_neg]; rfl
def takeR (t out : List UInt8) (i : Nat) : List UInt8 × Int × Int := match t with
  | [] => ([], 0, 5)
  | c :: r => if c.toNat = 34 then (if out.length > 200 then ([], 0, 7) else (out, (i : Int) + 1, 0)) else if c.toNat = 92 then (if (escOne r).2 = 0 then ([], 0, 5) else takeR (r.drop (escOne r).2) (out ++ [(escOne r).1]) (i + (escOne r).2 + 1)) else if plainB c then takeR r (out ++ [c]) (i + 1) else ([], 0, 5)
termination_by t.length
decreasing_by all_goals (simp; try omega)
def takeS (s : List UInt8) : List UInt8 × Int × Int := match s with
  | [] => ([], 0, 5)
  | c :: r => if c.toNat = 34 then takeR r [] 1 else ([], 0, 5)
def qK (oo : Out (List UInt8 × Int × Int) (List UInt8)) : Option (List UInt8 × Int × Int) := oo.on (fun r => some r) (fun _ => some ([], 0, 5))
theorem q_take_l (s : List UInt8) (hs : s.length ≤ 1000000) : ∀ (n : Nat) (t out : List UInt8) (i : Nat), t.length < n → s.drop i = t → i ≤ s.length → out.length ≤ i → (m_quote_Take_l1 s n ((i : Int), out)).bind qK = some (takeR t out i) := by
  intro n
  induction n with
  | zero => intro t out i h; omega
  | succ n ih =>
    intro t out i hn ht hi ho
    have hl := drop_len ht hi
    rw [m_quote_Take_l1]
    simp only [Bool.cond_eq_ite, decide_eq_true_eq, InR]
    rcases t with _ | ⟨c, r⟩
    · simp only [List.length_nil] at hl
      simp (disch := omega) only [↓if_neg]
      rw [takeR]; rfl
    · simp only [List.length_cons] at hl hn
      simp (disch := omega) only [↓if_pos, idx_dr0 ht, List.getElem?_cons_zero, Option.bind_some]
      rw [takeR]
      by_cases h1 : c.toNat = 34
      · simp (disch := omega) only [↓if_pos]
        by_cases h2 : out.length > 200
        · simp (disch := omega) only [↓if_pos]; rfl
        · simp (disch := omega) only [↓if_neg, ↓grd_pos]; rfl
      · simp (disch := omega) only [↓if_neg]
        by_cases h2 : c.toNat = 92
        · simp (disch := omega) only [↓if_pos, ↓grd_pos, sli_from1 ht, Option.bind_some, escape_eq]
          have he := escOne_le r
          by_cases h3 : (escOne r).2 = 0
          · simp (disch := omega) only [↓if_pos]; rfl
          · simp (disch := omega) only [↓if_neg, ↓grd_pos]
            have h4 := ih (r.drop (escOne r).2) (out ++ [(escOne r).1]) (i + (escOne r).2 + 1) (by simp; omega) (by
              have := drop_more ht ((escOne r).2 + 1)
              rw [show i + ((escOne r).2 + 1) = i + (escOne r).2 + 1 by omega] at this
              rw [this]; rfl) (by omega) (by simp; omega)
            rw [← h4]
            congr 3
        · simp (disch := omega) only [↓if_neg, plain_eq, Option.bind_some]
          by_cases h3 : plainB c = true
          · simp (disch := omega) only [h3, if_true, ↓grd_pos]
            exact ih r (out ++ [c]) (i + 1) (by omega) (drop_c ht) (by omega) (by simp; omega)
          · simp only [h3, if_false]; rfl
theorem q_take_eq (s : List UInt8) (hs : s.length ≤ 1000000) : m_quote_Take s = some (takeS s) := by
  unfold m_quote_Take
  rcases s with _ | ⟨c, r⟩
  · rfl
  · simp only [Bool.cond_eq_ite, decide_eq_true_eq, reduceCtorEq, if_false, idx_c0, Option.bind_some, Bool.not_eq_true', decide_eq_false_iff_not, takeS]
    by_cases h : c.toNat = 34
    · simp (disch := omega) only [↓if_neg, ↓if_pos]
      exact q_take_l (c :: r) hs FU r [] 1 (by simp at hs; unfold FU; omega) rfl (by simp) (by simp)
    · simp (disch := omega) only [↓if_neg, ↓if_pos]
def rK (s : List UInt8) (oo : Out (List UInt8 × Int × Int) (Int × List UInt8)) : Option (List UInt8 × Int × Int) := oo.on (fun r => some r) (fun x =>
    if (s.length : Int) ≤ x.1 then some ([], 0, 5) else if 200 < (x.2.length : Int) then some ([], 0, 7) else grd (InR (x.1 + 1)) (some (x.2, (x.1 + 1), 0)))
theorem r_take_l (s : List UInt8) (hs : s.length ≤ 1000000) : ∀ (n : Nat) (t out : List UInt8) (i : Nat), t.length < n → s.drop i = t → i ≤ s.length → out.length ≤ i → (m_syntagmaref02_Take_l1 s n ((i : Int), out)).bind (rK s) = some (takeR t out i) := by
  intro n
  induction n with
  | zero => intro t out i h; omega
  | succ n ih =>
    intro t out i hn ht hi ho
    have hl := drop_len ht hi
    rw [m_syntagmaref02_Take_l1]
    simp only [Bool.cond_eq_ite, Bool.and_eq_true, Bool.or_eq_true, Bool.not_eq_true', decide_eq_true_eq, decide_eq_false_iff_not, InR]
    rcases t with _ | ⟨c, r⟩
    · simp only [List.length_nil] at hl
      rw [bind_of (x := false) (if_neg (by omega)), takeR]
      show rK s (Out.go ((i : Int), out)) = _
      simp (disch := omega) only [rK, Out.on, Bool.cond_eq_ite, decide_eq_true_eq, ↓if_pos]
    · simp only [List.length_cons] at hl hn
      have hp : (if (i : Int) < (s.length : Int) then (idx s (i : Int)).bind fun c2 => some (!decide ((c2.toNat : Int) = 34)) else some false) = some (!decide ((c.toNat : Int) = 34)) := by
        rw [if_pos (by omega), idx_dr0 ht]; rfl
      rw [bind_of hp, takeR]
      by_cases h1 : c.toNat = 34
      · rw [if_neg (by simp; omega), if_pos h1]
        show rK s (Out.go ((i : Int), out)) = _
        simp only [rK, Out.on, Bool.cond_eq_ite, decide_eq_true_eq]
        rw [if_neg (by omega)]
        by_cases h2 : out.length > 200
        · simp (disch := omega) only [↓if_pos]
        · simp (disch := omega) only [↓if_neg, ↓grd_pos]
      · rw [if_pos (by simp; omega), if_neg h1, idx_dr0 ht]
        show ((if _ then _ else _ : Option _)).bind (rK s) = _
        by_cases h2 : c.toNat = 92
        · rw [if_neg (by omega), if_neg (by simp; omega), if_pos h2, grd_pos (by omega)]
          have he := escOne_le r
          rcases r with _ | ⟨d, r⟩
          · simp only [List.length_nil] at hl
            rw [if_pos (by omega)]; rfl
          · simp only [List.length_cons] at hl hn
            rw [if_neg (by omega), grd_pos (by omega), idx_dr1 ht, show (c :: d :: r)[1]? = some d from rfl, Option.bind_some, grd_pos (by omega)]
            have hq : (if (d.toNat : Int) = 34 then some (decide ((d.toNat : Int) = 34)) else some (decide ((d.toNat : Int) = 92))) = some (decide (d.toNat = 34 ∨ d.toNat = 92)) := by
              by_cases h : d.toNat = 34
              · rw [if_pos (by omega)]; congr 1; exact decide_eq_decide.2 (by omega)
              · rw [if_neg (by omega)]; congr 1; exact decide_eq_decide.2 (by omega)
            rw [bind_of hq]
            have one : ∀ x : UInt8, escOne (d :: r) = (x, 1) → (grd ((out.length + ([x] : List UInt8).length) * 1 ≤ 140737488355328) (m_syntagmaref02_Take_l1 s n ((i : Int) + 2, out ++ [x]))).bind (rK s) = some (if (escOne (d :: r)).2 = 0 then ([], 0, 5) else takeR ((d :: r).drop (escOne (d :: r)).2) (out ++ [(escOne (d :: r)).1]) (i + (escOne (d :: r)).2 + 1)) := by
              intro x hx
              rw [hx, grd_pos (by simp; omega), if_neg (by simp)]
              exact ih r (out ++ [x]) (i + 2) (by omega) (drop_more ht 2) (by omega) (by simp; omega)
            by_cases h3 : d.toNat = 34 ∨ d.toNat = 92
            · rw [if_pos (by simpa using h3)]
              exact one d (by dsimp only [escOne]; rw [if_pos h3])
            · rw [if_neg (by simpa using h3)]
              by_cases h4 : d.toNat = 110
              · rw [if_pos (by omega)]
                exact one 10 (by dsimp only [escOne]; rw [if_neg h3, if_pos h4])
              · rw [if_neg (by omega)]
                by_cases h5 : d.toNat = 116
                · rw [if_pos (by omega)]
                  exact one 9 (by dsimp only [escOne]; rw [if_neg h3, if_neg h4, if_pos h5])
                · rw [if_neg (by omega)]
                  by_cases h6 : d.toNat = 120
                  · rw [if_pos (by omega), grd_pos (by omega)]
                    have bad : escOne (d :: r) = (0, 0) → (some (Out.ret (([] : List UInt8), (0 : Int), (5 : Int))) : Option (Out (List UInt8 × Int × Int) (Int × List UInt8))).bind (rK s) = some (if (escOne (d :: r)).2 = 0 then ([], 0, 5) else takeR ((d :: r).drop (escOne (d :: r)).2) (out ++ [(escOne (d :: r)).1]) (i + (escOne (d :: r)).2 + 1)) := by
                      intro h; rw [h]; rfl
                    have hE : escOne (d :: r) = hexPart r := by
                      dsimp only [escOne]; rw [if_neg h3, if_neg h4, if_neg h5, if_pos h6]
                    rcases r with _ | ⟨h, _ | ⟨l, r⟩⟩
                    · simp only [List.length_nil] at hl
                      rw [bind_of (x := true) (if_pos (by omega)), bind_of (x := true) (if_pos rfl), if_pos rfl]
                      exact bad hE
                    · simp only [List.length_cons, List.length_nil] at hl
                      rw [bind_of (x := true) (if_pos (by omega)), bind_of (x := true) (if_pos rfl), if_pos rfl]
                      exact bad hE
                    · simp only [List.length_cons] at hl hn
                      have b1 := hexN_b h; have b2 := hexN_b l
                      have i2 : idx s ((i : Int) + 2) = some h := idx_dr2 ht
                      have i3 : idx s ((i : Int) + 2 + 1) = some l := idx_dr21 ht
                      rw [i2, i3]
                      simp only [Option.bind_some, hex_eq]
                      rw [if_neg (by omega)]
                      show ((if decide (hexN h < 0) = true then _ else _ : Option Bool).bind _).bind (rK s) = _
                      by_cases g1 : hexN h < 0
                      · rw [bind_of (x := true) (if_pos (by simpa using g1)), if_pos rfl]
                        exact bad (hE.trans (if_pos (.inl g1)))
                      · have hz : (if decide (hexN h < 0) = true then some true else grd (-9223372036854775808 ≤ (i : Int) + 2 + 1 ∧ (i : Int) + 2 + 1 ≤ 9223372036854775807) (some (decide (hexN l < 0)))) = some (decide (hexN l < 0)) := by
                          rw [if_neg (by simpa using g1), grd_pos (by omega)]
                        rw [bind_of hz]
                        by_cases g2 : hexN l < 0
                        · rw [if_pos (by simpa using g2)]
                          exact bad (hE.trans (if_pos (.inr g2)))
                        · rw [if_neg (by simpa using g2), grd_pos (by omega), grd_pos (by omega), grd_pos (by omega), grd_pos (by simp; omega), grd_pos (by omega)]
                          rw [hE.trans (if_neg (by omega))]
                          exact ih r (out ++ [toU8 (16 * hexN h + hexN l)]) (i + 4) (by omega) (drop_more ht 4) (by omega) (by simp; omega)
                  · rw [if_neg (by omega)]
                    have : escOne (d :: r) = (0, 0) := by dsimp only [escOne]; rw [if_neg h3, if_neg h4, if_neg h5, if_neg h6]
                    rw [this]; rfl
        · rw [if_neg h2]
          by_cases h3 : plainB c = true
          · have h4 : 32 ≤ c.toNat ∧ c.toNat ≤ 126 := by
              simp only [plainB, Bool.and_eq_true, decide_eq_true_eq] at h3; omega
            rw [if_neg (by omega), if_pos (by omega), if_pos h3, grd_pos (by simp; omega), grd_pos (by omega)]
            exact ih r (out ++ [c]) (i + 1) (by omega) (drop_c ht) (by omega) (by simp; omega)
          · have h4 : ¬ (32 ≤ c.toNat ∧ c.toNat ≤ 126) := by
              simp only [plainB, Bool.and_eq_true, decide_eq_true_eq, Bool.not_eq_true', decide_eq_false_iff_not] at h3; omega
            rw [if_pos (by omega), if_neg h3]; rfl
theorem r_take_eq (s : List UInt8) (hs : s.length ≤ 1000000) : m_syntagmaref02_Take s = some (takeS s) := by
  unfold m_syntagmaref02_Take
  simp only [Bool.cond_eq_ite, decide_eq_true_eq]
  rcases s with _ | ⟨c, r⟩
  · rfl
  · by_cases hr : r = []
    · subst hr
      rw [bind_of (x := true) (if_pos (by simp)), if_pos rfl]
      simp only [takeS]
      split
      · rw [takeR]
      · rfl
    · have hlen : 0 < r.length := List.length_pos_iff.2 hr
      have hp : (if ((c :: r).length : Int) < 2 then some true else (idx (c :: r) 0).bind fun c1 => some (!decide ((c1.toNat : Int) = 34))) = some (!decide ((c.toNat : Int) = 34)) := by
        rw [if_neg (by simp; omega)]; rfl
      rw [bind_of hp]
      simp only [takeS]
      by_cases h : c.toNat = 34
      · rw [if_neg (by simp; omega), if_pos h]
        exact r_take_l (c :: r) hs FU r [] 1 (by simp at hs; unfold FU; omega) rfl (by simp) (by simp)
      · rw [if_pos (by simp; omega), if_neg h]
def smallB (c : UInt8) : Bool := (decide (97 ≤ (c.toNat : Int)) && decide ((c.toNat : Int) ≤ 122)) || decide ((c.toNat : Int) = 95)
def greatB (c : UInt8) : Bool := decide (65 ≤ (c.toNat : Int)) && decide ((c.toNat : Int) ≤ 90)
def moreB (c : UInt8) : Bool := (smallB c || greatB c) || (decide (48 ≤ (c.toNat : Int)) && decide ((c.toNat : Int) ≤ 57))
def wordP : List UInt8 → Nat
  | [] => 0
  | c :: r => if smallB c = true ∨ greatB c = true then 1 + (r.takeWhile moreB).length else 0
theorem word_c (c : UInt8) (r : List UInt8) : wordP (c :: r) = if smallB c = true ∨ greatB c = true then 1 + (r.takeWhile moreB).length else 0 := rfl
theorem word_eq (s : List UInt8) (h : s.length ≤ 1000000000000) : m_name_Word s = some (wordP s : Int) := by
  unfold m_name_Word
  rcases s with _ | ⟨c, r⟩
  · rfl
  · rw [decide_eq_false (by simp), cond_false, idx_c0, Option.bind_some]
    simp only [m_name_small, m_name_great, Option.bind_some, bf]
    rw [show (((decide (97 ≤ (c.toNat : Int))) && (decide ((c.toNat : Int) ≤ 122))) || (decide ((c.toNat : Int) = 95))) = smallB c from rfl, show ((decide (65 ≤ (c.toNat : Int))) && (decide ((c.toNat : Int) ≤ 90))) = greatB c from rfl]
    rw [word_c]
    cases h1 : smallB c || greatB c with
    | false =>
      simp only [Bool.or_eq_false_iff] at h1
      rw [h1.1, h1.2]; simp
    | true =>
      rw [if_pos (by simpa using h1)]
      have : (!smallB c && !greatB c) = false := by cases hs : smallB c <;> cases hg : greatB c <;> simp_all
      rw [this, cond_false]
      simp only [List.length_cons] at h
      refine bnd (loop_while (φ := m_name_Word_l1 (c :: r)) (l := c :: r) moreB (fun i => (i : Int)) ?_ ?_ FU 1 (by simp) (by rw [FUv]; simp; omega)) rfl
      · intro n i x hx hi
        simp only [List.length_cons] at hi
        simp only [m_name_Word_l1]
        rw [decide_eq_true (by simp only [List.length_cons]; omega), cond_true, getI hx, Option.bind_some]
        simp only [m_name_more, m_name_small, m_name_great, Option.bind_some, bt]
        constructor
        · intro hq
          simp only [moreB, smallB, greatB] at hq
          rw [hq, cond_true, grd_pos (by omega)]
        · intro hq
          simp only [moreB, smallB, greatB] at hq
          rw [hq, cond_false]
      · intro n
        simp only [m_name_Word_l1]
        rw [decide_eq_false (by omega), cond_false, Option.bind_some, cond_false]
theorem rword_eq (s : List UInt8) (h : s.length ≤ 1000000000000) : m_syntagmaref03_Word s = some (wordP s : Int) := by
  unfold m_syntagmaref03_Word
  rcases s with _ | ⟨c, r⟩
  · rfl
  · rw [decide_eq_false (by simp; omega), cond_false, idx_c0, Option.bind_some]
    simp only [m_syntagmaref03_small, m_syntagmaref03_great, Option.bind_some, bf]
    rw [show (((decide (97 ≤ (c.toNat : Int))) && (decide ((c.toNat : Int) ≤ 122))) || (decide ((c.toNat : Int) = 95))) = smallB c from rfl, show ((decide (65 ≤ (c.toNat : Int))) && (decide ((c.toNat : Int) ≤ 90))) = greatB c from rfl]
    rw [word_c]
    cases h1 : smallB c || greatB c with
    | false =>
      simp only [Bool.or_eq_false_iff] at h1
      rw [h1.1, h1.2]; simp
    | true =>
      rw [if_pos (by simpa using h1)]
      have : (!smallB c && !greatB c) = false := by cases hs : smallB c <;> cases hg : greatB c <;> simp_all
      rw [this, cond_false]
      simp only [List.length_cons] at h
      refine bnd (loop_while (φ := m_syntagmaref03_Word_l1 (c :: r)) (l := c :: r) moreB (fun i => (i : Int)) ?_ ?_ FU 1 (by simp) (by rw [FUv]; simp; omega)) rfl
      · intro n i x hx hi
        simp only [List.length_cons] at hi
        simp only [m_syntagmaref03_Word_l1]
        rw [decide_eq_true (by simp only [List.length_cons]; omega), cond_true, getI hx, Option.bind_some]
        simp only [m_syntagmaref03_small, m_syntagmaref03_great, Option.bind_some, bt, bf]
        constructor
        · intro hq
          simp only [moreB, smallB, greatB] at hq
          rw [hq, cond_true, grd_pos (by omega)]
        · intro hq
          simp only [moreB, smallB, greatB] at hq
          rw [hq, cond_false]
      · intro n
        simp only [m_syntagmaref03_Word_l1]
        rw [decide_eq_false (by omega), cond_false, Option.bind_some, cond_false]
def keysL : List (List UInt8) := match m_name_Keywords with | some l => l | none => []
theorem keys_eq : m_name_Keywords = some keysL := rfl
theorem rkeys_eq : m_syntagmaref03_Keywords = some keysL := rfl
theorem isKey_eq (l : List (List UInt8)) (s : List UInt8) (h : l.length ≤ 1000) : m_slices_Contains_string_string l s = some (decide (s ∈ l)) := by
  unfold m_slices_Contains_string_string m_slices_Index_string_string
  have e := loop_find (φ := m_slices_Index_string_string_l1 l s) (l := l) (fun i => (i : Int)) (fun x => decide (s = x)) (by
    intro n i x hx hi
    simp only [m_slices_Index_string_string_l1]
    rw [decide_eq_true (show (i : Int) < l.length by omega), cond_true, getI hx, Option.bind_some]
    constructor
    · intro hq; rw [show decide (s = x) = false from by simpa using hq, cond_false, grd_pos (by omega)]
    · intro hq; rw [show decide (s = x) = true from by simpa using hq, cond_true]) (by
    intro n
    simp only [m_slices_Index_string_string_l1]
    rw [decide_eq_false (by omega), cond_false]) (by rw [FUv]; omega)
  rw [bind_of e]
  cases hf : l.findIdx? (fun x => decide (s = x)) with
  | none =>
    rw [List.findIdx?_eq_none_iff] at hf
    show some (decide _) = _
    congr 1
    rw [decide_eq_false (by omega), decide_eq_false]
    intro hs
    have := hf s hs
    simp at this
  | some k =>
    rw [List.findIdx?_eq_some_iff_getElem] at hf
    obtain ⟨hk, h1, _⟩ := hf
    show some (decide _) = _
    congr 1
    rw [decide_eq_true (by omega), decide_eq_true]
    simp only [decide_eq_true_eq] at h1
    rw [h1]
    exact List.getElem_mem hk
theorem rIsKey_eq (l : List (List UInt8)) (s : List UInt8) (h : l.length ≤ 1000) : m_syntagmaref03_In s l = some (decide (s ∈ l)) := by
  unfold m_syntagmaref03_In
  refine bnd (loop_any (φ := m_syntagmaref03_In_l1 s l) (l := l) true (fun _ x => x = s) ?_ ?_ (by rw [FUv]; omega)) ?_
  · intro n i x hx hi
    simp only [m_syntagmaref03_In_l1]
    rw [decide_eq_true (by omega), cond_true, getI hx, Option.bind_some]
    constructor
    · intro hq; rw [decide_eq_false hq, cond_false, grd_pos (by omega)]
    · intro hq; rw [decide_eq_true hq, cond_true]
  · intro n
    simp only [m_syntagmaref03_In_l1]
    rw [decide_eq_false (by omega), cond_false]
  · by_cases hs : s ∈ l
    · obtain ⟨i, hi, h2⟩ := List.getElem_of_mem hs
      rw [if_pos ⟨i, s, by rw [← h2]; exact List.getElem?_eq_getElem hi, rfl⟩, decide_eq_true hs]; rfl
    · rw [if_neg, decide_eq_false hs]; rfl
      rintro ⟨i, x, h1, rfl⟩
      exact hs (List.mem_of_getElem? h1)
def headP (p : UInt8 → Bool) : List UInt8 → Bool
  | [] => false
  | c :: _ => p c
theorem sli0 {l : List UInt8} {k : Nat} (h : k ≤ l.length) : sli l 0 (k : Int) = some (l.take k) := sli_take h
theorem hasP_eq (s p : List UInt8) : m_internal_stringslite_HasPrefix s p = some (decide (s.take p.length = p)) := by
  unfold m_internal_stringslite_HasPrefix
  by_cases h : p.length ≤ s.length
  · rw [decide_eq_true (by omega), cond_true, sli0 h]; rfl
  · rw [decide_eq_false (by omega), cond_false, decide_eq_false (p := s.take p.length = p)]
    · rfl
    · intro e
      have := congrArg List.length e
      simp at this; omega
theorem cutP_eq (s p : List UInt8) : m_strings_CutPrefix s p = some (if s.take p.length = p then (s.drop p.length, true) else (s, false)) := by
  unfold m_strings_CutPrefix m_internal_stringslite_CutPrefix
  rw [hasP_eq, Option.bind_some]
  by_cases h : s.take p.length = p
  · have hl : p.length ≤ s.length := by
      have := congrArg List.length h
      simp at this; omega
    rw [decide_eq_true h, if_pos h, Bool.not_true, cond_false, sli_from rfl hl]; rfl
  · rw [decide_eq_false h, if_neg h]; rfl
def digB (c : UInt8) : Bool := decide (48 ≤ (c.toNat : Int)) && decide ((c.toNat : Int) ≤ 57)
def valN : Nat → List UInt8 → Nat
  | a, [] => a
  | a, c :: r => valN (10 * a + (c.toNat - 48)) r
theorem valN_ge : ∀ (r : List UInt8) (a : Nat), a * 10 ^ r.length ≤ valN a r
  | [], a => by
    show a * 10 ^ 0 ≤ a
    rw [Nat.pow_zero, Nat.mul_one]; exact Nat.le_refl _
  | c :: r, a => by
    have := valN_ge r (10 * a + (c.toNat - 48))
    refine Nat.le_trans ?_ this
    rw [List.length_cons, Nat.pow_succ]
    calc a * (10 ^ r.length * 10) = (10 * a) * 10 ^ r.length := by rw [Nat.mul_comm (10 ^ _), ← Nat.mul_assoc, Nat.mul_comm a 10]
      _ ≤ _ := Nat.mul_le_mul_right _ (by omega)
theorem valN_mono (r : List UInt8) (a : Nat) : a ≤ valN a r := by
  have h := valN_ge r a
  have : a * 1 ≤ a * 10 ^ r.length := Nat.mul_le_mul_left _ (Nat.pos_of_ne_zero (by simp))
  omega
theorem td_nat (m n : Nat) : ((m : Int).tdiv (n : Int)) = ((m / n : Nat) : Int) := rfl
theorem td_low {d : Nat} (hd : d ≤ 9) : Int.tdiv (-9223372036854775808 + (d : Int)) 10 = -(((9223372036854775808 - d) / 10 : Nat) : Int) := by
  have key : ∀ m : Nat, Int.tdiv (-(m : Int)) 10 = -((m / 10 : Nat) : Int) := fun m => by
    rw [Int.neg_tdiv]
    exact congrArg (fun x => -x) (td_nat m 10)
  rw [← key]
  exact congrArg (fun z => Int.tdiv z 10) (show (-9223372036854775808 + (d : Int)) = -((9223372036854775808 - d : Nat) : Int) by omega)
theorem quo_ok {n : Int} {d : Nat} (hn : n ≤ 0) (hd : d ≤ 9) : n < Int.tdiv (-9223372036854775808 + (d : Int)) 10 ↔ 10 * n - d < -9223372036854775808 := by
  rw [td_low hd]
  omega
theorem digits_l (s : List UInt8) (hs : s.all digB = true) (hl : s.length ≤ 100000) : ∀ (n : Nat) (t : List UInt8) (i a : Nat), t.length < n → s.drop i = t → i ≤ s.length → a ≤ 9223372036854775808 →
    m_wrap_digits_l1 s n (-(a : Int), i) = some (if valN a t ≤ 9223372036854775808 then Out.go (-(valN a t : Int), s.length) else Out.ret (0, 5)) := by
  intro n
  induction n with
  | zero => intro t i a h; omega
  | succ n ih =>
    intro t i a hn ht hi ha
    simp only [m_wrap_digits_l1]
    have hL := drop_len ht hi
    rcases t with _ | ⟨c, t⟩
    · simp only [List.length_nil] at hL
      rw [decide_eq_false (by omega), cond_false, if_pos (show valN a [] ≤ _ from ha)]
      have : nextPos s i = s.length := by unfold nextPos; rw [if_neg (by omega)]; omega
      rw [this]; rfl
    · simp only [List.length_cons] at hL hn
      have hx : s[i]? = some c := by
        have := congrArg (·[0]?) ht
        simpa [List.getElem?_drop] using this
      have hc := List.all_eq_true.1 hs c (List.mem_of_getElem? hx)
      simp only [digB, Bool.and_eq_true, decide_eq_true_eq] at hc
      obtain ⟨r1, r2⟩ := rune_dig s i c hx (by omega)
      rw [decide_eq_true (by omega), cond_true, r1, r2, show (decide ((c.toNat : Int) < 48) || decide (57 < (c.toNat : Int))) = false by rw [Bool.or_eq_false_iff, decide_eq_false_iff_not, decide_eq_false_iff_not]; omega, cond_false]
      rw [show valN a (c :: t) = valN (10 * a + (c.toNat - 48)) t from rfl]
      have e : IntKind.i64.wrap (IntKind.i32.wrap ((c.toNat : Int) - 48)) = ((c.toNat - 48 : Nat) : Int) := by
        rw [i32w (by omega), i64w (by omega)]; omega
      rw [e]
      have hd : c.toNat - 48 ≤ 9 := by omega
      generalize c.toNat - 48 = d at *
      have hq := quo_ok (n := -(a : Int)) (d := d) (by omega) hd
      have hb : InR (Int.tdiv (-9223372036854775808 + (d : Int)) 10) := by
        rw [td_low hd]
        constructor <;> omega
      rw [grd_pos (by omega), grd_pos hb]
      by_cases hov : 10 * a + d ≤ 9223372036854775808
      · rw [decide_eq_false (by rw [hq]; omega), cond_false, grd_pos (by omega), grd_pos (by omega)]
        rw [show 10 * -(a : Int) - (d : Int) = -((10 * a + d : Nat) : Int) by omega]
        exact ih t (i + 1) (10 * a + d) (by omega) (drop_c ht) (by omega) hov
      · rw [decide_eq_true (by rw [hq]; omega), cond_true, if_neg]
        have := valN_mono t (10 * a + d)
        omega
def badN (d : List UInt8) : Prop := d = [] ∨ (1 < d.length ∧ d[0]? = some 48)
noncomputable def numP (neg : Bool) (d : List UInt8) : Int × Int :=
  if badN d ∨ 9223372036854775808 < valN 0 d ∨ (neg = true ∧ valN 0 d = 0) ∨ (neg = false ∧ valN 0 d = 9223372036854775808) then (0, 5) else (if neg = true then -(valN 0 d : Int) else (valN 0 d : Int), 0)
theorem c48 {c : UInt8} : c.toNat = 48 ↔ c = 48 := ⟨fun h => UInt8.toNat_inj.1 h, fun h => by rw [h]; rfl⟩
theorem digits_eq (d : List UInt8) (hs : d.all digB = true) (hl : d.length ≤ 100000) : m_wrap_digits d = some (if badN d ∨ 9223372036854775808 < valN 0 d then (0, 5) else (-(valN 0 d : Int), 0)) := by
  unfold m_wrap_digits
  rcases d with _ | ⟨c, r⟩
  · rw [if_pos (.inl (.inl rfl))]; rfl
  · have e1 : ((bif (decide (1 < ((c :: r).length : Int))) then ((idx (c :: r) 0).bind fun c1 => some (decide ((c1.toNat : Int) = 48))) else (some false)).bind fun p2 => some p2) = some (decide (badN (c :: r))) := by
      rw [idx_c0, Option.bind_some, bf, Option.bind_some]
      congr 1
      rw [Bool.eq_iff_iff, Bool.and_eq_true, decide_eq_true_eq, decide_eq_true_eq, decide_eq_true_eq]
      unfold badN
      simp only [reduceCtorEq, false_or, List.getElem?_cons_zero, Option.some.injEq, ← c48 (c := c)]
      omega
    rw [decide_eq_false (by simp), cond_false, e1, Option.bind_some]
    by_cases hb : badN (c :: r)
    · rw [decide_eq_true hb, cond_true, if_pos (.inl hb)]
    · rw [decide_eq_false hb, cond_false]
      have := digits_l (c :: r) hs hl FU (c :: r) 0 0 (by rw [FUv]; omega) rfl (by omega) (by omega)
      simp only [Int.ofNat_zero, Int.cast_ofNat_Int, Int.neg_zero] at this
      refine bnd this ?_
      by_cases hv : valN 0 (c :: r) ≤ 9223372036854775808
      · rw [if_pos hv, if_neg (fun h => h.elim hb (fun h => by omega))]; rfl
      · rw [if_neg hv, if_pos (.inr (by omega))]; rfl
theorem parse_w (neg : Bool) (d : List UInt8) (hs : d.all digB = true) (hl : d.length ≤ 100000) : m_wrap_Parse (if neg = true then 126 :: d else d) = some (numP neg d) := by
  unfold m_wrap_Parse
  have e : (if (if neg = true then 126 :: d else d).take ([126] : List UInt8).length = [126] then ((if neg = true then 126 :: d else d).drop ([126] : List UInt8).length, true) else ((if neg = true then 126 :: d else d), false)) = (d, neg) := by
    cases neg with
    | true => simp
    | false =>
      simp only [Bool.false_eq_true, if_false]
      rw [if_neg]
      intro h
      rcases d with _ | ⟨c, r⟩
      · simp at h
      · simp at h
        subst h
        simp [digB] at hs
  rw [cutP_eq, e]
  simp only [Option.bind_some]
  rw [digits_eq d hs hl]
  unfold numP
  by_cases hb : badN d ∨ 9223372036854775808 < valN 0 d
  · rw [if_pos hb, if_pos (by rcases hb with h | h <;> simp [h])]; rfl
  · rw [if_neg hb]
    simp only [Option.bind_some, decide_true, Bool.not_true, cond_false]
    have hb1 : ¬ badN d := fun h => hb (.inl h)
    have hb2 : valN 0 d ≤ 9223372036854775808 := by omega
    cases neg with
    | true =>
      simp only [Bool.true_and, Bool.not_true, Bool.false_and, Bool.or_false, cond_true]
      by_cases h0 : valN 0 d = 0
      · rw [decide_eq_true (by omega), cond_true, if_pos (.inr (.inr (.inl ⟨by trivial, h0⟩)))]
      · rw [decide_eq_false (by omega), cond_false, if_neg (by rintro (h | h | h | h); exact hb1 h; omega; exact h0 h.2; cases h.1)]
        simp
    | false =>
      simp only [Bool.false_and, Bool.not_false, Bool.true_and, Bool.false_or, cond_false]
      by_cases h0 : valN 0 d = 9223372036854775808
      · rw [decide_eq_true (by omega), cond_true, if_pos (.inr (.inr (.inr ⟨by trivial, h0⟩)))]
      · rw [decide_eq_false (by omega), cond_false, if_neg (by rintro (h | h | h | h); exact hb1 h; omega; cases h.1; exact h0 h.2), grd_pos (by omega)]
        simp
theorem p19 : (10 : Nat) ^ 19 ≤ 10000000000000000000 := by decide
theorem p19' : 10000000000000000000 ≤ (10 : Nat) ^ 19 := by decide
def limN (x k : Nat) : Prop := x * 10 ^ k ≤ 10000000000000000000
theorem lim_step {a d k : Nat} (h : limN (a + 1) (k + 1)) (hd : d ≤ 9) : limN (10 * a + d + 1) k ∧ 10 * a + d + 1 ≤ 10000000000000000000 := by
  unfold limN at h ⊢
  rw [Nat.pow_succ] at h
  have hpos : 1 ≤ 10 ^ k := Nat.pos_of_ne_zero (by simp)
  generalize 10 ^ k = P at *
  have h2 : (10 * a + d + 1) * P ≤ (a + 1) * (P * 10) := by
    rw [show (a + 1) * (P * 10) = (10 * (a + 1)) * P by rw [Nat.mul_comm P 10, ← Nat.mul_assoc, Nat.mul_comm (a + 1) 10]]
    exact Nat.mul_le_mul_right _ (by clear h; omega)
  have h3 : 10 * a + d + 1 ≤ (10 * a + d + 1) * P := Nat.le_mul_of_pos_right _ hpos
  exact ⟨Nat.le_trans h2 h, Nat.le_trans h3 (Nat.le_trans h2 h)⟩
theorem rparse_l (s : List UInt8) (hs : s.all digB = true) (hl : s.length ≤ 19) : ∀ (n : Nat) (t : List UInt8) (i a : Nat), t.length < n → s.drop i = t → i ≤ s.length → limN (a + 1) t.length →
    m_syntagmaref01_Parse_l1 s n ((a : Int), (i : Int)) = some (Out.go ((valN a t : Nat) : Int)) := by
  intro n
  induction n with
  | zero => intro t i a h; omega
  | succ n ih =>
    intro t i a hn ht hi ha
    simp only [m_syntagmaref01_Parse_l1]
    have hL := drop_len ht hi
    rcases t with _ | ⟨c, t⟩
    · simp only [List.length_nil] at hL
      rw [decide_eq_false (by omega), cond_false]; rfl
    · simp only [List.length_cons] at hL hn
      have hx : s[i]? = some c := by
        have := congrArg (·[0]?) ht
        simpa [List.getElem?_drop] using this
      have hc := List.all_eq_true.1 hs c (List.mem_of_getElem? hx)
      simp only [digB, Bool.and_eq_true, decide_eq_true_eq] at hc
      rw [decide_eq_true (by omega), cond_true, getI hx]
      rw [Option.bind_some, Option.bind_some, bt, show (decide ((c.toNat : Int) < 48) || decide (57 < (c.toNat : Int))) = false by rw [Bool.or_eq_false_iff, decide_eq_false_iff_not, decide_eq_false_iff_not]; omega, Option.bind_some, cond_false, Option.bind_some, grd_pos (by omega)]
      have hd : c.toNat - 48 ≤ 9 := by omega
      obtain ⟨ha2, ha3⟩ := lim_step ha hd
      have e1 : ((c - 48 : UInt8).toNat : Int) = ((c.toNat - 48 : Nat) : Int) := by
        rw [UInt8.toNat_sub_of_le _ _ (by rw [UInt8.le_iff_toNat_le]; show 48 ≤ c.toNat; omega)]; rfl
      rw [e1, u64w (n := 10 * (a : Int)) (by omega), u64w (n := ((c.toNat - 48 : Nat) : Int)) (by omega), u64w (by omega)]
      rw [show 10 * (a : Int) + ((c.toNat - 48 : Nat) : Int) = ((10 * a + (c.toNat - 48) : Nat) : Int) by omega]
      exact ih t (i + 1) _ (by omega) (drop_c ht) (by omega) ha2
theorem rparse_w (neg : Bool) (d : List UInt8) (hs : d.all digB = true) (hl : d.length ≤ 100000) : m_syntagmaref01_Parse (if neg = true then 126 :: d else d) = some (numP neg d) := by
  unfold m_syntagmaref01_Parse
  have e1 : (bif (decide (0 < ((if neg = true then 126 :: d else d).length : Int))) then ((idx (if neg = true then 126 :: d else d) 0).bind fun c1 => some (decide ((c1.toNat : Int) = 126))) else (some false)) = some neg := by
    cases neg with
    | true => simp [idx_c0]
    | false =>
      simp only [Bool.false_eq_true, if_false]
      rcases d with _ | ⟨c, r⟩
      · rfl
      · simp only [List.all_cons, Bool.and_eq_true, digB, decide_eq_true_eq] at hs
        rw [idx_c0, Option.bind_some, bf, decide_eq_false (p := (c.toNat : Int) = 126) (by omega), Bool.and_false]
  rw [e1, Option.bind_some]
  have e2 : (bif neg then (sli (if neg = true then 126 :: d else d) 1 ((if neg = true then 126 :: d else d).length : Int)).bind fun s2 => some s2 else some (if neg = true then 126 :: d else d)) = some d := by
    cases neg with
    | true =>
      have := sli_from (l := (126 : UInt8) :: d) (i := 1) rfl (by simp)
      simp only [cond_true, if_true]
      rw [show ((1 : Nat) : Int) = 1 from rfl] at this
      rw [this]; rfl
    | false => rfl
  rw [e2, Option.bind_some]
  have e3 : ((bif (decide (1 < (d.length : Int))) then ((idx d 0).bind fun c2 => some (decide ((c2.toNat : Int) = 48))) else (some false)).bind fun p3 => some p3) = some (decide (1 < d.length ∧ d[0]? = some 48)) := by
    rcases d with _ | ⟨c, r⟩
    · rfl
    · rw [idx_c0, Option.bind_some, bf, Option.bind_some]
      congr 1
      rw [Bool.eq_iff_iff, Bool.and_eq_true, decide_eq_true_eq, decide_eq_true_eq, decide_eq_true_eq]
      simp only [List.getElem?_cons_zero, Option.some.injEq, ← c48 (c := c)]
      omega
  rw [e3, bt, Option.bind_some]
  unfold numP
  by_cases hb : badN d
  · rw [if_pos (.inl hb), show ((decide ((d.length : Int) < 1) || decide (19 < (d.length : Int)) || decide (1 < d.length ∧ d[0]? = some 48)) || (neg && decide (d = ([48] : List UInt8)))) = true from ?_]; rfl
    rcases hb with rfl | hb
    · rfl
    · rw [decide_eq_true hb]; simp
  · have hne : d ≠ [] := fun h => hb (.inl h)
    obtain ⟨c, r, rfl⟩ := List.exists_cons_of_ne_nil hne
    have hcd : digB c = true ∧ r.all digB = true := by simpa using hs
    have hc := hcd.1
    simp only [digB, Bool.and_eq_true, decide_eq_true_eq] at hc
    have h1 : ¬ (1 < (c :: r).length ∧ (c :: r)[0]? = some 48) := fun h => hb (.inr h)
    have hge := valN_ge r (c.toNat - 48)
    have hv0 : valN 0 (c :: r) = valN (c.toNat - 48) r := by show valN (10 * 0 + _) r = _; simp
    have hz : c.toNat = 48 → r = [] := by
      intro h
      rcases r with _ | ⟨x, r⟩
      · rfl
      · exact absurd ⟨by simp, by simp [c48.1 h]⟩ h1
    by_cases hlen : 19 < (c :: r).length
    · rw [if_pos, decide_eq_true (p := 19 < ((c :: r).length : Int)) (by omega)]
      · simp
      · right; left
        have : c.toNat ≠ 48 := fun h => by rw [hz h] at hlen; simp at hlen
        rw [hv0]
        have h2 : 10000000000000000000 ≤ 10 ^ r.length := Nat.le_trans p19' (Nat.pow_le_pow_right (by omega) (show 19 ≤ r.length by simp at hlen; omega))
        have h3 : 1 * 10 ^ r.length ≤ (c.toNat - 48) * 10 ^ r.length := Nat.mul_le_mul_right _ (by omega)
        omega
    · have h0 : (neg && decide (c :: r = ([48] : List UInt8))) = decide (neg = true ∧ valN 0 (c :: r) = 0) := by
        rw [Bool.eq_iff_iff, Bool.and_eq_true, decide_eq_true_eq, decide_eq_true_eq]
        refine and_congr_right fun _ => ?_
        rw [hv0]
        constructor
        · intro h
          simp only [List.cons.injEq] at h
          rw [h.1, h.2]; rfl
        · intro h
          rw [h] at hge
          have hp : 0 < 10 ^ r.length := Nat.pos_of_ne_zero (by simp)
          have : c.toNat - 48 = 0 := by
            rcases Nat.eq_zero_or_pos (c.toNat - 48) with h2 | h2
            · exact h2
            · have := Nat.mul_pos h2 hp; omega
          have h5 : c.toNat = 48 := by omega
          rw [hz h5, c48.1 h5]
      rw [decide_eq_false (p := ((c :: r).length : Int) < 1) (by simp; omega), decide_eq_false (p := 19 < ((c :: r).length : Int)) (by omega), decide_eq_false h1, h0]
      simp only [Bool.false_or, Bool.or_false]
      by_cases hn : neg = true ∧ valN 0 (c :: r) = 0
      · rw [decide_eq_true hn, cond_true, if_pos (.inr (.inr (.inl hn)))]
      · rw [decide_eq_false hn, cond_false]
        have hl2 : (c :: r).length ≤ 19 := by omega
        have := rparse_l (c :: r) hs hl2 FU (c :: r) 0 0 (by rw [FUv]; omega) rfl (by omega) (by
          unfold limN; rw [Nat.zero_add, Nat.one_mul]; exact Nat.le_trans (Nat.pow_le_pow_right (by omega) hl2) p19)
        simp only [Int.ofNat_zero, Int.cast_ofNat_Int] at this
        refine bnd this ?_
        rw [go_on]
        by_cases h6 : 9223372036854775808 < valN 0 (c :: r)
        · rw [decide_eq_true (by omega), Bool.true_or, cond_true, if_pos (.inr (.inl h6))]
        · rw [decide_eq_false (p := 9223372036854775808 < ((valN 0 (c :: r) : Nat) : Int)) (by omega), Bool.false_or]
          by_cases h7 : neg = false ∧ valN 0 (c :: r) = 9223372036854775808
          · rw [h7.1, decide_eq_true (by omega), if_pos (.inr (.inr (.inr ⟨rfl, h7.2⟩)))]; rfl
          · rw [if_neg (by rintro (h | h | h | h); exact hb h; exact h6 h; exact hn h; exact h7 h)]
            cases neg with
            | true =>
              have hp : 0 < valN 0 (c :: r) := by
                rcases Nat.eq_zero_or_pos (valN 0 (c :: r)) with h | h
                · exact absurd ⟨rfl, h⟩ hn
                · exact h
              simp only [Bool.not_true, Bool.and_false, cond_false, cond_true, if_true]
              congr 2
              generalize valN 0 (c :: r) = v at *
              simp only [IntKind.wrap, IntKind.bits, IntKind.signed]
              simp
              omega
            | false =>
              have h8 : valN 0 (c :: r) ≠ 9223372036854775808 := fun h => h7 ⟨rfl, h⟩
              rw [decide_eq_false (by omega)]
              simp only [Bool.not_false, Bool.and_true, cond_false, Bool.false_eq_true, if_false]
              rw [i64w (by omega)]
end Go.Proofs.Ytnnjgbcojdnhhaa
set_option linter.unusedVariables false
set_option linter.unusedSimpArgs false
set_option maxRecDepth 100000
namespace Go.Proofs.Ytnnjgbcojdnhhaa
open Go.V
open Classical
def refOf (f : LexFound) (at_ : Int) : ApiToken × Int × Int := if f.e_ = 0 then (⟨f.t.kind, f.t.s, f.t.n_, at_⟩, f.n_, 0) else (⟨0, [], 0, 0⟩, 0, f.e_)
def Step (f : LexFound) (t : List UInt8) : Prop := f.e_ = 0 → 0 < f.n_ ∧ f.n_ ≤ (t.length : Int)
theorem digit_eq (c : UInt8) : m_lex_digit c = some (digB c) := rfl
theorem keyword_eq (s : List UInt8) : m_name_Keyword s = some (decide (s ∈ keysL)) := by
  unfold m_name_Keyword
  rw [keys_eq, Option.bind_some, isKey_eq _ _ (by decide)]; rfl
theorem rkeyword_eq (s : List UInt8) : m_syntagmaref03_Keyword s = some (decide (s ∈ keysL)) := by
  unfold m_syntagmaref03_Keyword
  rw [rkeys_eq, Option.bind_some, rIsKey_eq _ _ (by decide)]; rfl
theorem word_le (t : List UInt8) : wordP t ≤ t.length := by
  rcases t with _ | ⟨c, r⟩
  · simp [wordP]
  · rw [word_c]
    have := tw_le moreB r
    split <;> simp <;> omega
theorem num_l (t : List UInt8) (h : t.length ≤ 100000) (h1 : 1 ≤ t.length) : m_lex_number_l1 t FU 1 = some ((1 + ((t.drop 1).takeWhile digB).length : Nat) : Int) := by
  have := loop_while (φ := m_lex_number_l1 t) (l := t) digB (fun i => (i : Int)) (by
    intro n i x hx hi
    simp only [m_lex_number_l1]
    rw [decide_eq_true (by omega), cond_true, getI hx, Option.bind_some, digit_eq, Option.bind_some, Option.bind_some]
    exact ⟨fun hq => by rw [hq, cond_true, grd_pos (by omega)], fun hq => by rw [hq, cond_false]⟩) (by
    intro n
    simp only [m_lex_number_l1]
    rw [decide_eq_false (by omega), cond_false, Option.bind_some, cond_false]) FU 1 h1 (by rw [FUv]; omega)
  exact this
theorem rnum_l (t : List UInt8) (h : t.length ≤ 100000) (h1 : 1 ≤ t.length) : m_syntagmaref04_one_l1 t FU 1 = some ((1 + ((t.drop 1).takeWhile digB).length : Nat) : Int) := by
  have := loop_while (φ := m_syntagmaref04_one_l1 t) (l := t) digB (fun i => (i : Int)) (by
    intro n i x hx hi
    simp only [m_syntagmaref04_one_l1]
    rw [decide_eq_true (by omega), cond_true, getI hx, Option.bind_some, Option.bind_some, Option.bind_some, bf, Option.bind_some]
    exact ⟨fun hq => by unfold digB at hq; rw [hq, cond_true, grd_pos (by omega)], fun hq => by unfold digB at hq; rw [hq, cond_false]⟩) (by
    intro n
    simp only [m_syntagmaref04_one_l1]
    rw [decide_eq_false (by omega), cond_false, Option.bind_some, cond_false, Option.bind_some, cond_false]) FU 1 h1 (by rw [FUv]; omega)
  exact this
theorem takeR_ok : ∀ (k : Nat) (t out : List UInt8) (i : Nat), t.length < k → (takeR t out i).2.2 = 0 → (i : Int) < (takeR t out i).2.1 ∧ (takeR t out i).2.1 ≤ ((i + t.length : Nat) : Int) := by
  intro k
  induction k with
  | zero => intro t out i h; omega
  | succ k ih =>
    intro t out i hk h
    rcases t with _ | ⟨c, r⟩
    · rw [takeR] at h; simp at h
    · rw [takeR] at h ⊢
      simp only [List.length_cons] at hk ⊢
      split at h
      · rename_i h1
        rw [if_pos h1]
        split at h
        · simp at h
        · rename_i h2
          rw [if_neg h2]
          simp only
          omega
      · rename_i h1
        rw [if_neg h1]
        split at h
        · rename_i h2
          rw [if_pos h2]
          split at h
          · simp at h
          · rename_i h3
            rw [if_neg h3]
            have hle := escOne_le r
            have := ih _ _ _ (by simp; omega) h
            simp only [List.length_drop] at this
            omega
        · rename_i h2
          rw [if_neg h2]
          split at h
          · rename_i h3
            rw [if_pos h3]
            have := ih _ _ _ (by omega) h
            omega
          · simp at h
theorem takeS_ok (s : List UInt8) (h : (takeS s).2.2 = 0) : 0 < (takeS s).2.1 ∧ (takeS s).2.1 ≤ (s.length : Int) := by
  unfold takeS at h ⊢
  rcases s with _ | ⟨c, r⟩
  · simp at h
  · simp only at h ⊢
    split at h
    · rename_i h1
      rw [if_pos h1]
      have := takeR_ok _ _ _ _ (Nat.lt_succ_self _) h
      simp only [List.length_cons]
      omega
    · simp at h
def signsL : List UInt8 := [59, 58, 44, 46, 61, 60, 62, 43, 45, 42, 47, 94, 40, 41, 123, 125, 91, 93, 124, 38]
noncomputable def signN (t : List UInt8) : Nat := if t.take 2 = [45, 62] ∨ t.take 2 = [61, 61] then 2 else if headP (fun c => decide (c ∈ signsL)) t = true then 1 else 0
theorem rsign_eq (c : UInt8) (r : List UInt8) : m_syntagmaref04_sign (c :: r) = some (signN (c :: r) : Int) := by
  unfold m_syntagmaref04_sign signN
  have e1 : (bif (decide (2 ≤ ((c :: r).length : Int))) then ((sli (c :: r) 0 2).bind fun s2 => (bif (decide ((s2 : List UInt8) = ([45, 62] : List UInt8))) then (some true) else ((sli (c :: r) 0 2).bind fun s3 => some (decide ((s3 : List UInt8) = ([61, 61] : List UInt8))))).bind fun p2 => some p2) else (some false)) = some (decide ((c :: r).take 2 = [45, 62] ∨ (c :: r).take 2 = [61, 61])) := by
    by_cases h : 2 ≤ (c :: r).length
    · rw [decide_eq_true (by omega), cond_true, show sli (c :: r) 0 2 = some ((c :: r).take 2) from sli0 (k := 2) h]
      repeat rw [Option.bind_some]
      rw [bt, Option.bind_some]
      congr 1
      rw [Bool.eq_iff_iff, Bool.or_eq_true, decide_eq_true_eq, decide_eq_true_eq, decide_eq_true_eq]
    · rw [decide_eq_false (by omega), cond_false, decide_eq_false]
      rintro (e | e)
      · have := congrArg List.length e
        simp only [List.length_take, List.length_cons, List.length_nil] at this h; omega
      · have := congrArg List.length e
        simp only [List.length_take, List.length_cons, List.length_nil] at this h; omega
  rw [e1, Option.bind_some]
  by_cases h : (c :: r).take 2 = [45, 62] ∨ (c :: r).take 2 = [61, 61]
  · rw [decide_eq_true h, cond_true, if_pos h]; rfl
  · rw [decide_eq_false h, cond_false, if_neg h]
    have e2 := loop_any (φ := m_syntagmaref04_sign_l1 (c :: r)) (l := signsL) (1 : Int) (fun _ x => x = c) (by
      intro n i x hx hi
      simp only [m_syntagmaref04_sign_l1]
      rw [show ([59, 58, 44, 46, 61, 60, 62, 43, 45, 42, 47, 94, 40, 41, 123, 125, 91, 93, 124, 38] : List UInt8) = signsL from rfl, decide_eq_true (show (i : Int) < (signsL.length : Int) by omega), cond_true, getI hx, Option.bind_some, idx_c0, Option.bind_some]
      have hl : signsL.length = 20 := rfl
      exact ⟨fun hq => by rw [decide_eq_false (fun h => hq (UInt8.toNat_inj.1 (by omega))), cond_false, grd_pos (by omega)], fun hq => by rw [hq, decide_eq_true rfl, cond_true]⟩) (by
      intro n
      simp only [m_syntagmaref04_sign_l1]
      rw [show ([59, 58, 44, 46, 61, 60, 62, 43, 45, 42, 47, 94, 40, 41, 123, 125, 91, 93, 124, 38] : List UInt8) = signsL from rfl, decide_eq_false (by omega), cond_false]) (by rw [FUv]; decide)
    refine bnd e2 ?_
    by_cases hm : c ∈ signsL
    · rw [if_pos, if_pos]
      · rfl
      · simpa [headP] using hm
      · obtain ⟨i, hi, h2⟩ := List.getElem_of_mem hm
        exact ⟨i, c, by rw [← h2]; exact List.getElem?_eq_getElem hi, rfl⟩
    · rw [if_neg, if_neg]
      · rfl
      · simpa [headP] using hm
      · rintro ⟨i, x, h1, rfl⟩
        exact hm (List.mem_of_getElem? h1)
noncomputable def signF (t : List UInt8) : LexFound := if signN t = 0 then ⟨⟨0, [], 0, 0⟩, 0, 5⟩ else ⟨⟨7, t.take (signN t), 0, 0⟩, (signN t : Int), 0⟩
theorem sign_eq (c : UInt8) (r : List UInt8) : m_lex_sign (c :: r) = some (signF (c :: r)) := by
  unfold m_lex_sign signF signN m_strings_HasPrefix
  rw [hasP_eq, hasP_eq]
  simp only [Option.bind_some]
  rw [bt, Option.bind_some]
  simp only [List.length_cons, List.length_nil]
  rw [show (decide (List.take (0 + 1 + 1) (c :: r) = [45, 62]) || decide (List.take (0 + 1 + 1) (c :: r) = [61, 61])) = decide ((c :: r).take 2 = [45, 62] ∨ (c :: r).take 2 = [61, 61]) from by
    rw [Bool.eq_iff_iff, Bool.or_eq_true, decide_eq_true_eq, decide_eq_true_eq, decide_eq_true_eq]]
  by_cases h : (c :: r).take 2 = [45, 62] ∨ (c :: r).take 2 = [61, 61]
  · have hl : 2 ≤ (c :: r).length := by
      rcases h with e | e
      · have := congrArg List.length e
        simp only [List.length_take, List.length_cons, List.length_nil] at this ⊢; omega
      · have := congrArg List.length e
        simp only [List.length_take, List.length_cons, List.length_nil] at this ⊢; omega
    rw [decide_eq_true h, cond_true, if_pos h, if_neg (by omega), show sli (c :: r) 0 2 = some ((c :: r).take 2) from sli0 (k := 2) hl]; rfl
  · rw [decide_eq_false h, cond_false, if_neg h, idx_c0, Option.bind_some, show ([59, 58, 44, 46, 61, 60, 62, 43, 45, 42, 47, 94, 40, 41, 123, 125, 91, 93, 124, 38] : List UInt8) = signsL from rfl, first_nat]
    by_cases hm : c ∈ signsL
    · have e : headP (fun c => decide (c ∈ signsL)) (c :: r) = true := by simpa [headP] using hm
      rw [if_pos hm, decide_eq_false (by omega), cond_false, if_pos e, if_neg (by omega), show sli (c :: r) 0 1 = some ((c :: r).take 1) from sli0 (k := 1) (by simp)]; rfl
    · have e : ¬ headP (fun c => decide (c ∈ signsL)) (c :: r) = true := by simpa [headP] using hm
      rw [if_neg hm, if_neg e]; rfl
theorem sli_1 (c : UInt8) (r : List UInt8) : sli (c :: r) 1 (((c :: r).length : Nat) : Int) = some r := by
  have := sli_from (l := c :: r) (i := 1) rfl (by simp)
  simpa using this
theorem one_same (s t : List UInt8) (k : Nat) (ht : s.drop k = t) (hk : k ≤ s.length) (h0 : t ≠ []) (hl : s.length ≤ 1000) : ∃ f, m_lex_one t = some f ∧ m_syntagmaref04_one s (k : Int) = some (refOf f (k : Int)) ∧ Step f t := by
  obtain ⟨c, r, rfl⟩ := List.exists_cons_of_ne_nil h0
  have hL := drop_len ht hk
  simp only [List.length_cons] at hL
  unfold m_lex_one m_syntagmaref04_one
  rw [sli_from ht hk, Option.bind_some, idx_c0, Option.bind_some, Option.bind_some, word_eq _ (by simp; omega), rword_eq _ (by simp; omega), Option.bind_some, Option.bind_some]
  have hwl := word_le (c :: r)
  by_cases hw : 0 < wordP (c :: r)
  · -- a word
    rw [decide_eq_true (by omega), cond_true, cond_true, sli0 hwl, Option.bind_some]
    unfold m_lex_word
    rw [sli0 hwl, Option.bind_some]
    by_cases h20 : 20 < wordP (c :: r)
    · rw [decide_eq_true (by omega), cond_true, cond_true]
      exact ⟨_, rfl, rfl, fun h => by simp at h⟩
    · rw [decide_eq_false (by omega), cond_false, cond_false, keyword_eq, rkeyword_eq, Option.bind_some, Option.bind_some]
      have hst : Step ⟨⟨0, [], 0, 0⟩, (wordP (c :: r) : Int), 0⟩ (c :: r) := fun _ => by simp only; omega
      by_cases hkw : (c :: r).take (wordP (c :: r)) ∈ keysL
      · rw [decide_eq_true hkw, cond_true, cond_true, Option.bind_some]
        exact ⟨_, rfl, rfl, hst⟩
      · rw [decide_eq_false hkw, cond_false, cond_false]
        have e0 : idx ((c :: r).take (wordP (c :: r))) 0 = some c := by
          obtain ⟨m, hm⟩ : ∃ m, wordP (c :: r) = m + 1 := ⟨wordP (c :: r) - 1, by omega⟩
          rw [hm, List.take_succ_cons, idx_c0]
        rw [e0, Option.bind_some]
        repeat rw [Option.bind_some]
        rw [bf]
        repeat rw [Option.bind_some]
        cases (decide (65 ≤ (c.toNat : Int)) && decide ((c.toNat : Int) ≤ 90)) with
        | true => exact ⟨_, rfl, rfl, hst⟩
        | false => exact ⟨_, rfl, rfl, hst⟩
  · rw [decide_eq_false (by omega), cond_false, cond_false]
    by_cases h39 : (c.toNat : Int) = 39
    · -- a variable
      rw [decide_eq_true h39, cond_true, cond_true]
      unfold m_lex_variable
      have hwr := word_le r
      rw [sli_1, Option.bind_some, Option.bind_some, word_eq _ (by omega), rword_eq _ (by omega), Option.bind_some, Option.bind_some]
      by_cases hz : wordP r = 0
      · rw [decide_eq_true (by omega)]
        repeat first | rw [cond_true] | rw [Option.bind_some]
        exact ⟨_, rfl, rfl, fun h => by simp at h⟩
      · obtain ⟨d, r2, rfl⟩ : ∃ d r2, r = d :: r2 := by
          rcases r with _ | ⟨d, r2⟩
          · simp [wordP] at hz
          · exact ⟨d, r2, rfl⟩
        rw [decide_eq_false (by omega), cond_false, idx_c1]
        repeat rw [Option.bind_some]
        rw [bf]
        repeat rw [Option.bind_some]
        cases hgr : (decide (65 ≤ (d.toNat : Int)) && decide ((d.toNat : Int) ≤ 90)) with
        | true => exact ⟨_, rfl, rfl, fun h => by simp at h⟩
        | false =>
          rw [cond_false, cond_false]
          by_cases h20 : 20 < wordP (d :: r2)
          · rw [decide_eq_true (by omega), cond_true, cond_true]
            exact ⟨_, rfl, rfl, fun h => by simp at h⟩
          · rw [decide_eq_false (by omega), cond_false, cond_false]
            rw [grd_pos (show InR ((wordP (d :: r2) : Int) + 1) by omega), grd_pos (show InR (1 + (wordP (d :: r2) : Int)) by omega)]
            have hs := sli_nat (c :: d :: r2) 1 (wordP (d :: r2) + 1) (by omega) (by simp only [List.length_cons] at hwr ⊢; omega)
            rw [show ((1 : Nat) : Int) = 1 from rfl, show ((wordP (d :: r2) + 1 : Nat) : Int) = (wordP (d :: r2) : Int) + 1 by omega] at hs
            rw [show (1 : Int) + (wordP (d :: r2) : Int) = (wordP (d :: r2) : Int) + 1 by omega, hs]
            repeat rw [Option.bind_some]
            rw [grd_pos (by omega)]
            repeat rw [Option.bind_some]
            rw [grd_pos (by omega)]
            exact ⟨_, rfl, rfl, fun _ => by simp only [List.length_cons] at hwr ⊢; omega⟩
    · rw [decide_eq_false h39, cond_false, cond_false, digit_eq, Option.bind_some]
      cases hd : (digB c || decide ((c.toNat : Int) = 126)) with
      | true =>
        -- a number
        rw [cond_true]
        unfold digB at hd
        rw [hd, cond_true]
        unfold m_lex_number
        rw [num_l _ (by simp; omega) (by simp), rnum_l _ (by simp; omega) (by simp), Option.bind_some, Option.bind_some]
        have htl := tw_le digB r
        generalize hN : 1 + (((c :: r).drop 1).takeWhile digB).length = N
        have hNr : N = 1 + (r.takeWhile digB).length := by rw [← hN]; rfl
        rw [sli0 (l := c :: r) (k := N) (by simp; omega), Option.bind_some, Option.bind_some]
        have hT : (c :: r).take N = c :: r.takeWhile digB := by
          rw [hNr, Nat.add_comm, List.take_succ_cons]
          congr 1
          exact (List.prefix_iff_eq_take.1 (List.takeWhile_prefix digB)).symm
        have hall : (r.takeWhile digB).all digB = true := List.all_eq_true.2 fun x hx => mem_takeWhile hx
        have hpar : ∃ p : Int × Int, m_wrap_Parse ((c :: r).take N) = some p ∧ m_syntagmaref01_Parse ((c :: r).take N) = some p := by
          rw [hT]
          by_cases h126 : (c.toNat : Int) = 126
          · have hc : c = 126 := UInt8.toNat_inj.1 (by show c.toNat = 126; omega)
            subst hc
            exact ⟨_, parse_w true _ hall (by omega), rparse_w true _ hall (by omega)⟩
          · have hdc : digB c = true := by
              rw [decide_eq_false h126, Bool.or_false] at hd
              exact hd
            exact ⟨_, parse_w false (c :: r.takeWhile digB) (by simp [hdc, hall]) (by simp; omega), rparse_w false (c :: r.takeWhile digB) (by simp [hdc, hall]) (by simp; omega)⟩
        obtain ⟨⟨v, e⟩, p1, p2⟩ := hpar
        rw [p1, p2]
        repeat rw [Option.bind_some]
        refine ⟨_, rfl, ?_, fun _ => by simp only [List.length_cons]; omega⟩
        unfold refOf
        simp only
        by_cases he : e = 0
        · rw [decide_eq_true he, if_pos he]; rfl
        · rw [decide_eq_false he, if_neg he]; rfl
      | false =>
        rw [cond_false]
        have hd2 := hd
        unfold digB at hd2
        rw [hd2, cond_false]
        by_cases h34 : (c.toNat : Int) = 34
        · -- a text
          rw [decide_eq_true h34, cond_true, cond_true]
          unfold m_lex_text
          rw [q_take_eq _ (by simp; omega), r_take_eq _ (by simp; omega)]
          have hok := takeS_ok (c :: r)
          generalize takeS (c :: r) = T at hok
          obtain ⟨v, n, e⟩ := T
          repeat rw [Option.bind_some]
          refine ⟨_, rfl, ?_, fun h => hok h⟩
          unfold refOf
          simp only
          by_cases he : e = 0
          · rw [decide_eq_true he, if_pos he]; rfl
          · rw [decide_eq_false he, if_neg he]; rfl
        · rw [decide_eq_false h34, cond_false, cond_false, sign_eq, rsign_eq, Option.bind_some, Option.bind_some]
          refine ⟨_, rfl, ?_, ?_⟩
          · unfold signF refOf
            by_cases hz : signN (c :: r) = 0
            · rw [if_pos hz, decide_eq_false (by omega), cond_false]; rfl
            · have hsn : signN (c :: r) ≤ (c :: r).length := by
                unfold signN
                split
                · rename_i h
                  rcases h with e | e
                  · have := congrArg List.length e
                    simp only [List.length_take, List.length_cons, List.length_nil] at this ⊢; omega
                  · have := congrArg List.length e
                    simp only [List.length_take, List.length_cons, List.length_nil] at this ⊢; omega
                · split <;> simp
              rw [if_neg hz, decide_eq_true (by omega), cond_true, sli0 hsn]; rfl
          · unfold signF Step
            by_cases hz : signN (c :: r) = 0
            · rw [if_pos hz]; intro h; simp at h
            · rw [if_neg hz]
              intro _
              have hsn : signN (c :: r) ≤ (c :: r).length := by
                unfold signN
                split
                · rename_i h
                  rcases h with e | e
                  · have := congrArg List.length e
                    simp only [List.length_take, List.length_cons, List.length_nil] at this ⊢; omega
                  · have := congrArg List.length e
                    simp only [List.length_take, List.length_cons, List.length_nil] at this ⊢; omega
                · split <;> simp
              simp only
              omega
end Go.Proofs.Ytnnjgbcojdnhhaa
set_option linter.unusedVariables false
set_option linter.unusedSimpArgs false
set_option maxRecDepth 100000
namespace Go.Proofs.Ytnnjgbcojdnhhaa
open Go.V
open Classical
theorem c35 (c : UInt8) : (c.toNat : Int) = 35 ↔ c = 35 := u8n (c := c) (n := 35) (by omega)
def f0 : LexFound := ⟨⟨0, [], 0, 0⟩, 0, 0⟩
def oneF (t : List UInt8) : LexFound := (m_lex_one t).getD f0
def toFeed (t : List UInt8) : Nat := (t.takeWhile (fun x => !decide (x = 10))).length
def blankP (c : UInt8) : Prop := c = 32 ∨ c = 9 ∨ c = 10
noncomputable def specA : Nat → List UInt8 → Nat → List ApiToken → Out (List ApiToken × Int × Int) (List ApiToken)
  | 0, _, _, acc => .go acc
  | m + 1, t, k, acc => match t with
    | [] => .go acc
    | c :: r => if blankP c then specA m r (k + 1) acc else if c = 35 then specA m ((c :: r).drop (toFeed (c :: r))) (k + toFeed (c :: r)) acc
      else if (oneF (c :: r)).e_ = 0 then specA m ((c :: r).drop (oneF (c :: r)).n_.toNat) (k + (oneF (c :: r)).n_.toNat) (acc ++ [⟨(oneF (c :: r)).t.kind, (oneF (c :: r)).t.s, (oneF (c :: r)).t.n_, (k : Int)⟩])
      else .ret ([], (k : Int), (oneF (c :: r)).e_)
theorem specA_nil (m k : Nat) (acc : List ApiToken) : specA m [] k acc = .go acc := by cases m <;> rfl
theorem one_ok (t : List UInt8) (h0 : t ≠ []) (hl : t.length ≤ 1000) : m_lex_one t = some (oneF t) ∧ Step (oneF t) t := by
  obtain ⟨f, h1, _, h3⟩ := one_same t t 0 rfl (by omega) h0 hl
  unfold oneF
  rw [h1]
  exact ⟨rfl, h3⟩
theorem feed_pos (r : List UInt8) : 0 < toFeed (35 :: r) := by
  unfold toFeed
  rw [List.takeWhile_cons, if_pos (by decide)]
  simp
theorem feed_le (t : List UInt8) : toFeed t ≤ t.length := tw_le _ _
theorem specA_fuel : ∀ (m m' : Nat) (t : List UInt8) (k : Nat) (acc : List ApiToken), t.length ≤ m → t.length ≤ m' → t.length ≤ 1000 → specA m t k acc = specA m' t k acc := by
  intro m
  induction m with
  | zero =>
    intro m' t k acc h _ _
    have : t = [] := List.length_eq_zero_iff.1 (by omega)
    subst this
    rw [specA_nil, specA_nil]
  | succ m ih =>
    intro m' t k acc h h' hl
    rcases t with _ | ⟨c, r⟩
    · rw [specA_nil, specA_nil]
    · simp only [List.length_cons] at h h' hl
      obtain ⟨m', rfl⟩ : ∃ q, m' = q + 1 := ⟨m' - 1, by omega⟩
      simp only [specA]
      by_cases h1 : blankP c
      · rw [if_pos h1, if_pos h1]; exact ih m' r _ _ (by omega) (by omega) (by omega)
      · rw [if_neg h1, if_neg h1]
        by_cases h2 : c = 35
        · subst h2
          rw [if_pos rfl, if_pos rfl]
          have := feed_pos r
          exact ih m' _ _ _ (by simp; omega) (by simp; omega) (by simp; omega)
        · rw [if_neg h2, if_neg h2]
          by_cases h3 : (oneF (c :: r)).e_ = 0
          · rw [if_pos h3, if_pos h3]
            have := (one_ok (c :: r) (by simp) (by simp; omega)).2 h3
            exact ih m' _ _ _ (by simp; omega) (by simp; omega) (by simp; omega)
          · rw [if_neg h3, if_neg h3]
theorem specA_len : ∀ (m : Nat) (t : List UInt8) (k : Nat) (acc l : List ApiToken), t.length ≤ 1000 → specA m t k acc = .go l → l.length ≤ acc.length + t.length := by
  intro m
  induction m with
  | zero => intro t k acc l _ h; simp only [specA, Out.go.injEq] at h; subst h; omega
  | succ m ih =>
    intro t k acc l hl h
    rcases t with _ | ⟨c, r⟩
    · rw [specA_nil, Out.go.injEq] at h; subst h; omega
    · simp only [List.length_cons] at hl ⊢
      simp only [specA] at h
      by_cases h1 : blankP c
      · rw [if_pos h1] at h; have := ih _ _ _ _ (by omega) h; omega
      · rw [if_neg h1] at h
        by_cases h2 : c = 35
        · rw [if_pos h2] at h
          have := ih _ _ _ _ (by simp; omega) h
          simp only [List.length_drop, List.length_cons] at this; omega
        · rw [if_neg h2] at h
          by_cases h3 : (oneF (c :: r)).e_ = 0
          · rw [if_pos h3] at h
            have h4 := (one_ok (c :: r) (by simp) (by simp; omega)).2 h3
            have := ih _ _ _ _ (by simp; omega) h
            simp only [List.length_drop, List.length_cons, List.length_append, List.length_nil] at this h4; omega
          · rw [if_neg h3] at h; cases h
def readyP : List UInt8 → Prop
  | [] => True
  | c :: _ => ¬ blankP c ∧ c ≠ 35
def passK (oo : Out Int Int) : Option Int := oo.on (fun r => some r) (fun n => some n)
theorem blank_idx (c : UInt8) : decide (0 ≤ firstIdx ⟨([32, 9, 10] : List UInt8).toArray⟩ c) = decide (blankP c) := by
  rw [first_nat]
  refine decide_eq_decide.2 ?_
  unfold blankP
  by_cases h : c ∈ ([32, 9, 10] : List UInt8)
  · rw [if_pos h]
    simp only [List.mem_cons, List.not_mem_nil, or_false] at h
    exact ⟨fun _ => h, fun _ => by omega⟩
  · rw [if_neg h]
    simp only [List.mem_cons, List.not_mem_nil, or_false] at h
    exact ⟨fun h2 => by omega, fun h2 => absurd h2 h⟩
theorem pass_l1_eq (s : List UInt8) (hl : s.length ≤ 1000) : ∀ (n : Nat) (t : List UInt8) (i : Nat), t.length < n → s.drop i = t → i ≤ s.length →
    ∃ j : Nat, (m_lex_pass_l1 s n (i : Int)).bind passK = some (j : Int) ∧ i ≤ j ∧ j ≤ s.length ∧ readyP (s.drop j) ∧ ∀ m k acc, s.length ≤ m → specA m t (k + i) acc = specA m (s.drop j) (k + j) acc := by
  intro n
  induction n with
  | zero => intro t i h; omega
  | succ n ih =>
    intro t i hn ht hi
    have hL := drop_len ht hi
    simp only [m_lex_pass_l1]
    rcases t with _ | ⟨c, r⟩
    · simp only [List.length_nil] at hL
      rw [decide_eq_false (by omega), cond_false]
      exact ⟨i, rfl, by omega, hi, by rw [ht]; trivial, fun m k acc _ => by rw [ht]⟩
    · simp only [List.length_cons] at hL hn
      have hx : s[i]? = some c := by
        have := congrArg (·[0]?) ht
        simpa [List.getElem?_drop] using this
      rw [decide_eq_true (by omega), cond_true, getI hx]
      repeat rw [Option.bind_some]
      rw [blank_idx]
      by_cases h1 : blankP c
      · rw [decide_eq_true h1, cond_true, grd_pos (by omega)]
        obtain ⟨j, a1, a2, a3, a4, a5⟩ := ih r (i + 1) (by omega) (drop_c ht) (by omega)
        refine ⟨j, a1, by omega, a3, a4, fun m k acc hm => ?_⟩
        rw [← a5 m k acc hm]
        obtain ⟨m, rfl⟩ : ∃ q, m = q + 1 := ⟨m - 1, by omega⟩
        rw [show specA (m + 1) (c :: r) (k + i) acc = specA m r (k + i + 1) acc by simp only [specA]; rw [if_pos h1]]
        exact specA_fuel _ _ _ _ _ (by omega) (by omega) (by omega)
      · rw [decide_eq_false h1, cond_false]
        by_cases h2 : c = 35
        · rw [decide_eq_true ((c35 c).2 h2), cond_true, sli_from ht hi, Option.bind_some, first_nat]
          have hstep : ∀ m k acc, s.length ≤ m → specA m (c :: r) (k + i) acc = specA m ((c :: r).drop (toFeed (c :: r))) (k + i + toFeed (c :: r)) acc := by
            intro m k acc hm
            obtain ⟨m, rfl⟩ : ∃ q, m = q + 1 := ⟨m - 1, by omega⟩
            rw [show specA (m + 1) (c :: r) (k + i) acc = specA m ((c :: r).drop (toFeed (c :: r))) (k + i + toFeed (c :: r)) acc by simp only [specA]; rw [if_neg h1, if_pos h2]]
            subst h2
            have := feed_pos r
            exact specA_fuel _ _ _ _ _ (by simp; omega) (by simp; omega) (by simp; omega)
          have h7 := feed_le (c :: r)
          simp only [List.length_cons] at h7
          by_cases h3 : (10 : UInt8) ∈ c :: r
          · rw [if_pos h3, decide_eq_false (by omega), cond_false, grd_pos (by have : (List.takeWhile (fun x => !decide (x = 10)) (c :: r)).length = toFeed (c :: r) := rfl; omega)]
            have h6 : 0 < toFeed (c :: r) := by subst h2; exact feed_pos r
            obtain ⟨j, a1, a2, a3, a4, a5⟩ := ih ((c :: r).drop (toFeed (c :: r))) (i + toFeed (c :: r)) (by simp; omega) (drop_more ht _) (by omega)
            refine ⟨j, a1, by omega, a3, a4, fun m k acc hm => ?_⟩
            rw [hstep m k acc hm, ← a5 m k acc hm, Nat.add_assoc]
          · rw [if_neg h3, decide_eq_true (by omega), cond_true]
            refine ⟨s.length, rfl, hi, by omega, by rw [List.drop_length]; trivial, fun m k acc hm => ?_⟩
            have hw : toFeed (c :: r) = (c :: r).length := by
              unfold toFeed
              rw [takeWhile_all]
              intro x hx
              have : x ≠ 10 := fun e => h3 (e ▸ hx)
              simpa using this
            rw [hstep m k acc hm, hw, List.drop_length, List.drop_length, specA_nil, specA_nil]
        · rw [decide_eq_false (fun h => h2 ((c35 c).1 h)), cond_false]
          exact ⟨i, rfl, by omega, hi, by rw [ht]; exact ⟨h1, h2⟩, fun m k acc _ => by rw [ht]⟩
theorem pass_eq (s : List UInt8) (hl : s.length ≤ 1000) : ∃ j : Nat, m_lex_pass s = some (j : Int) ∧ j ≤ s.length ∧ readyP (s.drop j) ∧ ∀ m k acc, s.length ≤ m → specA m s k acc = specA m (s.drop j) (k + j) acc := by
  obtain ⟨j, a1, _, a3, a4, a5⟩ := pass_l1_eq s hl FU s 0 (by rw [FUv]; omega) rfl (by omega)
  exact ⟨j, a1, a3, a4, a5⟩
theorem tokens_l1_eq (s : List UInt8) (hl : s.length ≤ 1000) : ∀ (n m : Nat) (t : List UInt8) (k : Nat) (acc : List ApiToken), t.length < n → t.length ≤ m → s.drop k = t → k ≤ s.length → acc.length ≤ k → readyP t →
    (m_tokens_l1 s n (k : Int)).bind (fun xs => m_lex_All_r1 xs acc) = some (specA m t k acc) := by
  intro n
  induction n with
  | zero => intro m t k acc h; omega
  | succ n ih =>
    intro m t k acc hn hm ht hk ha hr
    have hL := drop_len ht hk
    simp only [m_tokens_l1]
    rcases t with _ | ⟨c, r⟩
    · simp only [List.length_nil] at hL
      rw [specA_nil, decide_eq_false (by omega), cond_false]; rfl
    · simp only [List.length_cons] at hL hn hm
      obtain ⟨m, rfl⟩ : ∃ q, m = q + 1 := ⟨m - 1, by omega⟩
      obtain ⟨e1, e3⟩ := one_ok (c :: r) (by simp) (by simp; omega)
      obtain ⟨hr1, hr2⟩ := hr
      rw [decide_eq_true (by omega), cond_true, sli_from ht hk, Option.bind_some, e1, Option.bind_some]
      simp only [specA]
      rw [if_neg hr1, if_neg hr2]
      generalize oneF (c :: r) = f at *
      by_cases h3 : f.e_ = 0
      · have h4 := e3 h3
        simp only [List.length_cons] at h4
        rw [if_pos h3, decide_eq_true h3, Bool.not_true, cond_false, grd_pos (by omega), show (k : Int) + f.n_ = ((k + f.n_.toNat : Nat) : Int) by omega]
        have hd := drop_more ht f.n_.toNat
        rw [sli_from hd (by omega), Option.bind_some]
        obtain ⟨j, a1, a3, a4, a5⟩ := pass_eq ((c :: r).drop f.n_.toNat) (by simp; omega)
        simp only [List.length_drop, List.length_cons] at a3
        rw [a1, Option.bind_some, grd_pos (by omega), show ((k + f.n_.toNat : Nat) : Int) + (j : Int) = ((k + f.n_.toNat + j : Nat) : Int) by omega]
        have hlen : ((c :: r).drop f.n_.toNat).length ≤ m := by simp; omega
        rw [a5 m _ _ hlen]
        have hI := ih m (((c :: r).drop f.n_.toNat).drop j) (k + f.n_.toNat + j) (acc ++ [⟨f.t.kind, f.t.s, f.t.n_, (k : Int)⟩]) (by simp; omega) (by simp; omega) (drop_more hd j) (by omega) (by simp; omega) a4
        rw [← hI]
        cases m_tokens_l1 s n ((k + f.n_.toNat + j : Nat) : Int) with
        | none => rfl
        | some ys =>
          simp only [Option.bind_some, m_lex_All_r1]
          rw [decide_eq_true h3, Bool.not_true, cond_false, grd_pos (by simp only [List.length_cons, List.length_nil]; omega)]
      · rw [if_neg h3, decide_eq_false h3, Bool.not_false, cond_true]
        simp only [Option.bind_some, m_lex_All_r1]
        rw [decide_eq_false h3, Bool.not_false, cond_true]
def resA (s : List UInt8) (oo : Out (List ApiToken × Int × Int) (List ApiToken)) : List ApiToken × Int × Int := match oo with
  | .ret r => r
  | .go l => (l, (s.length : Int), 0)
noncomputable def allP (s : List UInt8) : List ApiToken × Int × Int := resA s (specA s.length s 0 [])
theorem all_eq (s : List UInt8) (hl : s.length ≤ 1000) : m_lex_All s = some (allP s) := by
  unfold m_lex_All m_tokens allP
  obtain ⟨j, a1, a3, a4, a5⟩ := pass_eq s hl
  have h := tokens_l1_eq s hl FU s.length (s.drop j) j [] (by rw [FUv]; simp; omega) (by simp) rfl a3 (by simp) a4
  have h5 := a5 s.length 0 [] (by omega)
  rw [Nat.zero_add] at h5
  rw [a1, Option.bind_some, bind_of h, h5]
  cases specA s.length (s.drop j) j [] <;> rfl
theorem specA_ret : ∀ (m : Nat) (t : List UInt8) (k : Nat) (acc : List ApiToken) r, specA m t k acc = .ret r → r.1 = [] ∧ r.2.2 ≠ 0 := by
  intro m
  induction m with
  | zero => intro t k acc r h; simp [specA] at h
  | succ m ih =>
    intro t k acc r h
    rcases t with _ | ⟨c, t⟩
    · rw [specA_nil] at h; cases h
    · simp only [specA] at h
      split at h
      · exact ih _ _ _ _ h
      · split at h
        · exact ih _ _ _ _ h
        · split at h
          · exact ih _ _ _ _ h
          · rename_i h3
            cases h
            exact ⟨rfl, h3⟩
theorem token_eqv (x y : ApiToken) : ApiToken.eqv x y = decide (x = y) := by
  unfold ApiToken.eqv
  rw [Bool.eq_iff_iff]
  simp only [Bool.and_true, Bool.and_eq_true, beq_iff_eq, decide_eq_true_eq]
  cases x; cases y; simp
theorem short_eq (s : List UInt8) : m_syntagmalaw04_short s = some (s.take (min 600 s.length)) := by
  unfold m_syntagmalaw04_short
  have := minL 600 s
  rw [show (if 600 < (s.length : Int) then (600 : Int) else (s.length : Int)) = ((min 600 s.length : Nat) : Int) from this, sli_take (by omega)]; rfl
end Go.Proofs.Ytnnjgbcojdnhhaa
set_option linter.unusedVariables false
set_option linter.unusedSimpArgs false
set_option maxRecDepth 100000
namespace Go.Proofs.Ytnnjgbcojdnhhaa
open Go.V
open Classical
theorem works_eq : m_syntagmalaw04_works = some true := by decide +kernel
theorem specA_pos : ∀ (m : Nat) (t : List UInt8) (k : Nat) (acc l : List ApiToken), t.length ≤ 1000 → specA m t k acc = .go l → ∃ r : List ApiToken, l = acc ++ r ∧ (∀ x ∈ r, (k : Int) ≤ x.pos ∧ x.pos < ((k + t.length : Nat) : Int)) ∧ r.Pairwise (fun a b => a.pos < b.pos) := by
  intro m
  induction m with
  | zero => intro t k acc l _ h; simp only [specA, Out.go.injEq] at h; subst h; exact ⟨[], by simp, by simp, .nil⟩
  | succ m ih =>
    intro t k acc l hl h
    rcases t with _ | ⟨c, r⟩
    · rw [specA_nil, Out.go.injEq] at h; subst h; exact ⟨[], by simp, by simp, .nil⟩
    · simp only [List.length_cons] at hl ⊢
      simp only [specA] at h
      by_cases h1 : blankP c
      · rw [if_pos h1] at h
        obtain ⟨q, e1, e2, e3⟩ := ih _ _ _ _ (by omega) h
        exact ⟨q, e1, fun x hx => by have := e2 x hx; omega, e3⟩
      · rw [if_neg h1] at h
        by_cases h2 : c = 35
        · rw [if_pos h2] at h
          obtain ⟨q, e1, e2, e3⟩ := ih _ _ _ _ (by simp; omega) h
          have hf := feed_le (c :: r)
          refine ⟨q, e1, fun x hx => ?_, e3⟩
          have := e2 x hx
          simp only [List.length_drop, List.length_cons] at this hf
          omega
        · rw [if_neg h2] at h
          by_cases h3 : (oneF (c :: r)).e_ = 0
          · rw [if_pos h3] at h
            have h4 := (one_ok (c :: r) (by simp) (by simp; omega)).2 h3
            obtain ⟨q, e1, e2, e3⟩ := ih _ _ _ _ (by simp; omega) h
            simp only [List.length_cons] at h4
            refine ⟨⟨(oneF (c :: r)).t.kind, (oneF (c :: r)).t.s, (oneF (c :: r)).t.n_, (k : Int)⟩ :: q, by rw [e1]; simp, fun x hx => ?_, List.pairwise_cons.2 ⟨fun x hx => ?_, e3⟩⟩
            · rcases List.mem_cons.1 hx with rfl | hx
              · simp only; omega
              · have := e2 x hx
                simp only [List.length_drop, List.length_cons] at this
                omega
            · have := e2 x hx
              simp only [List.length_drop, List.length_cons] at this
              simp only; omega
          · rw [if_neg h3] at h; cases h
theorem next_cons (x : ApiToken) (r : List ApiToken) (n : Int) (h : r.length ≤ 1000) : m_rd_Next ⟨x :: r, n⟩ = some (x, ⟨r, n⟩) := by
  have hs : sli (x :: r) 1 ((x :: r).length : Int) = some r := sli_from (l := x :: r) (i := 1) rfl (by simp)
  unfold m_rd_Next m_rd_Peek m_rd_Done
  rw [decide_eq_false (show ¬ (((x :: r).length : Nat) : Int) = 0 by simp only [List.length_cons]; omega), cond_false, show idx (x :: r) 0 = some x from rfl, Option.bind_some, Option.bind_some, Option.bind_some, Bool.not_false, cond_true, hs, Option.bind_some]
theorem next_nil (n : Int) : m_rd_Next ⟨[], n⟩ = some (⟨0, [], 0, n⟩, ⟨[], n⟩) := rfl
theorem law_LexAll (s : List UInt8) : m_syntagmalaw04_LexAll s = some true := by
  unfold m_syntagmalaw04_LexAll
  rw [works_eq, Option.bind_some, Bool.not_true, cond_false, show m_rd_PeekN = some ⟨0, [], 0, 0⟩ from rfl, Option.bind_some, token_eqv, decide_eq_true rfl, Bool.not_true, cond_false]
  rw [show m_rd_NextN = some ⟨0, [], 0, 0⟩ from rfl, Option.bind_some, token_eqv, decide_eq_true rfl, Bool.not_true, Option.bind_some, cond_false]
  rw [show m_rd_IsN 0 [] = some false from rfl, Option.bind_some, Option.bind_some, cond_false, show m_rd_TakeN 0 [] = some false from rfl, Option.bind_some, Option.bind_some, cond_false, show m_rd_DoneN = some true from rfl, Option.bind_some, Bool.not_true, Option.bind_some, cond_false]
  rw [short_eq, Option.bind_some]
  generalize hx : s.take (min 600 s.length) = x
  have hl : x.length ≤ 1000 := by rw [← hx]; simp; omega
  rw [all_eq x hl, Option.bind_some]
  unfold allP
  cases h : specA x.length x 0 [] with
  | ret r =>
    obtain ⟨h1, h2⟩ := specA_ret _ _ _ _ _ h
    obtain ⟨a, b, c⟩ := r
    simp only at h1 h2
    subst h1
    show (bif (!decide (c = 0)) then _ else _) = _
    rw [decide_eq_false h2, Bool.not_false, cond_true]
    rfl
  | go l =>
    obtain ⟨q, e1, e2, e3⟩ := specA_pos _ _ _ _ _ hl h
    rw [List.nil_append] at e1
    subst e1
    have hll := specA_len _ _ _ _ _ hl h
    simp only [List.length_nil, Nat.zero_add] at hll e2
    show (bif (!decide ((0 : Int) = 0)) then _ else (m_rd_New l (x.length : Int)).bind _) = _
    rw [decide_eq_true rfl, Bool.not_true, cond_false, show m_rd_New l (x.length : Int) = some ⟨l, (x.length : Int)⟩ by
      unfold m_rd_New
      rw [grd_pos (by omega)]; rfl, Option.bind_some]
    obtain ⟨o, h1, h2⟩ := loop_rng (φ := fun n i (st : List ApiToken × Int) => m_syntagmalaw04_LexAll_l1 l (x.length : Int) n (i, st.1, st.2)) (l := l) (fun i st => st = (l.drop i, (x.length : Int))) (fun o => o = Out.go ([], (x.length : Int))) (by
      rintro n i y st hy hi rfl
      have hd : l.drop i = y :: l.drop (i + 1) := by
        obtain ⟨hi2, hx2⟩ := List.getElem?_eq_some_iff.1 hy
        rw [List.drop_eq_getElem_cons hi2, hx2]
      have hp := e2 y (List.mem_of_getElem? hy)
      simp only [m_syntagmalaw04_LexAll_l1]
      rw [decide_eq_true (show (i : Int) < l.length by omega), cond_true, hd, next_cons y _ _ (by simp; omega), Option.bind_some]
      dsimp only
      rw [getI hy, Option.bind_some, show ApiToken.eqv (⟨y.kind, y.s, y.n_, y.pos⟩ : ApiToken) y = decide (y = y) from token_eqv y y, decide_eq_true rfl, Bool.not_true, cond_false, decide_eq_false (by omega), cond_false, decide_eq_false (by omega), cond_false]
      rcases Nat.eq_zero_or_pos i with h0 | h0
      · subst h0
        rw [decide_eq_false (by omega), cond_false, grd_pos (by omega)]
        exact .inl ⟨(_, _), rfl, rfl⟩
      · obtain ⟨z, hz⟩ : ∃ z, l[i - 1]? = some z := ⟨l[i - 1], List.getElem?_eq_getElem (by omega)⟩
        have hlt : z.pos < y.pos := by
          have := List.pairwise_iff_getElem.1 e3 (i - 1) i (by omega) hi (by omega)
          rw [List.getElem?_eq_some_iff] at hz hy
          obtain ⟨_, hz⟩ := hz
          obtain ⟨_, hy⟩ := hy
          rw [hz, hy] at this
          exact this
        rw [decide_eq_true (by omega), cond_true, grd_pos (by omega), show (i : Int) - 1 = ((i - 1 : Nat) : Int) by omega, getI hz, Option.bind_some, decide_eq_false (by omega), cond_false, grd_pos (by omega)]
        exact .inl ⟨(_, _), rfl, rfl⟩) (by
      rintro n st rfl
      simp only [m_syntagmalaw04_LexAll_l1]
      rw [decide_eq_false (by omega), cond_false, List.drop_length]
      exact ⟨_, rfl, rfl⟩) (by rw [FUv]; omega) (l, (x.length : Int)) rfl
    subst h2
    dsimp only at h1
    show (m_syntagmalaw04_LexAll_l1 l (x.length : Int) FU (0, l, (x.length : Int))).bind _ = _
    rw [h1, Option.bind_some, go_on]
    dsimp only
    rw [show m_rd_Done ⟨[], (x.length : Int)⟩ = some true from rfl, Option.bind_some, cond_true, next_nil, Option.bind_some]
    dsimp only
    rw [token_eqv, decide_eq_true rfl]
end Go.Proofs.Ytnnjgbcojdnhhaa
