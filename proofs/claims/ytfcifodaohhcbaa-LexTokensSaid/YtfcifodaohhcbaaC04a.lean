/- Part C04a of the proof: contracts of the functions that are walked, and what they compute; no condition. -/
import Derived.Test.YtfcifodaohhcbaaV36
import Derived.Test.YtfcifodaohhcbaaB04
set_option linter.unusedVariables false
set_option linter.unusedSimpArgs false
set_option maxRecDepth 100000
namespace Go.Proofs.Ytfcifodaohhcbaa
open Go.V
open Classical
theorem FUv : FU = 18446744073709551616 := rfl
theorem bt (b c : Bool) : (bif b then some true else some c : Option Bool) = some (b || c) := by cases b <;> rfl
theorem bf (b c : Bool) : (bif b then some c else some false : Option Bool) = some (b && c) := by cases b <;> rfl
theorem bb (b : Bool) : (bif b then some false else some true : Option Bool) = some (!b) := by cases b <;> rfl
theorem tw_le {α : Type} (p : α → Bool) (l : List α) : (l.takeWhile p).length ≤ l.length := (List.takeWhile_prefix p).length_le
theorem lenNe {α β : Type} (a : List α) (b : List β) : (!decide ((a.length : Int) = (b.length : Int))) = !decide (a.length = b.length) := by
  congr 1; exact decide_eq_decide.2 (by omega)
def digitsL : List UInt8 := [48, 49, 50, 51, 52, 53, 54, 55, 56, 57, 97, 98, 99, 100, 101, 102]
def hexN (c : UInt8) : Int := if 48 ≤ c.toNat ∧ c.toNat ≤ 57 then (c.toNat : Int) - 48 else if 97 ≤ c.toNat ∧ c.toNat ≤ 102 then (c.toNat : Int) - 87 else -1
theorem idx_hex : ∀ c : UInt8, firstIdx ⟨digitsL.toArray⟩ c = hexN c := fun c => by
  have h : ∀ n : Fin 256, firstIdx ⟨digitsL.toArray⟩ (UInt8.ofNat n.val) = hexN (UInt8.ofNat n.val) := by decide +kernel
  have := h ⟨c.toNat, c.toNat_lt⟩
  simpa using this
theorem hex_eq (c : UInt8) : m_syntagmaref02_hex c = some (hexN c) := by
  have h : ∀ n : Fin 256, m_syntagmaref02_hex (UInt8.ofNat n.val) = some (hexN (UInt8.ofNat n.val)) := by decide +kernel
  have := h ⟨c.toNat, c.toNat_lt⟩
  simpa using this
theorem hexN_b (c : UInt8) : -1 ≤ hexN c ∧ hexN c < 16 := by
  unfold hexN
  split
  · omega
  · split <;> omega
def plainB (c : UInt8) : Bool := ((((decide (32 ≤ (c.toNat : Int))) && (decide ((c.toNat : Int) ≤ 126))) && (!decide ((c.toNat : Int) = 34))) && (!decide ((c.toNat : Int) = 92)))
theorem plain_eq (c : UInt8) : m_quote_plain c = some (plainB c) := rfl
def hexPart (r : List UInt8) : UInt8 × Nat := match r with
  | h :: l :: _ => if hexN h < 0 ∨ hexN l < 0 then (0, 0) else (toU8 (16 * hexN h + hexN l), 3)
  | _ => (0, 0)
/-- What stands behind a slash. -/
def escOne : List UInt8 → UInt8 × Nat
  | [] => (0, 0)
  | c :: r => if c.toNat = 34 ∨ c.toNat = 92 then (c, 1) else if c.toNat = 110 then (10, 1) else if c.toNat = 116 then (9, 1) else if c.toNat = 120 then hexPart r else (0, 0)
theorem escOne_le (t : List UInt8) : (escOne t).2 ≤ t.length := by
  unfold escOne hexPart
  repeat' split
  all_goals simp
theorem escape_eq (r : List UInt8) : m_quote_escape r = some ((escOne r).1, ((escOne r).2 : Int)) := by
  unfold m_quote_escape
  rw [show ([48, 49, 50, 51, 52, 53, 54, 55, 56, 57, 97, 98, 99, 100, 101, 102] : List UInt8) = digitsL from rfl]
  simp only [idx_hex, Bool.cond_eq_ite, Bool.and_eq_true, Bool.or_eq_true, Bool.not_eq_true', decide_eq_true_eq, decide_eq_false_iff_not, InR]
  rcases r with _ | ⟨c, r⟩
  · rfl
  · simp only [reduceCtorEq, if_false, idx_c0, Option.bind_some, escOne]
    by_cases h1 : c.toNat = 34 ∨ c.toNat = 92
    · by_cases h2 : c.toNat = 34
      · simp (disch := omega) only [↓if_pos, ↓if_neg, Option.bind_some, decide_eq_true_eq]; rfl
      · simp (disch := omega) only [↓if_pos, ↓if_neg, Option.bind_some, decide_eq_true_eq]; rfl
    · simp (disch := omega) only [↓if_pos, ↓if_neg, Option.bind_some, decide_eq_true_eq]
      by_cases h2 : c.toNat = 110
      · simp (disch := omega) only [↓if_pos, ↓if_neg]; rfl
      · by_cases h3 : c.toNat = 116
        · simp (disch := omega) only [↓if_pos, ↓if_neg]; rfl
        · by_cases h4 : c.toNat = 120
          · simp (disch := omega) only [↓if_pos, ↓if_neg]
            rcases r with _ | ⟨h, _ | ⟨l, r⟩⟩
            · simp (disch := omega) only [↓if_pos, ↓if_neg, List.length_cons, List.length_nil]; rfl
            · simp (disch := omega) only [↓if_pos, ↓if_neg, List.length_cons, List.length_nil]; rfl
            · have h1 := hexN_b h; have h2 := hexN_b l
              simp (disch := omega) only [↓if_neg, List.length_cons, idx_c1, idx_c2, Option.bind_some]
              dsimp only [hexPart]
              by_cases hh : hexN h < 0 ∨ hexN l < 0
              · simp only [if_pos hh]; rfl
              · simp (disch := omega) only [if_neg hh, ↓grd_pos]; rfl
          · simp (disch := omega) only [↓if_pos, ↓if_neg]; rfl


def takeR (t out : List UInt8) (i : Nat) : List UInt8 × Int × Int := match t with
  | [] => ([], 0, 5)
  | c :: r => if c.toNat = 34 then (if out.length > 200 then ([], 0, 7) else (out, (i : Int) + 1, 0)) else if c.toNat = 92 then (if (escOne r).2 = 0 then ([], 0, 5) else takeR (r.drop (escOne r).2) (out ++ [(escOne r).1]) (i + (escOne r).2 + 1)) else if plainB c then takeR r (out ++ [c]) (i + 1) else ([], 0, 5)
termination_by t.length
decreasing_by all_goals (simp; try omega)
def takeS (s : List UInt8) : List UInt8 × Int × Int := match s with
  | [] => ([], 0, 5)
  | c :: r => if c.toNat = 34 then takeR r [] 1 else ([], 0, 5)
def qK (oo : Out (List UInt8 × Int × Int) (List UInt8)) : Option (List UInt8 × Int × Int) := oo.on (fun r => some r) (fun _ => some ([], 0, 5))
theorem q_take_l (s : List UInt8) (hs : s.length ≤ 1000000) : ∀ (n : Nat) (t out : List UInt8) (i : Nat), t.length < n → s.drop i = t → i ≤ s.length → out.length ≤ i → (m_quote_Take_l1 s n ((i : Int), out)).bind qK = some (takeR t out i) := by
  intro n
  induction n with
  | zero => intro t out i h; omega
  | succ n ih =>
    intro t out i hn ht hi ho
    have hl := drop_len ht hi
    rw [m_quote_Take_l1]
    simp only [Bool.cond_eq_ite, decide_eq_true_eq, InR]
    rcases t with _ | ⟨c, r⟩
    · simp only [List.length_nil] at hl
      simp (disch := omega) only [↓if_neg]
      rw [takeR]; rfl
    · simp only [List.length_cons] at hl hn
      simp (disch := omega) only [↓if_pos, idx_dr0 ht, List.getElem?_cons_zero, Option.bind_some]
      rw [takeR]
      by_cases h1 : c.toNat = 34
      · simp (disch := omega) only [↓if_pos]
        by_cases h2 : out.length > 200
        · simp (disch := omega) only [↓if_pos]; rfl
        · simp (disch := omega) only [↓if_neg, ↓grd_pos]; rfl
      · simp (disch := omega) only [↓if_neg]
        by_cases h2 : c.toNat = 92
        · simp (disch := omega) only [↓if_pos, ↓grd_pos, sli_from1 ht, Option.bind_some, escape_eq]
          have he := escOne_le r
          by_cases h3 : (escOne r).2 = 0
          · simp (disch := omega) only [↓if_pos]; rfl
          · simp (disch := omega) only [↓if_neg, ↓grd_pos]
            have h4 := ih (r.drop (escOne r).2) (out ++ [(escOne r).1]) (i + (escOne r).2 + 1) (by simp; omega) (by
              have := drop_more ht ((escOne r).2 + 1)
              rw [show i + ((escOne r).2 + 1) = i + (escOne r).2 + 1 by omega] at this
              rw [this]; rfl) (by omega) (by simp; omega)
            rw [← h4]
            congr 3
        · simp (disch := omega) only [↓if_neg, plain_eq, Option.bind_some]
          by_cases h3 : plainB c = true
          · simp (disch := omega) only [h3, if_true, ↓grd_pos]
            exact ih r (out ++ [c]) (i + 1) (by omega) (drop_c ht) (by omega) (by simp; omega)
          · simp only [h3, if_false]; rfl
theorem q_take_eq (s : List UInt8) (hs : s.length ≤ 1000000) : m_quote_Take s = some (takeS s) := by
  unfold m_quote_Take
  rcases s with _ | ⟨c, r⟩
  · rfl
  · simp only [Bool.cond_eq_ite, decide_eq_true_eq, reduceCtorEq, if_false, idx_c0, Option.bind_some, Bool.not_eq_true', decide_eq_false_iff_not, takeS]
    by_cases h : c.toNat = 34
    · simp (disch := omega) only [↓if_neg, ↓if_pos]
      exact q_take_l (c :: r) hs FU r [] 1 (by simp at hs; unfold FU; omega) rfl (by simp) (by simp)
    · simp (disch := omega) only [↓if_neg, ↓if_pos]
def rK (s : List UInt8) (oo : Out (List UInt8 × Int × Int) (Int × List UInt8)) : Option (List UInt8 × Int × Int) := oo.on (fun r => some r) (fun x =>
    if (s.length : Int) ≤ x.1 then some ([], 0, 5) else if 200 < (x.2.length : Int) then some ([], 0, 7) else grd (InR (x.1 + 1)) (some (x.2, (x.1 + 1), 0)))
theorem r_take_l (s : List UInt8) (hs : s.length ≤ 1000000) : ∀ (n : Nat) (t out : List UInt8) (i : Nat), t.length < n → s.drop i = t → i ≤ s.length → out.length ≤ i → (m_syntagmaref02_Take_l1 s n ((i : Int), out)).bind (rK s) = some (takeR t out i) := by
  intro n
  induction n with
  | zero => intro t out i h; omega
  | succ n ih =>
    intro t out i hn ht hi ho
    have hl := drop_len ht hi
    rw [m_syntagmaref02_Take_l1]
    simp only [Bool.cond_eq_ite, Bool.and_eq_true, Bool.or_eq_true, Bool.not_eq_true', decide_eq_true_eq, decide_eq_false_iff_not, InR]
    rcases t with _ | ⟨c, r⟩
    · simp only [List.length_nil] at hl
      rw [bind_of (x := false) (if_neg (by omega)), takeR]
      show rK s (Out.go ((i : Int), out)) = _
      simp (disch := omega) only [rK, Out.on, Bool.cond_eq_ite, decide_eq_true_eq, ↓if_pos]
    · simp only [List.length_cons] at hl hn
      have hp : (if (i : Int) < (s.length : Int) then (idx s (i : Int)).bind fun c2 => some (!decide ((c2.toNat : Int) = 34)) else some false) = some (!decide ((c.toNat : Int) = 34)) := by
        rw [if_pos (by omega), idx_dr0 ht]; rfl
      rw [bind_of hp, takeR]
      by_cases h1 : c.toNat = 34
      · rw [if_neg (by simp; omega), if_pos h1]
        show rK s (Out.go ((i : Int), out)) = _
        simp only [rK, Out.on, Bool.cond_eq_ite, decide_eq_true_eq]
        rw [if_neg (by omega)]
        by_cases h2 : out.length > 200
        · simp (disch := omega) only [↓if_pos]
        · simp (disch := omega) only [↓if_neg, ↓grd_pos]
      · rw [if_pos (by simp; omega), if_neg h1, idx_dr0 ht]
        show ((if _ then _ else _ : Option _)).bind (rK s) = _
        by_cases h2 : c.toNat = 92
        · rw [if_neg (by omega), if_neg (by simp; omega), if_pos h2, grd_pos (by omega)]
          have he := escOne_le r
          rcases r with _ | ⟨d, r⟩
          · simp only [List.length_nil] at hl
            rw [if_pos (by omega)]; rfl
          · simp only [List.length_cons] at hl hn
            rw [if_neg (by omega), grd_pos (by omega), idx_dr1 ht, show (c :: d :: r)[1]? = some d from rfl, Option.bind_some, grd_pos (by omega)]
            have hq : (if (d.toNat : Int) = 34 then some (decide ((d.toNat : Int) = 34)) else some (decide ((d.toNat : Int) = 92))) = some (decide (d.toNat = 34 ∨ d.toNat = 92)) := by
              by_cases h : d.toNat = 34
              · rw [if_pos (by omega)]; congr 1; exact decide_eq_decide.2 (by omega)
              · rw [if_neg (by omega)]; congr 1; exact decide_eq_decide.2 (by omega)
            rw [bind_of hq]
            have one : ∀ x : UInt8, escOne (d :: r) = (x, 1) → (grd ((out.length + ([x] : List UInt8).length) * 1 ≤ 140737488355328) (m_syntagmaref02_Take_l1 s n ((i : Int) + 2, out ++ [x]))).bind (rK s) = some (if (escOne (d :: r)).2 = 0 then ([], 0, 5) else takeR ((d :: r).drop (escOne (d :: r)).2) (out ++ [(escOne (d :: r)).1]) (i + (escOne (d :: r)).2 + 1)) := by
              intro x hx
              rw [hx, grd_pos (by simp; omega), if_neg (by simp)]
              exact ih r (out ++ [x]) (i + 2) (by omega) (drop_more ht 2) (by omega) (by simp; omega)
            by_cases h3 : d.toNat = 34 ∨ d.toNat = 92
            · rw [if_pos (by simpa using h3)]
              exact one d (by dsimp only [escOne]; rw [if_pos h3])
            · rw [if_neg (by simpa using h3)]
              by_cases h4 : d.toNat = 110
              · rw [if_pos (by omega)]
                exact one 10 (by dsimp only [escOne]; rw [if_neg h3, if_pos h4])
              · rw [if_neg (by omega)]
                by_cases h5 : d.toNat = 116
                · rw [if_pos (by omega)]
                  exact one 9 (by dsimp only [escOne]; rw [if_neg h3, if_neg h4, if_pos h5])
                · rw [if_neg (by omega)]
                  by_cases h6 : d.toNat = 120
                  · rw [if_pos (by omega), grd_pos (by omega)]
                    have bad : escOne (d :: r) = (0, 0) → (some (Out.ret (([] : List UInt8), (0 : Int), (5 : Int))) : Option (Out (List UInt8 × Int × Int) (Int × List UInt8))).bind (rK s) = some (if (escOne (d :: r)).2 = 0 then ([], 0, 5) else takeR ((d :: r).drop (escOne (d :: r)).2) (out ++ [(escOne (d :: r)).1]) (i + (escOne (d :: r)).2 + 1)) := by
                      intro h; rw [h]; rfl
                    have hE : escOne (d :: r) = hexPart r := by
                      dsimp only [escOne]; rw [if_neg h3, if_neg h4, if_neg h5, if_pos h6]
                    rcases r with _ | ⟨h, _ | ⟨l, r⟩⟩
                    · simp only [List.length_nil] at hl
                      rw [bind_of (x := true) (if_pos (by omega)), bind_of (x := true) (if_pos rfl), if_pos rfl]
                      exact bad hE
                    · simp only [List.length_cons, List.length_nil] at hl
                      rw [bind_of (x := true) (if_pos (by omega)), bind_of (x := true) (if_pos rfl), if_pos rfl]
                      exact bad hE
                    · simp only [List.length_cons] at hl hn
                      have b1 := hexN_b h; have b2 := hexN_b l
                      have i2 : idx s ((i : Int) + 2) = some h := idx_dr2 ht
                      have i3 : idx s ((i : Int) + 2 + 1) = some l := idx_dr21 ht
                      rw [i2, i3]
                      simp only [Option.bind_some, hex_eq]
                      rw [if_neg (by omega)]
                      show ((if decide (hexN h < 0) = true then _ else _ : Option Bool).bind _).bind (rK s) = _
                      by_cases g1 : hexN h < 0
                      · rw [bind_of (x := true) (if_pos (by simpa using g1)), if_pos rfl]
                        exact bad (hE.trans (if_pos (.inl g1)))
                      · have hz : (if decide (hexN h < 0) = true then some true else grd (-9223372036854775808 ≤ (i : Int) + 2 + 1 ∧ (i : Int) + 2 + 1 ≤ 9223372036854775807) (some (decide (hexN l < 0)))) = some (decide (hexN l < 0)) := by
                          rw [if_neg (by simpa using g1), grd_pos (by omega)]
                        rw [bind_of hz]
                        by_cases g2 : hexN l < 0
                        · rw [if_pos (by simpa using g2)]
                          exact bad (hE.trans (if_pos (.inr g2)))
                        · rw [if_neg (by simpa using g2), grd_pos (by omega), grd_pos (by omega), grd_pos (by omega), grd_pos (by simp; omega), grd_pos (by omega)]
                          rw [hE.trans (if_neg (by omega))]
                          exact ih r (out ++ [toU8 (16 * hexN h + hexN l)]) (i + 4) (by omega) (drop_more ht 4) (by omega) (by simp; omega)
                  · rw [if_neg (by omega)]
                    have : escOne (d :: r) = (0, 0) := by dsimp only [escOne]; rw [if_neg h3, if_neg h4, if_neg h5, if_neg h6]
                    rw [this]; rfl
        · rw [if_neg h2]
          by_cases h3 : plainB c = true
          · have h4 : 32 ≤ c.toNat ∧ c.toNat ≤ 126 := by
              simp only [plainB, Bool.and_eq_true, decide_eq_true_eq] at h3; omega
            rw [if_neg (by omega), if_pos (by omega), if_pos h3, grd_pos (by simp; omega), grd_pos (by omega)]
            exact ih r (out ++ [c]) (i + 1) (by omega) (drop_c ht) (by omega) (by simp; omega)
          · have h4 : ¬ (32 ≤ c.toNat ∧ c.toNat ≤ 126) := by
              simp only [plainB, Bool.and_eq_true, decide_eq_true_eq, Bool.not_eq_true', decide_eq_false_iff_not] at h3; omega
            rw [if_pos (by omega), if_neg h3]; rfl
theorem r_take_eq (s : List UInt8) (hs : s.length ≤ 1000000) : m_syntagmaref02_Take s = some (takeS s) := by
  unfold m_syntagmaref02_Take
  simp only [Bool.cond_eq_ite, decide_eq_true_eq]
  rcases s with _ | ⟨c, r⟩
  · rfl
  · by_cases hr : r = []
    · subst hr
      rw [bind_of (x := true) (if_pos (by simp)), if_pos rfl]
      simp only [takeS]
      split
      · rw [takeR]
      · rfl
    · have hlen : 0 < r.length := List.length_pos_iff.2 hr
      have hp : (if ((c :: r).length : Int) < 2 then some true else (idx (c :: r) 0).bind fun c1 => some (!decide ((c1.toNat : Int) = 34))) = some (!decide ((c.toNat : Int) = 34)) := by
        rw [if_neg (by simp; omega)]; rfl
      rw [bind_of hp]
      simp only [takeS]
      by_cases h : c.toNat = 34
      · rw [if_neg (by simp; omega), if_pos h]
        exact r_take_l (c :: r) hs FU r [] 1 (by simp at hs; unfold FU; omega) rfl (by simp) (by simp)
      · rw [if_pos (by simp; omega), if_neg h]


theorem takeR_bad : ∀ (k : Nat) (t out : List UInt8) (i : Nat), t.length < k → (takeR t out i).2.2 ≠ 0 → (takeR t out i).1 = []
  | 0, t, out, i, h => by omega
  | k + 1, [], out, i, h => by rw [takeR]; simp
  | k + 1, c :: r, out, i, h => by
    rw [takeR]
    simp only [List.length_cons] at h
    split
    · split
      · simp
      · simp
    · split
      · split
        · simp
        · exact takeR_bad k _ _ _ (by simp; omega)
      · split
        · exact takeR_bad k _ _ _ (by omega)
        · simp
theorem takeS_bad (s : List UInt8) (h : (takeS s).2.2 ≠ 0) : (takeS s).1 = [] := by
  unfold takeS at h ⊢
  split
  · rfl
  · split
    · rename_i c r hc
      simp only [hc, if_true] at h
      exact takeR_bad (r.length + 1) r [] 1 (by omega) h
    · rfl
def smallB (c : UInt8) : Bool := (decide (97 ≤ (c.toNat : Int)) && decide ((c.toNat : Int) ≤ 122)) || decide ((c.toNat : Int) = 95)
def greatB (c : UInt8) : Bool := decide (65 ≤ (c.toNat : Int)) && decide ((c.toNat : Int) ≤ 90)
def moreB (c : UInt8) : Bool := (smallB c || greatB c) || (decide (48 ≤ (c.toNat : Int)) && decide ((c.toNat : Int) ≤ 57))
def wordP : List UInt8 → Nat
  | [] => 0
  | c :: r => if smallB c = true ∨ greatB c = true then 1 + (r.takeWhile moreB).length else 0
theorem word_c (c : UInt8) (r : List UInt8) : wordP (c :: r) = if smallB c = true ∨ greatB c = true then 1 + (r.takeWhile moreB).length else 0 := rfl
theorem word_eq (s : List UInt8) (h : s.length ≤ 1000000000000) : m_name_Word s = some (wordP s : Int) := by
  unfold m_name_Word
  rcases s with _ | ⟨c, r⟩
  · rfl
  · rw [decide_eq_false (by simp), cond_false, idx_c0, Option.bind_some]
    simp only [m_name_small, m_name_great, Option.bind_some, bf]
    rw [show (((decide (97 ≤ (c.toNat : Int))) && (decide ((c.toNat : Int) ≤ 122))) || (decide ((c.toNat : Int) = 95))) = smallB c from rfl, show ((decide (65 ≤ (c.toNat : Int))) && (decide ((c.toNat : Int) ≤ 90))) = greatB c from rfl]
    rw [word_c]
    cases h1 : smallB c || greatB c with
    | false =>
      simp only [Bool.or_eq_false_iff] at h1
      rw [h1.1, h1.2]; simp
    | true =>
      rw [if_pos (by simpa using h1)]
      have : (!smallB c && !greatB c) = false := by cases hs : smallB c <;> cases hg : greatB c <;> simp_all
      rw [this, cond_false]
      simp only [List.length_cons] at h
      refine bnd (loop_while (φ := m_name_Word_l1 (c :: r)) (l := c :: r) moreB (fun i => (i : Int)) ?_ ?_ FU 1 (by simp) (by rw [FUv]; simp; omega)) rfl
      · intro n i x hx hi
        simp only [List.length_cons] at hi
        simp only [m_name_Word_l1]
        rw [decide_eq_true (by simp only [List.length_cons]; omega), cond_true, getI hx, Option.bind_some]
        simp only [m_name_more, m_name_small, m_name_great, Option.bind_some, bt]
        constructor
        · intro hq
          simp only [moreB, smallB, greatB] at hq
          rw [hq, cond_true, grd_pos (by omega)]
        · intro hq
          simp only [moreB, smallB, greatB] at hq
          rw [hq, cond_false]
      · intro n
        simp only [m_name_Word_l1]
        rw [decide_eq_false (by omega), cond_false, Option.bind_some, cond_false]
theorem rword_eq (s : List UInt8) (h : s.length ≤ 1000000000000) : m_syntagmaref03_Word s = some (wordP s : Int) := by
  unfold m_syntagmaref03_Word
  rcases s with _ | ⟨c, r⟩
  · rfl
  · rw [decide_eq_false (by simp; omega), cond_false, idx_c0, Option.bind_some]
    simp only [m_syntagmaref03_small, m_syntagmaref03_great, Option.bind_some, bf]
    rw [show (((decide (97 ≤ (c.toNat : Int))) && (decide ((c.toNat : Int) ≤ 122))) || (decide ((c.toNat : Int) = 95))) = smallB c from rfl, show ((decide (65 ≤ (c.toNat : Int))) && (decide ((c.toNat : Int) ≤ 90))) = greatB c from rfl]
    rw [word_c]
    cases h1 : smallB c || greatB c with
    | false =>
      simp only [Bool.or_eq_false_iff] at h1
      rw [h1.1, h1.2]; simp
    | true =>
      rw [if_pos (by simpa using h1)]
      have : (!smallB c && !greatB c) = false := by cases hs : smallB c <;> cases hg : greatB c <;> simp_all
      rw [this, cond_false]
      simp only [List.length_cons] at h
      refine bnd (loop_while (φ := m_syntagmaref03_Word_l1 (c :: r)) (l := c :: r) moreB (fun i => (i : Int)) ?_ ?_ FU 1 (by simp) (by rw [FUv]; simp; omega)) rfl
      · intro n i x hx hi
        simp only [List.length_cons] at hi
        simp only [m_syntagmaref03_Word_l1]
        rw [decide_eq_true (by simp only [List.length_cons]; omega), cond_true, getI hx, Option.bind_some]
        simp only [m_syntagmaref03_small, m_syntagmaref03_great, Option.bind_some, bt, bf]
        constructor
        · intro hq
          simp only [moreB, smallB, greatB] at hq
          rw [hq, cond_true, grd_pos (by omega)]
        · intro hq
          simp only [moreB, smallB, greatB] at hq
          rw [hq, cond_false]
      · intro n
        simp only [m_syntagmaref03_Word_l1]
        rw [decide_eq_false (by omega), cond_false, Option.bind_some, cond_false]
def keysL : List (List UInt8) := match m_name_Keywords with | some l => l | none => []
theorem keys_eq : m_name_Keywords = some keysL := rfl
theorem rkeys_eq : m_syntagmaref03_Keywords = some keysL := rfl
theorem isKey_eq (l : List (List UInt8)) (s : List UInt8) (h : l.length ≤ 1000) : m_slices_Contains_string_string l s = some (decide (s ∈ l)) := by
  unfold m_slices_Contains_string_string m_slices_Index_string_string
  have e := loop_find (φ := m_slices_Index_string_string_l1 l s) (l := l) (fun i => (i : Int)) (fun x => decide (s = x)) (by
    intro n i x hx hi
    simp only [m_slices_Index_string_string_l1]
    rw [decide_eq_true (show (i : Int) < l.length by omega), cond_true, getI hx, Option.bind_some]
    constructor
    · intro hq; rw [show decide (s = x) = false from by simpa using hq, cond_false, grd_pos (by omega)]
    · intro hq; rw [show decide (s = x) = true from by simpa using hq, cond_true]) (by
    intro n
    simp only [m_slices_Index_string_string_l1]
    rw [decide_eq_false (by omega), cond_false]) (by rw [FUv]; omega)
  rw [bind_of e]
  cases hf : l.findIdx? (fun x => decide (s = x)) with
  | none =>
    rw [List.findIdx?_eq_none_iff] at hf
    show some (decide _) = _
    congr 1
    rw [decide_eq_false (by omega), decide_eq_false]
    intro hs
    have := hf s hs
    simp at this
  | some k =>
    rw [List.findIdx?_eq_some_iff_getElem] at hf
    obtain ⟨hk, h1, _⟩ := hf
    show some (decide _) = _
    congr 1
    rw [decide_eq_true (by omega), decide_eq_true]
    simp only [decide_eq_true_eq] at h1
    rw [h1]
    exact List.getElem_mem hk
theorem rIsKey_eq (l : List (List UInt8)) (s : List UInt8) (h : l.length ≤ 1000) : m_syntagmaref03_In s l = some (decide (s ∈ l)) := by
  unfold m_syntagmaref03_In
  refine bnd (loop_any (φ := m_syntagmaref03_In_l1 s l) (l := l) true (fun _ x => x = s) ?_ ?_ (by rw [FUv]; omega)) ?_
  · intro n i x hx hi
    simp only [m_syntagmaref03_In_l1]
    rw [decide_eq_true (by omega), cond_true, getI hx, Option.bind_some]
    constructor
    · intro hq; rw [decide_eq_false hq, cond_false, grd_pos (by omega)]
    · intro hq; rw [decide_eq_true hq, cond_true]
  · intro n
    simp only [m_syntagmaref03_In_l1]
    rw [decide_eq_false (by omega), cond_false]
  · by_cases hs : s ∈ l
    · obtain ⟨i, hi, h2⟩ := List.getElem_of_mem hs
      rw [if_pos ⟨i, s, by rw [← h2]; exact List.getElem?_eq_getElem hi, rfl⟩, decide_eq_true hs]; rfl
    · rw [if_neg, decide_eq_false hs]; rfl
      rintro ⟨i, x, h1, rfl⟩
      exact hs (List.mem_of_getElem? h1)
def headP (p : UInt8 → Bool) : List UInt8 → Bool
  | [] => false
  | c :: _ => p c
end Go.Proofs.Ytfcifodaohhcbaa
