/- Part C24c of the proof: contracts of the functions that are walked, and what they compute; no condition. -/
import Derived.Test.YtfcifodaohhcbaaC24b
set_option linter.unusedVariables false
set_option linter.unusedSimpArgs false
set_option maxRecDepth 100000
namespace Go.Proofs.Ytfcifodaohhcbaa
open Go.V
open Classical
theorem find_any {α : Type} (l : List α) (p : α → Bool) : (decide ((0 : Int) ≤ (match l.findIdx? p with | some i => (i : Int) | none => -1))) = l.any p := by
  cases hf : l.findIdx? p with
  | none =>
    rw [List.findIdx?_eq_none_iff] at hf
    rw [decide_eq_false (by simp)]
    symm
    rw [List.any_eq_false]
    intro x hx
    rw [hf x hx]; simp
  | some k =>
    rw [List.findIdx?_eq_some_iff_getElem] at hf
    obtain ⟨hk, h1, _⟩ := hf
    rw [decide_eq_true (by simp)]
    symm
    rw [List.any_eq_true]
    exact ⟨_, List.getElem_mem hk, h1⟩
theorem hasInt_eq (l : List Int) (f : Int → Option Bool) (p : Int → Bool) (hf : ∀ x, f x = some (p x)) (h : l.length ≤ 100000) : m_slices_ContainsFunc_int_int l f = some (l.any p) := by
  unfold m_slices_ContainsFunc_int_int m_slices_IndexFunc_int_int
  have e := loop_find (φ := m_slices_IndexFunc_int_int_l1 l f) (l := l) (fun i => (i : Int)) p (by
    intro n i x hx hi
    simp only [m_slices_IndexFunc_int_int_l1]
    rw [decide_eq_true (show (i : Int) < l.length by omega), cond_true, getI hx, Option.bind_some, hf, Option.bind_some]
    constructor
    · intro hq; rw [hq, cond_false, grd_pos (by omega)]
    · intro hq; rw [hq, cond_true]) (by
    intro n
    simp only [m_slices_IndexFunc_int_int_l1]
    rw [decide_eq_false (by omega), cond_false]) (by rw [FUv]; omega)
  rw [bind_of e, ← find_any]
  cases l.findIdx? p <;> rfl
theorem hasState_eq (l : List AutoState) (f : AutoState → Option Bool) (p : AutoState → Bool) (hf : ∀ x ∈ l, f x = some (p x)) (h : l.length ≤ 100000) : m_slices_ContainsFunc_auto_State_auto_State l f = some (l.any p) := by
  unfold m_slices_ContainsFunc_auto_State_auto_State m_slices_IndexFunc_auto_State_auto_State
  have e := loop_find (φ := m_slices_IndexFunc_auto_State_auto_State_l1 l f) (l := l) (fun i => (i : Int)) p (by
    intro n i x hx hi
    simp only [m_slices_IndexFunc_auto_State_auto_State_l1]
    rw [decide_eq_true (show (i : Int) < l.length by omega), cond_true, getI hx, Option.bind_some, hf x (List.mem_of_getElem? hx), Option.bind_some]
    constructor
    · intro hq; rw [hq, cond_false, grd_pos (by omega)]
    · intro hq; rw [hq, cond_true]) (by
    intro n
    simp only [m_slices_IndexFunc_auto_State_auto_State_l1]
    rw [decide_eq_false (by omega), cond_false]) (by rw [FUv]; omega)
  rw [bind_of e, ← find_any]
  cases l.findIdx? p <;> rfl
/-- Where the states that a state leads to stand. -/
def sideP (s : AutoState) (i : Nat) : Bool := bif s.arrow && decide (i = 0) then !s.plus else s.plus
def leadP (a : AutoAuto) (s : AutoState) : Prop := ∀ i x, (nextP s)[i]? = some x → onP a x (sideP s i) = true
def rightP (a : AutoAuto) (s : AutoState) : Prop := bareP s = true ∧ (∀ i x, s.vars[i]? = some x → numP s.vars i x) ∧ edgesP nameP s.fields ∧ edgesP tagP s.tags ∧ leadP a s
theorem leadP_arrow (a : AutoAuto) (s : AutoState) (h : s.arrow = true) : leadP a s ↔ onP a s.dom (!s.plus) = true ∧ onP a s.cod s.plus = true ∧ ∀ x ∈ s.fields.map (·.to_) ++ s.tags.map (·.to_), onP a x s.plus = true := by
  unfold leadP nextP sideP
  rw [if_pos h, h]
  simp only [List.cons_append, List.nil_append, Bool.true_and]
  constructor
  · intro hh
    refine ⟨by simpa using hh 0 s.dom rfl, by simpa using hh 1 s.cod rfl, fun x hx => ?_⟩
    obtain ⟨k, hk, hk2⟩ := List.getElem_of_mem hx
    have := hh (k + 2) x (by rw [← hk2]; exact List.getElem?_eq_getElem hk)
    simpa using this
  · rintro ⟨h1, h2, h3⟩ i x hx
    match i, hx with
    | 0, hx => rw [← Option.some.inj hx]; simpa using h1
    | 1, hx => rw [← Option.some.inj hx]; simpa using h2
    | k + 2, hx => simpa using h3 x (List.mem_of_getElem? (by simpa using hx))
theorem leadP_plain (a : AutoAuto) (s : AutoState) (h : s.arrow = false) : leadP a s ↔ ∀ x ∈ s.fields.map (·.to_) ++ s.tags.map (·.to_), onP a x s.plus = true := by
  unfold leadP nextP sideP
  rw [if_neg (by rw [h]; simp), h]
  simp only [List.nil_append, Bool.false_and, cond_false]
  constructor
  · intro hh x hx
    obtain ⟨k, hk, hk2⟩ := List.getElem_of_mem hx
    exact hh k x (by rw [← hk2]; exact List.getElem?_eq_getElem hk)
  · intro hh i x hx
    exact hh x (List.mem_of_getElem? hx)
theorem not_any {α : Type} (l : List α) (p : α → Bool) : (!l.any (fun x => !p x)) = decide (∀ x ∈ l, p x = true) := by
  rw [Bool.eq_iff_iff]
  simp
theorem right_eq (a : AutoAuto) (s : AutoState) (h : SB s) : m_auto_Auto_right a s = some (decide (rightP a s)) := by
  obtain ⟨h1, h2, h3⟩ := h
  unfold m_auto_Auto_right
  rw [bare_eq, Option.bind_some, numbered_eq _ h1, named_eq _ _ nameP name_eq h2, named_eq _ _ tagP tag_eq h3]
  by_cases c1 : bareP s = true
  rotate_left
  · rw [Bool.not_eq_true] at c1
    rw [c1, decide_eq_false (p := rightP a s) (fun h => by have := h.1; rw [c1] at this; simp at this)]; rfl
  by_cases c2 : ∀ i x, s.vars[i]? = some x → numP s.vars i x
  rotate_left
  · rw [c1, decide_eq_false c2, decide_eq_false (p := rightP a s) (fun h => c2 h.2.1)]; rfl
  by_cases c3 : edgesP nameP s.fields
  rotate_left
  · rw [c1, decide_eq_true c2, decide_eq_false c3, decide_eq_false (p := rightP a s) (fun h => c3 h.2.2.1)]; rfl
  by_cases c4 : edgesP tagP s.tags
  rotate_left
  · rw [c1, decide_eq_true c2, decide_eq_true c3, decide_eq_false c4, decide_eq_false (p := rightP a s) (fun h => c4 h.2.2.2.1)]; rfl
  rw [c1, decide_eq_true c2, decide_eq_true c3, decide_eq_true c4]
  simp only [Bool.not_true, cond_false, Option.bind_some]
  have e : decide (rightP a s) = decide (leadP a s) := decide_eq_decide.2 ⟨fun h => h.2.2.2.2, fun h => ⟨c1, c2, c3, c4, h⟩⟩
  rw [e]
  have e2 : ((m_auto_tos s.fields).bind fun x7 => (m_auto_tos s.tags).bind fun x8 => (m_slices_Concat_int_int [x7, x8]).bind fun x9 => (m_slices_ContainsFunc_int_int x9 (fun y0 => m_auto_Auto_right_1 y0 a s)).bind fun x10 => some (!x10)) = some (decide (∀ x ∈ s.fields.map (·.to_) ++ s.tags.map (·.to_), onP a x s.plus = true)) := by
    rw [tos_eq _ h2, Option.bind_some, tos_eq _ h3, Option.bind_some, concat_eq _ (by simp) (by
      intro l hl
      simp only [List.mem_cons, List.not_mem_nil, or_false] at hl
      rcases hl with rfl | rfl
      · simpa using h2
      · simpa using h3), Option.bind_some, hasInt_eq _ _ (fun x => !onP a x s.plus) (fun x => by rw [m_auto_Auto_right_1, on_eq]; rfl) (by simp; omega), Option.bind_some, not_any]
    simp
  cases ha : s.arrow with
  | false =>
    rw [cond_false, Option.bind_some, cond_false, e2]
    congr 1
    exact decide_eq_decide.2 (leadP_plain a s ha).symm
  | true =>
    rw [cond_true, on_eq, Option.bind_some, on_eq, decide_eq_decide.2 (leadP_arrow a s ha)]
    have e3 : decide (onP a s.dom (!s.plus) = true ∧ onP a s.cod s.plus = true ∧ ∀ x ∈ s.fields.map (·.to_) ++ s.tags.map (·.to_), onP a x s.plus = true) = (onP a s.dom (!s.plus) && (onP a s.cod s.plus && decide (∀ x ∈ s.fields.map (·.to_) ++ s.tags.map (·.to_), onP a x s.plus = true))) := by
      rw [Bool.eq_iff_iff, decide_eq_true_eq, Bool.and_eq_true, Bool.and_eq_true, decide_eq_true_eq]
    rw [e3]
    cases onP a s.dom (!s.plus) with
    | false => rfl
    | true =>
      cases onP a s.cod s.plus with
      | false => rfl
      | true => exact e2
theorem rright_eq (a : AutoAuto) (s : AutoState) (h : SB s) (ha : a.l.length ≤ 100000) : m_syntagmaref24_right a s = some (decide (rightP a s)) := by
  have hSB := h
  obtain ⟨h1, h2, h3⟩ := h
  unfold m_syntagmaref24_right
  rw [rbare_eq]
  by_cases c1 : bareP s = true
  rotate_left
  · rw [Bool.not_eq_true] at c1
    rw [c1, decide_eq_false (p := rightP a s) (fun h => by have := h.1; rw [c1] at this; simp at this)]; rfl
  rw [c1, Bool.not_true, cond_false]
  have e1 := loop_all (φ := m_syntagmaref24_right_l1 s) (l := s.vars) false (numP s.vars) (by
    intro n i x hx hi
    simp only [m_syntagmaref24_right_l1]
    rw [decide_eq_true (show (i : Int) < s.vars.length by omega), cond_true, getI hx, Option.bind_some, Option.bind_some]
    by_cases h1 : x < 0
    · rw [decide_eq_true h1, cond_true]
      exact ⟨fun hq => absurd hq.1 (by omega), fun _ => rfl⟩
    rw [decide_eq_false h1, cond_false]
    by_cases h2 : 999 < x
    · rw [decide_eq_true h2, cond_true]
      exact ⟨fun hq => absurd hq.2.1 (by omega), fun _ => rfl⟩
    rw [decide_eq_false h2, cond_false]
    by_cases h0 : 0 < i
    · obtain ⟨y, hy, hy2⟩ := prev hx h0
      rw [decide_eq_true (show 0 < (i : Int) by omega), cond_true, grd_pos (by omega), hy2, Option.bind_some, Option.bind_some]
      by_cases h2 : x ≤ y
      · rw [decide_eq_true h2, cond_true]
        exact ⟨fun hq => absurd (hq.2.2 h0 y hy) (by omega), fun _ => rfl⟩
      · rw [decide_eq_false h2, cond_false, grd_pos (by omega)]
        refine ⟨fun _ => rfl, fun hq => absurd ⟨by omega, by omega, fun _ z hz => ?_⟩ hq⟩
        rw [hy] at hz
        have := Option.some.inj hz
        omega
    · rw [decide_eq_false (show ¬ 0 < (i : Int) by omega), cond_false, grd_pos (by omega)]
      exact ⟨fun _ => rfl, fun hq => absurd ⟨by omega, by omega, fun h3 => absurd h3 h0⟩ hq⟩) (by
    intro n
    simp only [m_syntagmaref24_right_l1]
    rw [decide_eq_false (by omega), cond_false]) (by rw [FUv]; omega)
  refine bnd e1 ?_
  by_cases c2 : ∀ i x, s.vars[i]? = some x → numP s.vars i x
  rotate_left
  · rw [if_neg c2, decide_eq_false (p := rightP a s) (fun h => c2 h.2.1)]; rfl
  rw [if_pos c2, go_on, rnext_eq s hSB, Option.bind_some]
  have hn := nextP_len s hSB
  have e2 := loop_all (φ := m_syntagmaref24_right_l2 a s (nextP s)) (l := nextP s) false (fun i x => onP a x (sideP s i) = true) (by
    intro n i x hx hi
    simp only [m_syntagmaref24_right_l2]
    rw [decide_eq_true (show (i : Int) < (nextP s).length by omega), cond_true, getI hx, Option.bind_some, Option.bind_some, Option.bind_some]
    by_cases h1 : x < 0
    · rw [decide_eq_true h1, cond_true]
      have : onP a x (sideP s i) = false := by unfold onP idx; rw [if_neg (by omega)]
      rw [this]
      exact ⟨fun hq => absurd hq (by simp), fun _ => rfl⟩
    rw [decide_eq_false h1, cond_false]
    by_cases h2 : (a.l.length : Int) ≤ x
    · rw [decide_eq_true h2, cond_true]
      have : onP a x (sideP s i) = false := by unfold onP idx; rw [if_pos (by omega), List.getElem?_eq_none (by omega)]
      rw [this]
      exact ⟨fun hq => absurd hq (by simp), fun _ => rfl⟩
    rw [decide_eq_false h2, cond_false]
    have hx : idx a.l x = some a.l[x.toNat] := by
      unfold idx
      rw [if_pos (by omega)]
      exact List.getElem?_eq_getElem (by omega)
    have e : onP a x (sideP s i) = (a.l[x.toNat].plus == sideP s i) := by unfold onP; rw [hx]
    rw [e, hx, Option.bind_some, grd_pos (by omega)]
    have e3 : ((a.l[x.toNat].plus == s.plus) == (s.arrow && decide ((i : Int) = 0))) = !(a.l[x.toNat].plus == sideP s i) := by
      rw [show decide ((i : Int) = 0) = decide (i = 0) from decide_eq_decide.2 (by omega)]
      unfold sideP
      cases a.l[x.toNat].plus <;> cases s.plus <;> cases s.arrow && decide (i = 0) <;> rfl
    rw [e3]
    cases a.l[x.toNat].plus == sideP s i with
    | false => exact ⟨fun hq => absurd hq (by simp), fun _ => rfl⟩
    | true => exact ⟨fun _ => rfl, fun hq => absurd rfl hq⟩) (by
    intro n
    simp only [m_syntagmaref24_right_l2]
    rw [decide_eq_false (by omega), cond_false]) (by rw [FUv]; omega)
  refine bnd e2 ?_
  by_cases c3 : ∀ i x, (nextP s)[i]? = some x → onP a x (sideP s i) = true
  rotate_left
  · rw [if_neg c3, decide_eq_false (p := rightP a s) (fun h => c3 h.2.2.2.2)]; rfl
  rw [if_pos c3, go_on, redges_eq _ _ h2, redges_eq _ _ h3, Option.bind_some, Option.bind_some, bf, Option.bind_some]
  congr 1
  rw [Bool.eq_iff_iff, decide_eq_true_eq, Bool.and_eq_true, decide_eq_true_eq, decide_eq_true_eq]
  exact ⟨fun h => ⟨c1, c2, h.1, h.2, c3⟩, fun h => ⟨h.2.2.1, h.2.2.2.1⟩⟩
/-! May -/
noncomputable def mayP (a : AutoAuto) : Int := if a.l.length = 0 ∨ 2000 < a.l.length then 8 else if (∀ s ∈ a.l, rightP a s) ∧ onP a a.start true = true then 0 else 4
theorem may_eq (a : AutoAuto) (h : AB a) : m_auto_May a = some (mayP a) := by
  obtain ⟨h1, h2⟩ := h
  unfold m_auto_May mayP
  by_cases c0 : a.l.length = 0 ∨ 2000 < a.l.length
  · rw [if_pos c0, show (decide ((a.l.length : Int) = 0) || decide (2000 < (a.l.length : Int))) = true by rw [Bool.or_eq_true, decide_eq_true_eq, decide_eq_true_eq]; omega, cond_true]
  rw [if_neg c0, show (decide ((a.l.length : Int) = 0) || decide (2000 < (a.l.length : Int))) = false by rw [Bool.or_eq_false_iff, decide_eq_false_iff_not, decide_eq_false_iff_not]; omega, cond_false, on_eq, Option.bind_some]
  have e := hasState_eq a.l (fun y0 => m_auto_May_1 y0 a) (fun s => !decide (rightP a s)) (by
    intro s hs
    rw [m_auto_May_1, right_eq _ _ (h2 s hs)]; rfl) (by omega)
  rw [e]
  have e2 : (a.l.any fun s => !decide (rightP a s)) = !decide (∀ s ∈ a.l, rightP a s) := by
    rw [← Bool.not_not (b := a.l.any _), not_any]
    congr 1
    exact decide_eq_decide.2 (by simp)
  rw [e2, Option.bind_some, bt, Option.bind_some]
  cases hb : onP a a.start true with
  | false => rw [if_neg (by simp)]; rfl
  | true =>
    by_cases hc : ∀ s ∈ a.l, rightP a s
    · rw [decide_eq_true hc, if_pos ⟨hc, rfl⟩]; rfl
    · rw [decide_eq_false hc, if_neg (fun h => hc h.1)]; rfl
theorem rmay_eq (a : AutoAuto) (h : AB a) : m_syntagmaref24_May a = some (mayP a) := by
  obtain ⟨h1, h2⟩ := h
  unfold m_syntagmaref24_May mayP
  by_cases c0 : a.l.length = 0 ∨ 2000 < a.l.length
  · rw [if_pos c0, show (decide ((a.l.length : Int) < 1) || decide (2000 < (a.l.length : Int))) = true by rw [Bool.or_eq_true, decide_eq_true_eq, decide_eq_true_eq]; omega, cond_true]
  rw [if_neg c0, show (decide ((a.l.length : Int) < 1) || decide (2000 < (a.l.length : Int))) = false by rw [Bool.or_eq_false_iff, decide_eq_false_iff_not, decide_eq_false_iff_not]; omega, cond_false]
  refine bnd (loop_all (φ := m_syntagmaref24_May_l1 a) (l := a.l) 4 (fun _ s => rightP a s) ?_ ?_ (by rw [FUv]; omega)) ?_
  · intro n i x hx hi
    simp only [m_syntagmaref24_May_l1]
    rw [decide_eq_true (show (i : Int) < a.l.length by omega), cond_true, getI hx, Option.bind_some, rright_eq a x (h2 x (List.mem_of_getElem? hx)) (by omega), Option.bind_some]
    constructor
    · intro hq; rw [decide_eq_true hq, Bool.not_true, cond_false, grd_pos (by omega)]
    · intro hq; rw [decide_eq_false hq, Bool.not_false, cond_true]
  · intro n
    simp only [m_syntagmaref24_May_l1]
    rw [decide_eq_false (by omega), cond_false]
  by_cases hc : ∀ s ∈ a.l, rightP a s
  rotate_left
  · rw [if_neg (fun h => hc (fun s hs => by obtain ⟨k, hk, hk2⟩ := List.getElem_of_mem hs; exact h k s (by rw [← hk2]; exact List.getElem?_eq_getElem hk))), if_neg (fun h => hc h.1)]; rfl
  rw [if_pos (fun i x hx => hc x (List.mem_of_getElem? hx)), go_on]
  have e : (bif ((decide (a.start < 0)) || (decide ((a.l.length : Int) ≤ a.start))) then (some true) else ((idx a.l a.start).bind fun x3 => some (!x3.plus))) = some (!onP a a.start true) := by
    unfold onP
    by_cases hs : a.start < 0 ∨ (a.l.length : Int) ≤ a.start
    · have : idx a.l a.start = none := by
        unfold idx
        split
        · exact List.getElem?_eq_none (by omega)
        · rfl
      rw [this, show (decide (a.start < 0) || decide ((a.l.length : Int) ≤ a.start)) = true by simpa using hs]; rfl
    · have hx : idx a.l a.start = some a.l[a.start.toNat] := by
        unfold idx
        rw [if_pos (by omega)]
        exact List.getElem?_eq_getElem (by omega)
      rw [hx, show (decide (a.start < 0) || decide ((a.l.length : Int) ≤ a.start)) = false by simpa using hs, cond_false, Option.bind_some]
      show some _ = some (!(_ == true))
      cases a.l[a.start.toNat].plus <;> rfl
  rw [bind_of e]
  cases hb : onP a a.start true with
  | false => rw [if_neg (by simp)]; rfl
  | true => rw [if_pos ⟨hc, rfl⟩]; rfl
end Go.Proofs.Ytfcifodaohhcbaa
