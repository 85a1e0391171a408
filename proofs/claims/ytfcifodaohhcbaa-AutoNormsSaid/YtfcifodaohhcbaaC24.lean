/- Part C24 of the proof: contracts of the functions that are walked, and what they compute; no condition. -/
import Derived.Test.YtfcifodaohhcbaaV35
import Derived.Test.YtfcifodaohhcbaaB24
set_option linter.unusedVariables false
set_option linter.unusedSimpArgs false
set_option maxRecDepth 100000
namespace Go.Proofs.Ytfcifodaohhcbaa
open Go.V
open Classical
/-- Small enough: a state. -/
def SB (s : AutoState) : Prop := s.vars.length ≤ 40 ∧ s.fields.length ≤ 40 ∧ s.tags.length ≤ 40
/-- Small enough: an automaton. -/
def AB (a : AutoAuto) : Prop := a.l.length ≤ 2001 ∧ ∀ s ∈ a.l, SB s
theorem FUv : FU = 18446744073709551616 := rfl
/-! Next -/
def nextP (s : AutoState) : List Int := (if s.arrow = true then [s.dom, s.cod] else []) ++ s.fields.map (·.to_) ++ s.tags.map (·.to_)
theorem nextP_len (s : AutoState) (h : SB s) : (nextP s).length ≤ 82 := by
  obtain ⟨h1, h2, h3⟩ := h
  unfold nextP
  split <;> simp <;> omega
theorem tos_eq (l : List AutoEdge) (h : l.length ≤ 40) : m_auto_tos l = some (l.map (·.to_)) := by
  unfold m_auto_tos
  refine bnd (loop_map (φ := fun n i s => m_auto_tos_l1 l n (i, s)) (l := l) (fun x => x.to_) id 0 ?_ ?_ (by rw [FUv]; omega) [] rfl) rfl
  · intro n i x s hx hi hs
    simp only [m_auto_tos_l1]
    rw [decide_eq_true (by omega), cond_true, getI hx, Option.bind_some, grd_pos (by simp; omega), grd_pos (by omega)]
  · intro n s hs
    simp only [m_auto_tos_l1]
    rw [decide_eq_false (by omega), cond_false]; rfl
theorem concat_eq (ls : List (List Int)) (h : ls.length ≤ 3) (h2 : ∀ l ∈ ls, l.length ≤ 40) : m_slices_Concat_int_int ls = some ls.flatten := by
  have hm : ∀ {i : Nat} {x : List Int}, ls[i]? = some x → x.length ≤ 40 := fun hx => h2 _ (List.mem_of_getElem? hx)
  unfold m_slices_Concat_int_int
  have e1 := loop_fold (φ := fun n i s => m_slices_Concat_int_int_l1 ls n (s, i)) (l := ls) (fun i s => 0 ≤ s ∧ s ≤ 40 * i) (fun _ s x => s + (x.length : Int)) id (by
    intro n i x s hx hi hI
    have hm := hm hx
    simp only [m_slices_Concat_int_int_l1]
    rw [decide_eq_true (by omega), cond_true, getI hx, Option.bind_some, grd_pos (by omega), decide_eq_false (by omega), cond_false, grd_pos (by omega)]
    exact ⟨rfl, by omega⟩) (by
    intro n s hI
    simp only [m_slices_Concat_int_int_l1]
    rw [decide_eq_false (by omega), cond_false]; rfl) (by rw [FUv]; omega) (fun _ t s => t.foldl (fun s x => s + (x.length : Int)) s) (fun _ _ => rfl) (fun _ _ _ _ => rfl) 0 (by omega)
  have e2 := loop_fold (φ := fun n i s => m_slices_Concat_int_int_l2 ls n (i, s)) (l := ls) (fun i s => s.length ≤ 40 * i) (fun _ s x => s ++ x) id (by
    intro n i x s hx hi hI
    have hm := hm hx
    simp only [m_slices_Concat_int_int_l2]
    rw [decide_eq_true (by omega), cond_true, getI hx, Option.bind_some, grd_pos (by omega), grd_pos (by omega)]
    exact ⟨rfl, by simp; omega⟩) (by
    intro n s hI
    simp only [m_slices_Concat_int_int_l2]
    rw [decide_eq_false (by omega), cond_false]; rfl) (by rw [FUv]; omega) (fun _ t s => s ++ t.flatten) (by simp) (by simp) [] (by simp)
  refine bnd e1.1 ?_
  have e3 := e1.2
  rw [id, grd_pos (by omega), grd_pos (by omega)]
  exact bnd e2.1 rfl
theorem next_eq (s : AutoState) (h : SB s) : m_auto_Next s = some (nextP s) := by
  obtain ⟨h1, h2, h3⟩ := h
  unfold m_auto_Next
  refine bnd (x := if s.arrow = true then [s.dom, s.cod] else []) ?_ ?_
  · cases s.arrow with
    | true => rw [cond_true, grd_pos (by simp)]; rfl
    | false => rfl
  rw [tos_eq _ h2, Option.bind_some, tos_eq _ h3, Option.bind_some, concat_eq]
  · simp [nextP]
  · simp
  · intro l hl
    simp only [List.mem_cons, List.not_mem_nil, or_false] at hl
    rcases hl with rfl | rfl | rfl
    · split <;> simp
    · simpa using h2
    · simpa using h3
theorem rnext_eq (s : AutoState) (h : SB s) : m_syntagmaref24_Next s = some (nextP s) := by
  obtain ⟨h1, h2, h3⟩ := h
  unfold m_syntagmaref24_Next
  have hl : (if s.arrow = true then [s.dom, s.cod] else []).length ≤ 2 := by split <;> simp
  refine bnd (x := if s.arrow = true then [s.dom, s.cod] else []) ?_ ?_
  · cases s.arrow <;> rfl
  refine bnd (loop_map (φ := fun n i s2 => m_syntagmaref24_Next_l1 s n (i, s2)) (l := s.fields) (fun x => x.to_) id _ ?_ ?_ (by rw [FUv]; omega) _ rfl) ?_
  · intro n i x s2 hx hi hs
    simp only [m_syntagmaref24_Next_l1]
    rw [decide_eq_true (by omega), cond_true, getI hx, Option.bind_some, grd_pos (by simp; omega), grd_pos (by omega)]
  · intro n s2 hs
    simp only [m_syntagmaref24_Next_l1]
    rw [decide_eq_false (by omega), cond_false]; rfl
  refine bnd (loop_map (φ := fun n i s2 => m_syntagmaref24_Next_l2 s n (i, s2)) (l := s.tags) (fun x => x.to_) id _ ?_ ?_ (by rw [FUv]; omega) _ rfl) ?_
  · intro n i x s2 hx hi hs
    simp only [id, List.length_append, List.length_map] at hs
    simp only [m_syntagmaref24_Next_l2]
    rw [decide_eq_true (by omega), cond_true, getI hx, Option.bind_some, grd_pos (by simp; omega), grd_pos (by omega)]
  · intro n s2 hs
    simp only [m_syntagmaref24_Next_l2]
    rw [decide_eq_false (by omega), cond_false]; rfl
  · rfl
theorem ints_eq (l : List Int) (h : l.length ≤ 100) : m_syntagmabase_Ints l = some l := by
  unfold m_syntagmabase_Ints
  rw [grd_pos (by omega)]; rfl
theorem sameInts_eq (a b : List Int) (h : a.length ≤ 3000) : m_syntagmabase_SameInts a b = some (decide (a = b)) := by
  unfold m_syntagmabase_SameInts
  simp only [Bool.cond_eq_ite, Bool.not_eq_true', decide_eq_false_iff_not]
  by_cases hl : a.length = b.length
  · rw [if_neg (by omega)]
    refine bnd (loop_all (φ := m_syntagmabase_SameInts_l1 a b) (l := a) false (fun i x => b[i]? = some x) ?_ ?_ (by rw [FUv]; omega)) ?_
    · intro n i x hx hi
      simp only [m_syntagmabase_SameInts_l1]
      have hy : b[i]? = some b[i] := List.getElem?_eq_getElem (by omega)
      rw [decide_eq_true (by omega), cond_true, getI hx, Option.bind_some, getI hy, Option.bind_some, hy]
      simp only [Bool.cond_eq_ite, Bool.not_eq_true', decide_eq_false_iff_not]
      constructor
      · intro h; rw [if_neg (by simpa using (Option.some.inj h).symm), grd_pos (by omega)]
      · intro h; rw [if_pos (by intro h2; exact h (by rw [h2]))]
    · intro n
      simp only [m_syntagmabase_SameInts_l1]
      rw [decide_eq_false (by omega), cond_false]
    · by_cases h3 : a = b
      · subst h3
        rw [if_pos (fun i x h => h), decide_eq_true rfl]; rfl
      · rw [if_neg, decide_eq_false h3]; rfl
        intro h4
        refine h3 (List.ext_getElem? fun i => ?_)
        by_cases hi : i < a.length
        · rw [h4 i a[i] (List.getElem?_eq_getElem hi), List.getElem?_eq_getElem hi]
        · rw [List.getElem?_eq_none (by omega), List.getElem?_eq_none (by omega)]
  · rw [if_pos (by omega), decide_eq_false (fun h => hl (by rw [h]))]
/-! Names -/
def smallB (c : UInt8) : Bool := (decide (97 ≤ (c.toNat : Int)) && decide ((c.toNat : Int) ≤ 122)) || decide ((c.toNat : Int) = 95)
def greatB (c : UInt8) : Bool := decide (65 ≤ (c.toNat : Int)) && decide ((c.toNat : Int) ≤ 90)
def moreB (c : UInt8) : Bool := (smallB c || greatB c) || (decide (48 ≤ (c.toNat : Int)) && decide ((c.toNat : Int) ≤ 57))
def wordP : List UInt8 → Nat
  | [] => 0
  | c :: r => if smallB c = true ∨ greatB c = true then 1 + (r.takeWhile moreB).length else 0
theorem word_c (c : UInt8) (r : List UInt8) : wordP (c :: r) = if smallB c = true ∨ greatB c = true then 1 + (r.takeWhile moreB).length else 0 := rfl
theorem bt (b c : Bool) : (bif b then some true else some c : Option Bool) = some (b || c) := by cases b <;> rfl
theorem bf (b c : Bool) : (bif b then some c else some false : Option Bool) = some (b && c) := by cases b <;> rfl
theorem bb (b : Bool) : (bif b then some false else some true : Option Bool) = some (!b) := by cases b <;> rfl
theorem tw_le {α : Type} (p : α → Bool) (l : List α) : (l.takeWhile p).length ≤ l.length := (List.takeWhile_prefix p).length_le
theorem word_eq (s : List UInt8) (h : s.length ≤ 1000000000000) : m_name_Word s = some (wordP s : Int) := by
  unfold m_name_Word
  rcases s with _ | ⟨c, r⟩
  · rfl
  · rw [decide_eq_false (by simp), cond_false, idx_c0, Option.bind_some]
    simp only [m_name_small, m_name_great, Option.bind_some, bf]
    rw [show (((decide (97 ≤ (c.toNat : Int))) && (decide ((c.toNat : Int) ≤ 122))) || (decide ((c.toNat : Int) = 95))) = smallB c from rfl, show ((decide (65 ≤ (c.toNat : Int))) && (decide ((c.toNat : Int) ≤ 90))) = greatB c from rfl]
    rw [word_c]
    cases h1 : smallB c || greatB c with
    | false =>
      simp only [Bool.or_eq_false_iff] at h1
      rw [h1.1, h1.2]; simp
    | true =>
      rw [if_pos (by simpa using h1)]
      have : (!smallB c && !greatB c) = false := by cases hs : smallB c <;> cases hg : greatB c <;> simp_all
      rw [this, cond_false]
      simp only [List.length_cons] at h
      refine bnd (loop_while (φ := m_name_Word_l1 (c :: r)) (l := c :: r) moreB (fun i => (i : Int)) ?_ ?_ FU 1 (by simp) (by rw [FUv]; simp; omega)) rfl
      · intro n i x hx hi
        simp only [List.length_cons] at hi
        simp only [m_name_Word_l1]
        rw [decide_eq_true (by simp only [List.length_cons]; omega), cond_true, getI hx, Option.bind_some]
        simp only [m_name_more, m_name_small, m_name_great, Option.bind_some, bt]
        constructor
        · intro hq
          simp only [moreB, smallB, greatB] at hq
          rw [hq, cond_true, grd_pos (by omega)]
        · intro hq
          simp only [moreB, smallB, greatB] at hq
          rw [hq, cond_false]
      · intro n
        simp only [m_name_Word_l1]
        rw [decide_eq_false (by omega), cond_false, Option.bind_some, cond_false]
theorem rword_eq (s : List UInt8) (h : s.length ≤ 1000000000000) : m_syntagmaref03_Word s = some (wordP s : Int) := by
  unfold m_syntagmaref03_Word
  rcases s with _ | ⟨c, r⟩
  · rfl
  · rw [decide_eq_false (by simp; omega), cond_false, idx_c0, Option.bind_some]
    simp only [m_syntagmaref03_small, m_syntagmaref03_great, Option.bind_some, bf]
    rw [show (((decide (97 ≤ (c.toNat : Int))) && (decide ((c.toNat : Int) ≤ 122))) || (decide ((c.toNat : Int) = 95))) = smallB c from rfl, show ((decide (65 ≤ (c.toNat : Int))) && (decide ((c.toNat : Int) ≤ 90))) = greatB c from rfl]
    rw [word_c]
    cases h1 : smallB c || greatB c with
    | false =>
      simp only [Bool.or_eq_false_iff] at h1
      rw [h1.1, h1.2]; simp
    | true =>
      rw [if_pos (by simpa using h1)]
      have : (!smallB c && !greatB c) = false := by cases hs : smallB c <;> cases hg : greatB c <;> simp_all
      rw [this, cond_false]
      simp only [List.length_cons] at h
      refine bnd (loop_while (φ := m_syntagmaref03_Word_l1 (c :: r)) (l := c :: r) moreB (fun i => (i : Int)) ?_ ?_ FU 1 (by simp) (by rw [FUv]; simp; omega)) rfl
      · intro n i x hx hi
        simp only [List.length_cons] at hi
        simp only [m_syntagmaref03_Word_l1]
        rw [decide_eq_true (by simp only [List.length_cons]; omega), cond_true, getI hx, Option.bind_some]
        simp only [m_syntagmaref03_small, m_syntagmaref03_great, Option.bind_some, bt, bf]
        constructor
        · intro hq
          simp only [moreB, smallB, greatB] at hq
          rw [hq, cond_true, grd_pos (by omega)]
        · intro hq
          simp only [moreB, smallB, greatB] at hq
          rw [hq, cond_false]
      · intro n
        simp only [m_syntagmaref03_Word_l1]
        rw [decide_eq_false (by omega), cond_false, Option.bind_some, cond_false]
def keysL : List (List UInt8) := match m_name_Keywords with | some l => l | none => []
theorem keys_eq : m_name_Keywords = some keysL := rfl
theorem rkeys_eq : m_syntagmaref03_Keywords = some keysL := rfl
theorem isKey_eq (l : List (List UInt8)) (s : List UInt8) (h : l.length ≤ 1000) : m_slices_Contains_string_string l s = some (decide (s ∈ l)) := by
  unfold m_slices_Contains_string_string m_slices_Index_string_string
  have e := loop_find (φ := m_slices_Index_string_string_l1 l s) (l := l) (fun i => (i : Int)) (fun x => decide (s = x)) (by
    intro n i x hx hi
    simp only [m_slices_Index_string_string_l1]
    rw [decide_eq_true (show (i : Int) < l.length by omega), cond_true, getI hx, Option.bind_some]
    constructor
    · intro hq; rw [show decide (s = x) = false from by simpa using hq, cond_false, grd_pos (by omega)]
    · intro hq; rw [show decide (s = x) = true from by simpa using hq, cond_true]) (by
    intro n
    simp only [m_slices_Index_string_string_l1]
    rw [decide_eq_false (by omega), cond_false]) (by rw [FUv]; omega)
  rw [bind_of e]
  cases hf : l.findIdx? (fun x => decide (s = x)) with
  | none =>
    rw [List.findIdx?_eq_none_iff] at hf
    show some (decide _) = _
    congr 1
    rw [decide_eq_false (by omega), decide_eq_false]
    intro hs
    have := hf s hs
    simp at this
  | some k =>
    rw [List.findIdx?_eq_some_iff_getElem] at hf
    obtain ⟨hk, h1, _⟩ := hf
    show some (decide _) = _
    congr 1
    rw [decide_eq_true (by omega), decide_eq_true]
    simp only [decide_eq_true_eq] at h1
    rw [h1]
    exact List.getElem_mem hk
theorem rIsKey_eq (l : List (List UInt8)) (s : List UInt8) (h : l.length ≤ 1000) : m_syntagmaref03_In s l = some (decide (s ∈ l)) := by
  unfold m_syntagmaref03_In
  refine bnd (loop_any (φ := m_syntagmaref03_In_l1 s l) (l := l) true (fun _ x => x = s) ?_ ?_ (by rw [FUv]; omega)) ?_
  · intro n i x hx hi
    simp only [m_syntagmaref03_In_l1]
    rw [decide_eq_true (by omega), cond_true, getI hx, Option.bind_some]
    constructor
    · intro hq; rw [decide_eq_false hq, cond_false, grd_pos (by omega)]
    · intro hq; rw [decide_eq_true hq, cond_true]
  · intro n
    simp only [m_syntagmaref03_In_l1]
    rw [decide_eq_false (by omega), cond_false]
  · by_cases hs : s ∈ l
    · obtain ⟨i, hi, h2⟩ := List.getElem_of_mem hs
      rw [if_pos ⟨i, s, by rw [← h2]; exact List.getElem?_eq_getElem hi, rfl⟩, decide_eq_true hs]; rfl
    · rw [if_neg, decide_eq_false hs]; rfl
      rintro ⟨i, x, h1, rfl⟩
      exact hs (List.mem_of_getElem? h1)
def wholeP (s : List UInt8) : Bool := decide (s ≠ []) && decide (s.length ≤ 20) && decide (wordP s = s.length)
def headP (p : UInt8 → Bool) : List UInt8 → Bool
  | [] => false
  | c :: _ => p c
def nameP (s : List UInt8) : Bool := wholeP s && headP smallB s && !decide (s ∈ keysL)
def tagP (s : List UInt8) : Bool := wholeP s && headP greatB s
theorem whole_eq (s : List UInt8) : m_name_whole s = some (wholeP s) := by
  unfold m_name_whole wholeP
  by_cases h1 : s = []
  · subst h1; rfl
  by_cases h2 : s.length ≤ 20
  · rw [decide_eq_false h1, decide_eq_true (show (s.length : Int) ≤ 20 by omega), word_eq s (by omega)]
    simp only [Bool.not_false, Bool.true_and, cond_true, Option.bind_some, decide_eq_true (show s ≠ [] from h1), decide_eq_true h2]
    congr 1
    exact decide_eq_decide.2 (by omega)
  · rw [decide_eq_false (show ¬ (s.length : Int) ≤ 20 by omega), decide_eq_false h2]; simp
theorem name_eq (s : List UInt8) : m_name_Name s = some (nameP s) := by
  unfold m_name_Name nameP
  rw [whole_eq, Option.bind_some]
  cases hw : wholeP s with
  | false => rfl
  | true =>
    rcases s with _ | ⟨c, r⟩
    · simp [wholeP] at hw
    · rw [cond_true, idx_c0, Option.bind_some]
      simp only [m_name_small, Option.bind_some, m_name_Keyword, keys_eq, Bool.true_and]
      rw [isKey_eq _ _ (by decide), Option.bind_some, Option.bind_some, bf, Option.bind_some]; rfl
theorem tag_eq (s : List UInt8) : m_name_Tag s = some (tagP s) := by
  unfold m_name_Tag tagP
  rw [whole_eq, Option.bind_some]
  cases hw : wholeP s with
  | false => rfl
  | true =>
    rcases s with _ | ⟨c, r⟩
    · simp [wholeP] at hw
    · rw [cond_true, idx_c0, Option.bind_some]; rfl
theorem rwhole_eq (s : List UInt8) : (bif ((decide (0 < (s.length : Int))) && (decide ((s.length : Int) ≤ 20))) then ((m_syntagmaref03_Word s).bind fun x1 => some (decide (x1 = (s.length : Int)))) else (some false)) = some (wholeP s) := by
  unfold wholeP
  by_cases h1 : s = []
  · subst h1; rfl
  have h0 : 0 < s.length := List.length_pos_iff.2 h1
  by_cases h2 : s.length ≤ 20
  · rw [decide_eq_true (show 0 < (s.length : Int) by omega), decide_eq_true (show (s.length : Int) ≤ 20 by omega), rword_eq s (by omega)]
    simp only [Bool.true_and, cond_true, Option.bind_some, decide_eq_true (show s ≠ [] from h1), decide_eq_true h2]
    congr 1
    exact decide_eq_decide.2 (by omega)
  · rw [decide_eq_false (show ¬ (s.length : Int) ≤ 20 by omega), decide_eq_false h2]; simp
theorem rname_eq (s : List UInt8) : m_syntagmaref03_Name s = some (nameP s) := by
  unfold m_syntagmaref03_Name nameP
  refine bnd (rwhole_eq s) ?_
  cases hw : wholeP s with
  | false => rfl
  | true =>
    rcases s with _ | ⟨c, r⟩
    · simp [wholeP] at hw
    · rw [cond_true, idx_c0, Option.bind_some]
      simp only [m_syntagmaref03_small, Option.bind_some, m_syntagmaref03_Keyword, rkeys_eq, Bool.true_and]
      rw [rIsKey_eq _ _ (by decide), Option.bind_some, Option.bind_some, bf, Option.bind_some]; rfl
theorem rtag_eq (s : List UInt8) : m_syntagmaref03_Tag s = some (tagP s) := by
  unfold m_syntagmaref03_Tag tagP
  refine bnd (rwhole_eq s) ?_
  cases hw : wholeP s with
  | false => rfl
  | true =>
    rcases s with _ | ⟨c, r⟩
    · simp [wholeP] at hw
    · rw [cond_true, idx_c0, Option.bind_some]; rfl
end Go.Proofs.Ytfcifodaohhcbaa
