/- Part K05a of the proof: contracts of the functions that are walked, and what they compute; no condition. -/
import Derived.Test.YtnnjgbcojdnhhaaV47
import Derived.Test.YtnnjgbcojdnhhaaB05
set_option linter.unusedVariables false
set_option linter.unusedSimpArgs false
set_option maxRecDepth 100000
namespace Go.Proofs.Ytnnjgbcojdnhhaa
open Go.V
open Classical
theorem FUv : FU = 18446744073709551616 := rfl
theorem bt (b c : Bool) : (bif b then some true else some c : Option Bool) = some (b || c) := by cases b <;> rfl
theorem bf (b c : Bool) : (bif b then some c else some false : Option Bool) = some (b && c) := by cases b <;> rfl
theorem bb (b : Bool) : (bif b then some false else some true : Option Bool) = some (!b) := by cases b <;> rfl
theorem tw_le {α : Type} (p : α → Bool) (l : List α) : (l.takeWhile p).length ≤ l.length := (List.takeWhile_prefix p).length_le
theorem lenNe {α β : Type} (a : List α) (b : List β) : (!decide ((a.length : Int) = (b.length : Int))) = !decide (a.length = b.length) := by
  congr 1; exact decide_eq_decide.2 (by omega)
def smallB (c : UInt8) : Bool := (decide (97 ≤ (c.toNat : Int)) && decide ((c.toNat : Int) ≤ 122)) || decide ((c.toNat : Int) = 95)
def greatB (c : UInt8) : Bool := decide (65 ≤ (c.toNat : Int)) && decide ((c.toNat : Int) ≤ 90)
def moreB (c : UInt8) : Bool := (smallB c || greatB c) || (decide (48 ≤ (c.toNat : Int)) && decide ((c.toNat : Int) ≤ 57))
def wordP : List UInt8 → Nat
  | [] => 0
  | c :: r => if smallB c = true ∨ greatB c = true then 1 + (r.takeWhile moreB).length else 0
theorem word_c (c : UInt8) (r : List UInt8) : wordP (c :: r) = if smallB c = true ∨ greatB c = true then 1 + (r.takeWhile moreB).length else 0 := rfl
theorem word_eq (s : List UInt8) (h : s.length ≤ 1000000000000) : m_name_Word s = some (wordP s : Int) := by
  unfold m_name_Word
  rcases s with _ | ⟨c, r⟩
  · rfl
  · rw [decide_eq_false (by simp), cond_false, idx_c0, Option.bind_some]
    simp only [m_name_small, m_name_great, Option.bind_some, bf]
    rw [show (((decide (97 ≤ (c.toNat : Int))) && (decide ((c.toNat : Int) ≤ 122))) || (decide ((c.toNat : Int) = 95))) = smallB c from rfl, show ((decide (65 ≤ (c.toNat : Int))) && (decide ((c.toNat : Int) ≤ 90))) = greatB c from rfl]
    rw [word_c]
    cases h1 : smallB c || greatB c with
    | false =>
      simp only [Bool.or_eq_false_iff] at h1
      rw [h1.1, h1.2]; simp
    | true =>
      rw [if_pos (by simpa using h1)]
      have : (!smallB c && !greatB c) = false := by cases hs : smallB c <;> cases hg : greatB c <;> simp_all
      rw [this, cond_false]
      simp only [List.length_cons] at h
      refine bnd (loop_while (φ := m_name_Word_l1 (c :: r)) (l := c :: r) moreB (fun i => (i : Int)) ?_ ?_ FU 1 (by simp) (by rw [FUv]; simp; omega)) rfl
      · intro n i x hx hi
        simp only [List.length_cons] at hi
        simp only [m_name_Word_l1]
        rw [decide_eq_true (by simp only [List.length_cons]; omega), cond_true, getI hx, Option.bind_some]
        simp only [m_name_more, m_name_small, m_name_great, Option.bind_some, bt]
        constructor
        · intro hq
          simp only [moreB, smallB, greatB] at hq
          rw [hq, cond_true, grd_pos (by omega)]
        · intro hq
          simp only [moreB, smallB, greatB] at hq
          rw [hq, cond_false]
      · intro n
        simp only [m_name_Word_l1]
        rw [decide_eq_false (by omega), cond_false, Option.bind_some, cond_false]
theorem rword_eq (s : List UInt8) (h : s.length ≤ 1000000000000) : m_syntagmaref03_Word s = some (wordP s : Int) := by
  unfold m_syntagmaref03_Word
  rcases s with _ | ⟨c, r⟩
  · rfl
  · rw [decide_eq_false (by simp; omega), cond_false, idx_c0, Option.bind_some]
    simp only [m_syntagmaref03_small, m_syntagmaref03_great, Option.bind_some, bf]
    rw [show (((decide (97 ≤ (c.toNat : Int))) && (decide ((c.toNat : Int) ≤ 122))) || (decide ((c.toNat : Int) = 95))) = smallB c from rfl, show ((decide (65 ≤ (c.toNat : Int))) && (decide ((c.toNat : Int) ≤ 90))) = greatB c from rfl]
    rw [word_c]
    cases h1 : smallB c || greatB c with
    | false =>
      simp only [Bool.or_eq_false_iff] at h1
      rw [h1.1, h1.2]; simp
    | true =>
      rw [if_pos (by simpa using h1)]
      have : (!smallB c && !greatB c) = false := by cases hs : smallB c <;> cases hg : greatB c <;> simp_all
      rw [this, cond_false]
      simp only [List.length_cons] at h
      refine bnd (loop_while (φ := m_syntagmaref03_Word_l1 (c :: r)) (l := c :: r) moreB (fun i => (i : Int)) ?_ ?_ FU 1 (by simp) (by rw [FUv]; simp; omega)) rfl
      · intro n i x hx hi
        simp only [List.length_cons] at hi
        simp only [m_syntagmaref03_Word_l1]
        rw [decide_eq_true (by simp only [List.length_cons]; omega), cond_true, getI hx, Option.bind_some]
        simp only [m_syntagmaref03_small, m_syntagmaref03_great, Option.bind_some, bt, bf]
        constructor
        · intro hq
          simp only [moreB, smallB, greatB] at hq
          rw [hq, cond_true, grd_pos (by omega)]
        · intro hq
          simp only [moreB, smallB, greatB] at hq
          rw [hq, cond_false]
      · intro n
        simp only [m_syntagmaref03_Word_l1]
        rw [decide_eq_false (by omega), cond_false, Option.bind_some, cond_false]
def keysL : List (List UInt8) := match m_name_Keywords with | some l => l | none => []
theorem keys_eq : m_name_Keywords = some keysL := rfl
theorem rkeys_eq : m_syntagmaref03_Keywords = some keysL := rfl
theorem isKey_eq (l : List (List UInt8)) (s : List UInt8) (h : l.length ≤ 1000) : m_slices_Contains_string_string l s = some (decide (s ∈ l)) := by
  unfold m_slices_Contains_string_string m_slices_Index_string_string
  have e := loop_find (φ := m_slices_Index_string_string_l1 l s) (l := l) (fun i => (i : Int)) (fun x => decide (s = x)) (by
    intro n i x hx hi
    simp only [m_slices_Index_string_string_l1]
    rw [decide_eq_true (show (i : Int) < l.length by omega), cond_true, getI hx, Option.bind_some]
    constructor
    · intro hq; rw [show decide (s = x) = false from by simpa using hq, cond_false, grd_pos (by omega)]
    · intro hq; rw [show decide (s = x) = true from by simpa using hq, cond_true]) (by
    intro n
    simp only [m_slices_Index_string_string_l1]
    rw [decide_eq_false (by omega), cond_false]) (by rw [FUv]; omega)
  rw [bind_of e]
  cases hf : l.findIdx? (fun x => decide (s = x)) with
  | none =>
    rw [List.findIdx?_eq_none_iff] at hf
    show some (decide _) = _
    congr 1
    rw [decide_eq_false (by omega), decide_eq_false]
    intro hs
    have := hf s hs
    simp at this
  | some k =>
    rw [List.findIdx?_eq_some_iff_getElem] at hf
    obtain ⟨hk, h1, _⟩ := hf
    show some (decide _) = _
    congr 1
    rw [decide_eq_true (by omega), decide_eq_true]
    simp only [decide_eq_true_eq] at h1
    rw [h1]
    exact List.getElem_mem hk
theorem rIsKey_eq (l : List (List UInt8)) (s : List UInt8) (h : l.length ≤ 1000) : m_syntagmaref03_In s l = some (decide (s ∈ l)) := by
  unfold m_syntagmaref03_In
  refine bnd (loop_any (φ := m_syntagmaref03_In_l1 s l) (l := l) true (fun _ x => x = s) ?_ ?_ (by rw [FUv]; omega)) ?_
  · intro n i x hx hi
    simp only [m_syntagmaref03_In_l1]
    rw [decide_eq_true (by omega), cond_true, getI hx, Option.bind_some]
    constructor
    · intro hq; rw [decide_eq_false hq, cond_false, grd_pos (by omega)]
    · intro hq; rw [decide_eq_true hq, cond_true]
  · intro n
    simp only [m_syntagmaref03_In_l1]
    rw [decide_eq_false (by omega), cond_false]
  · by_cases hs : s ∈ l
    · obtain ⟨i, hi, h2⟩ := List.getElem_of_mem hs
      rw [if_pos ⟨i, s, by rw [← h2]; exact List.getElem?_eq_getElem hi, rfl⟩, decide_eq_true hs]; rfl
    · rw [if_neg, decide_eq_false hs]; rfl
      rintro ⟨i, x, h1, rfl⟩
      exact hs (List.mem_of_getElem? h1)
def headP (p : UInt8 → Bool) : List UInt8 → Bool
  | [] => false
  | c :: _ => p c
def wholeP (s : List UInt8) : Bool := decide (s ≠ []) && decide (s.length ≤ 20) && decide (wordP s = s.length)
def nameP (s : List UInt8) : Bool := wholeP s && headP smallB s && !decide (s ∈ keysL)
def tagP (s : List UInt8) : Bool := wholeP s && headP greatB s
theorem whole_eq (s : List UInt8) : m_name_whole s = some (wholeP s) := by
  unfold m_name_whole wholeP
  by_cases h1 : s = []
  · subst h1; rfl
  by_cases h2 : s.length ≤ 20
  · rw [decide_eq_false h1, decide_eq_true (show (s.length : Int) ≤ 20 by omega), word_eq s (by omega)]
    simp only [Bool.not_false, Bool.true_and, cond_true, Option.bind_some, decide_eq_true (show s ≠ [] from h1), decide_eq_true h2]
    congr 1
    exact decide_eq_decide.2 (by omega)
  · rw [decide_eq_false (show ¬ (s.length : Int) ≤ 20 by omega), decide_eq_false h2]; simp
theorem name_eq (s : List UInt8) : m_name_Name s = some (nameP s) := by
  unfold m_name_Name nameP
  rw [whole_eq, Option.bind_some]
  cases hw : wholeP s with
  | false => rfl
  | true =>
    rcases s with _ | ⟨c, r⟩
    · simp [wholeP] at hw
    · rw [cond_true, idx_c0, Option.bind_some]
      simp only [m_name_small, Option.bind_some, m_name_Keyword, keys_eq, Bool.true_and]
      rw [isKey_eq _ _ (by decide), Option.bind_some, Option.bind_some, bf, Option.bind_some]; rfl
theorem tag_eq (s : List UInt8) : m_name_Tag s = some (tagP s) := by
  unfold m_name_Tag tagP
  rw [whole_eq, Option.bind_some]
  cases hw : wholeP s with
  | false => rfl
  | true =>
    rcases s with _ | ⟨c, r⟩
    · simp [wholeP] at hw
    · rw [cond_true, idx_c0, Option.bind_some]; rfl
theorem rwhole_eq (s : List UInt8) : (bif ((decide (0 < (s.length : Int))) && (decide ((s.length : Int) ≤ 20))) then ((m_syntagmaref03_Word s).bind fun x1 => some (decide (x1 = (s.length : Int)))) else (some false)) = some (wholeP s) := by
  unfold wholeP
  by_cases h1 : s = []
  · subst h1; rfl
  have h0 : 0 < s.length := List.length_pos_iff.2 h1
  by_cases h2 : s.length ≤ 20
  · rw [decide_eq_true (show 0 < (s.length : Int) by omega), decide_eq_true (show (s.length : Int) ≤ 20 by omega), rword_eq s (by omega)]
    simp only [Bool.true_and, cond_true, Option.bind_some, decide_eq_true (show s ≠ [] from h1), decide_eq_true h2]
    congr 1
    exact decide_eq_decide.2 (by omega)
  · rw [decide_eq_false (show ¬ (s.length : Int) ≤ 20 by omega), decide_eq_false h2]; simp
theorem rname_eq (s : List UInt8) : m_syntagmaref03_Name s = some (nameP s) := by
  unfold m_syntagmaref03_Name nameP
  refine bnd (rwhole_eq s) ?_
  cases hw : wholeP s with
  | false => rfl
  | true =>
    rcases s with _ | ⟨c, r⟩
    · simp [wholeP] at hw
    · rw [cond_true, idx_c0, Option.bind_some]
      simp only [m_syntagmaref03_small, Option.bind_some, m_syntagmaref03_Keyword, rkeys_eq, Bool.true_and]
      rw [rIsKey_eq _ _ (by decide), Option.bind_some, Option.bind_some, bf, Option.bind_some]; rfl
theorem rtag_eq (s : List UInt8) : m_syntagmaref03_Tag s = some (tagP s) := by
  unfold m_syntagmaref03_Tag tagP
  refine bnd (rwhole_eq s) ?_
  cases hw : wholeP s with
  | false => rfl
  | true =>
    rcases s with _ | ⟨c, r⟩
    · simp [wholeP] at hw
    · rw [cond_true, idx_c0, Option.bind_some]; rfl
/-! Shapes and children -/
def abcN (k : Int) : Nat := if k = 5 then 1 else if k = 12 then 1 else if k = 13 then 1 else if k = 6 then 2 else if k = 7 then 2 else if k = 8 then 2 else if k = 10 then 2 else if k = 9 then 3 else if k = 14 then 1 else 0
def partsB (k : Int) : Bool := decide (k = 11) || decide (k = 14)
theorem shape_eq (k : Int) : m_tree_shapeOf k = some ⟨(abcN k : Int), partsB k⟩ := by
  by_cases h5 : k = 5
  · subst h5; rfl
  by_cases h12 : k = 12
  · subst h12; rfl
  by_cases h13 : k = 13
  · subst h13; rfl
  by_cases h6 : k = 6
  · subst h6; rfl
  by_cases h7 : k = 7
  · subst h7; rfl
  by_cases h8 : k = 8
  · subst h8; rfl
  by_cases h10 : k = 10
  · subst h10; rfl
  by_cases h9 : k = 9
  · subst h9; rfl
  by_cases h11 : k = 11
  · subst h11; rfl
  by_cases h14 : k = 14
  · subst h14; rfl
  unfold m_tree_shapeOf abcN partsB
  rw [decide_eq_false h5, decide_eq_false h12, decide_eq_false h13, decide_eq_false h6, decide_eq_false h7, decide_eq_false h8, decide_eq_false h10, decide_eq_false h9, decide_eq_false h11, decide_eq_false h14, if_neg h5, if_neg h12, if_neg h13, if_neg h6, if_neg h7, if_neg h8, if_neg h10, if_neg h9, if_neg h14]
  rfl
theorem abc_le (k : Int) : abcN k ≤ 3 := by
  unfold abcN
  repeat' split
  all_goals omega
def kidsP (n : ApiNode) : List Int := [n.a, n.b, n.c].take (abcN n.kind) ++ (if partsB n.kind = true then n.l.map (·.at_) else [])
def NB (n : ApiNode) : Prop := n.l.length ≤ 60
theorem kids_len (n : ApiNode) (h : NB n) : (kidsP n).length ≤ 63 := by
  unfold kidsP NB at *
  have := abc_le n.kind
  split <;> simp <;> omega
theorem abc_sli (n : ApiNode) : sli [n.a, n.b, n.c] 0 (abcN n.kind : Int) = some ([n.a, n.b, n.c].take (abcN n.kind)) := sli_take (by have := abc_le n.kind; simpa using this)
theorem kids_eq (n : ApiNode) (h : NB n) : m_tree_Kids n = some (kidsP n) := by
  unfold m_tree_Kids
  have h3 := abc_le n.kind
  unfold NB at h
  rw [shape_eq, Option.bind_some, abc_sli, Option.bind_some, grd_pos (by simp; omega)]
  simp only
  unfold kidsP
  cases partsB n.kind with
  | false => simp
  | true =>
    rw [cond_true, if_pos rfl]
    refine bnd (loop_map (φ := fun i k s => m_tree_Kids_l1 n i (k, s)) (l := n.l) (fun x => x.at_) id _ ?_ ?_ (by rw [FUv]; omega) _ rfl) rfl
    · intro m i x s hx hi hs
      simp only [List.length_take] at hs
      simp only [m_tree_Kids_l1]
      rw [decide_eq_true (show (i : Int) < n.l.length by omega), cond_true, getI hx, Option.bind_some, grd_pos (by simp; omega), grd_pos (by omega)]
    · intro m s hs
      simp only [m_tree_Kids_l1]
      rw [decide_eq_false (by omega), cond_false]; rfl
theorem kidsO_l (n : ApiNode) : ∀ (k : Nat) (x : Int × List Int), m_tree_KidsO_l1 n k x = m_tree_Kids_l1 n k x
  | 0, x => rfl
  | k + 1, (i, s) => by
    simp only [m_tree_KidsO_l1, m_tree_Kids_l1, kidsO_l n k]
theorem kidsO_eq (n : ApiNode) (h : NB n) : m_tree_KidsO n = some (kidsP n) := by
  rw [← kids_eq n h]
  unfold m_tree_KidsO m_tree_Kids
  simp only [kidsO_l]
theorem rkids_pre (n : ApiNode) : (((bif (decide (n.kind = 5)) then some (decide (n.kind = 5)) else bif (decide (n.kind = 12)) then some (decide (n.kind = 12)) else some (decide (n.kind = 13)) : Option Bool).bind fun x1 => bif x1 then some [n.a] else (bif (decide (n.kind = 6)) then some (decide (n.kind = 6)) else bif (decide (n.kind = 7)) then some (decide (n.kind = 7)) else bif (decide (n.kind = 8)) then some (decide (n.kind = 8)) else some (decide (n.kind = 10)) : Option Bool).bind fun x2 => bif x2 then some [n.a, n.b] else bif (decide (n.kind = 9)) then some [n.a, n.b, n.c] else bif (decide (n.kind = 14)) then some [n.a] else some []) : Option (List Int)) = some ([n.a, n.b, n.c].take (abcN n.kind)) := by
  generalize n.kind = k
  by_cases h5 : k = 5
  · subst h5; rfl
  by_cases h12 : k = 12
  · subst h12; rfl
  by_cases h13 : k = 13
  · subst h13; rfl
  by_cases h6 : k = 6
  · subst h6; rfl
  by_cases h7 : k = 7
  · subst h7; rfl
  by_cases h8 : k = 8
  · subst h8; rfl
  by_cases h10 : k = 10
  · subst h10; rfl
  by_cases h9 : k = 9
  · subst h9; rfl
  by_cases h14 : k = 14
  · subst h14; rfl
  unfold abcN
  rw [decide_eq_false h5, decide_eq_false h12, decide_eq_false h13, decide_eq_false h6, decide_eq_false h7, decide_eq_false h8, decide_eq_false h10, decide_eq_false h9, decide_eq_false h14, if_neg h5, if_neg h12, if_neg h13, if_neg h6, if_neg h7, if_neg h8, if_neg h10, if_neg h9, if_neg h14]
  rfl
theorem rkids_eq (n : ApiNode) (h : NB n) : m_syntagmaref05_Kids n = some (kidsP n) := by
  unfold m_syntagmaref05_Kids
  have h3 := abc_le n.kind
  unfold NB at h
  rw [rkids_pre, Option.bind_some, show (decide (n.kind = 11) || decide (n.kind = 14)) = partsB n.kind from rfl]
  unfold kidsP
  cases partsB n.kind with
  | false => simp
  | true =>
    rw [cond_true, if_pos rfl]
    refine bnd (loop_map (φ := fun i k s => m_syntagmaref05_Kids_l1 n i (k, s)) (l := n.l) (fun x => x.at_) id _ ?_ ?_ (by rw [FUv]; omega) _ rfl) rfl
    · intro m i x s hx hi hs
      simp only [List.length_take] at hs
      simp only [m_syntagmaref05_Kids_l1]
      rw [decide_eq_true (show (i : Int) < n.l.length by omega), cond_true, getI hx, Option.bind_some, grd_pos (by simp; omega), grd_pos (by omega)]
    · intro m s hs
      simp only [m_syntagmaref05_Kids_l1]
      rw [decide_eq_false (by omega), cond_false]; rfl
/-! Labels -/
theorem twice_eq (l : List (List UInt8)) (h : l.length ≤ 1000) : m_name_Twice l = some (decide (dupP l)) := by
  unfold m_name_Twice
  obtain ⟨o, h1, h2⟩ := loop_rng (φ := fun n i s => m_name_Twice_l1 l n (i, s)) (l := l) (fun i mm => (∀ k, (mget mm k).getD false = decide (k ∈ l.take i)) ∧ ∀ (j : Nat) x, j < i → l[j]? = some x → x ∉ l.take j) (fun o => o.on (fun r => some r) (fun _ => some false) = some (decide (dupP l))) (by
    rintro n i x s hx hi ⟨hI1, hI2⟩
    simp only [m_name_Twice_l1]
    rw [decide_eq_true (show (i : Int) < l.length by omega), cond_true, getI hx, Option.bind_some, hI1]
    by_cases hd : x ∈ l.take i
    · rw [decide_eq_true hd, cond_true]
      exact .inr ⟨_, rfl, by rw [decide_eq_true (p := dupP l) ⟨i, x, hx, hd⟩]; rfl⟩
    · rw [decide_eq_false hd, cond_false, grd_pos (by omega)]
      refine .inl ⟨_, rfl, fun k => ?_, fun j y hj hy => ?_⟩
      · rw [mget_set, take_snoc hx]
        by_cases hk : k = x
        · rw [if_pos hk, hk]; simp
        · rw [if_neg hk, hI1]
          exact decide_eq_decide.2 (by simp [hk])
      · by_cases hji : j = i
        · subst hji
          rw [hx] at hy
          rw [← Option.some.inj hy]; exact hd
        · exact hI2 j y (by omega) hy) (by
    rintro n s ⟨hI1, hI2⟩
    simp only [m_name_Twice_l1]
    rw [decide_eq_false (by omega), cond_false]
    refine ⟨_, rfl, ?_⟩
    rw [decide_eq_false (p := dupP l)]
    · rfl
    · rintro ⟨i, x, hx, hd⟩
      exact hI2 i x (getLt hx) hx hd) (by rw [FUv]; omega) [] ⟨fun k => by simp [mget], fun j x hj => by omega⟩
  refine bnd h1 ?_
  exact h2
theorem rtwice_eq (l : List (List UInt8)) (h : l.length ≤ 1000) : m_syntagmaref03_Twice l = some (decide (dupP l)) := by
  unfold m_syntagmaref03_Twice
  refine bnd (loop_any (φ := m_syntagmaref03_Twice_l1 l) (l := l) true (fun i x => x ∈ l.take i) ?_ ?_ (by rw [FUv]; omega)) ?_
  · intro n i x hx hi
    simp only [m_syntagmaref03_Twice_l1]
    rw [decide_eq_true (show (i : Int) < l.length by omega), cond_true, getI hx, Option.bind_some, sli_take (by omega), Option.bind_some, rIsKey_eq _ _ (by simp; omega), Option.bind_some]
    exact ⟨fun hq => by rw [decide_eq_false hq, cond_false, grd_pos (by omega)], fun hq => by rw [decide_eq_true hq, cond_true]⟩
  · intro n
    simp only [m_syntagmaref03_Twice_l1]
    rw [decide_eq_false (by omega), cond_false]
  · by_cases hd : dupP l
    · rw [if_pos (show ∃ (i : Nat) (x : List UInt8), l[i]? = some x ∧ x ∈ l.take i from hd), decide_eq_true hd]; rfl
    · rw [if_neg (show ¬ ∃ (i : Nat) (x : List UInt8), l[i]? = some x ∧ x ∈ l.take i from hd), decide_eq_false hd]; rfl
def partB (k : Int) (x : ApiField) : Bool := if k = 11 then nameP x.name && decide (x.var = []) else tagP x.name && nameP x.var
theorem part_eq (k : Int) (x : ApiField) : m_tree_part k x = some (partB k x) := by
  unfold m_tree_part partB
  by_cases h : k = 11
  · rw [decide_eq_true h, cond_true, if_pos h, name_eq]; rfl
  · rw [decide_eq_false h, cond_false, if_neg h, tag_eq, Option.bind_some, name_eq]
    cases tagP x.name <;> rfl
noncomputable def partedB (n : ApiNode) : Bool := if partsB n.kind = true then decide (∀ x ∈ n.l, partB n.kind x = true) && (decide ((if n.kind = 14 then 1 else 0 : Int) ≤ (n.l.length : Int)) && decide ((n.l.length : Int) ≤ 30)) && !decide (dupP (n.l.map (·.name))) else decide ((n.l.length : Int) = 0)
theorem parted_eq (n : ApiNode) (h : NB n) : m_tree_parted n = some (partedB n) := by
  unfold NB at h
  unfold m_tree_parted partedB
  rw [shape_eq, Option.bind_some]
  simp only
  cases hp : partsB n.kind with
  | false => rfl
  | true =>
    rw [Bool.not_true, cond_false, if_pos rfl]
    refine bnd (loop_allmap (φ := fun m i s => m_tree_parted_l1 n m (i, s)) (l := n.l) false (fun x => partB n.kind x = true) (fun x => x.name) ?_ ?_ (by rw [FUv]; omega)) ?_
    · intro m i x s hx hi hs
      simp only [m_tree_parted_l1]
      rw [decide_eq_true (show (i : Int) < n.l.length by omega), cond_true, getI hx, Option.bind_some, part_eq, Option.bind_some]
      cases hb : partB n.kind x with
      | true => exact ⟨fun _ => by rw [Bool.not_true, cond_false, grd_pos (by simp; omega), grd_pos (by omega)], fun hq => absurd rfl hq⟩
      | false => exact ⟨fun hq => absurd hq (by simp), fun _ => rfl⟩
    · intro m s hs
      simp only [m_tree_parted_l1]
      rw [decide_eq_false (by omega), cond_false]
    · by_cases ha : ∀ x ∈ n.l, partB n.kind x = true
      · rw [if_pos ha, decide_eq_true ha, go_on]
        have e : ((bif decide (n.kind = 14) then some 1 else some 0 : Option Int)) = some (if n.kind = 14 then 1 else 0) := by
          by_cases h14 : n.kind = 14
          · rw [decide_eq_true h14, if_pos h14]; rfl
          · rw [decide_eq_false h14, if_neg h14]; rfl
        rw [e, Option.bind_some, twice_eq _ (by simp; omega), List.length_map, Option.bind_some, bf, Option.bind_some, Bool.true_and]
      · rw [if_neg ha, decide_eq_false ha]; rfl
noncomputable def labelsB (n : ApiNode) : Bool := decide (∀ x ∈ n.l, partB n.kind x = true) && ((decide ((n.l.length : Int) ≤ 30) && (decide (n.kind = 11) || decide (0 < (n.l.length : Int)))) && !decide (dupP (n.l.map (·.name))))
theorem rlabels_eq (n : ApiNode) (h : NB n) (hk : n.kind = 11 ∨ n.kind = 14) : m_syntagmaref05_labels n = some (labelsB n) := by
  unfold NB at h
  unfold m_syntagmaref05_labels labelsB
  refine bnd (loop_allmap (φ := fun m i s => m_syntagmaref05_labels_l1 n m (i, s)) (l := n.l) false (fun x => partB n.kind x = true) (fun x => x.name) ?_ ?_ (by rw [FUv]; omega)) ?_
  · intro m i x s hx hi hs
    simp only [m_syntagmaref05_labels_l1]
    rw [decide_eq_true (show (i : Int) < n.l.length by omega), cond_true, getI hx, Option.bind_some, rname_eq, rtag_eq, rname_eq]
    have e : ((bif (decide (n.kind = 11)) then ((some (nameP x.name)).bind fun x2 => some ((!x2) || (!decide ((x.var : List UInt8) = ([] : List UInt8))))) else (some false)).bind fun p1 => (bif p1 then (some true) else ((bif (decide (n.kind = 14)) then ((some (tagP x.name)).bind fun x3 => (bif (!x3) then (some true) else ((some (nameP x.var)).bind fun x4 => some (!x4))).bind fun p4 => some p4) else (some false)).bind fun p3 => some p3))) = some (!partB n.kind x) := by
      unfold partB
      rcases hk with hk | hk
      · rw [hk, decide_eq_true rfl, decide_eq_false (show ¬ (11 : Int) = 14 by decide), if_pos rfl]
        cases nameP x.name <;> cases decide (x.var = []) <;> rfl
      · rw [hk, decide_eq_true rfl, decide_eq_false (show ¬ (14 : Int) = 11 by decide), if_neg (by decide)]
        cases tagP x.name <;> cases nameP x.var <;> rfl
    rw [← Option.bind_assoc, e, Option.bind_some]
    cases hb : partB n.kind x with
    | true => exact ⟨fun _ => by rw [Bool.not_true, cond_false, grd_pos (by simp; omega), grd_pos (by omega)], fun hq => absurd rfl hq⟩
    | false => exact ⟨fun hq => absurd hq (by simp), fun _ => rfl⟩
  · intro m s hs
    simp only [m_syntagmaref05_labels_l1]
    rw [decide_eq_false (by omega), cond_false]
  · by_cases ha : ∀ x ∈ n.l, partB n.kind x = true
    · rw [if_pos ha, decide_eq_true ha, go_on, rtwice_eq _ (by simp; omega), List.length_map, Option.bind_some, bf, Option.bind_some, Bool.true_and]
    · rw [if_neg ha, decide_eq_false ha]; rfl
/-! Right -/
def unusedB (n : ApiNode) : Bool := ([n.a, n.b, n.c].drop (abcN n.kind)).all fun x => decide (x = 0)
theorem unused_eq (n : ApiNode) : m_tree_unused n = some (unusedB n) := by
  unfold m_tree_unused unusedB
  have h3 := abc_le n.kind
  rw [shape_eq, Option.bind_some]
  simp only
  rw [show sli [n.a, n.b, n.c] (abcN n.kind : Int) (([n.a, n.b, n.c] : List _).length : Int) = some ([n.a, n.b, n.c].drop (abcN n.kind)) from sli_from rfl (by simpa using h3), Option.bind_some]
  generalize hl : [n.a, n.b, n.c].drop (abcN n.kind) = l
  have hlen : l.length ≤ 3 := by rw [← hl]; simp
  refine bnd (loop_all (φ := m_tree_unused_l1 l) (l := l) false (fun _ x => x = 0) ?_ ?_ (by rw [FUv]; omega)) ?_
  · intro m i x hx hi
    simp only [m_tree_unused_l1]
    rw [decide_eq_true (show (i : Int) < l.length by omega), cond_true, getI hx, Option.bind_some]
    exact ⟨fun hq => by rw [decide_eq_true hq, Bool.not_true, cond_false, grd_pos (by omega)], fun hq => by rw [decide_eq_false hq, Bool.not_false, cond_true]⟩
  · intro m
    simp only [m_tree_unused_l1]
    rw [decide_eq_false (by omega), cond_false]
  · by_cases ha : ∀ (i : Nat) x, l[i]? = some x → x = 0
    · rw [if_pos ha, List.all_eq_true.2]
      · rfl
      · intro x hx
        obtain ⟨i, hi, h2⟩ := List.getElem_of_mem hx
        rw [decide_eq_true_eq]
        exact ha i x (by rw [← h2]; exact List.getElem?_eq_getElem hi)
    · rw [if_neg ha]
      have : (l.all fun x => decide (x = 0)) = false := by
        rw [← Bool.not_eq_true, List.all_eq_true]
        intro hh
        exact ha fun i x hx => by simpa using hh x (List.mem_of_getElem? hx)
      rw [this]; rfl
def isNm (k : Int) : Bool := decide (k = 4) || (decide (k = 5) || (decide (k = 7) || (decide (k = 8) || decide (k = 12))))
def namedB (n : ApiNode) : Bool := if isNm n.kind = true then nameP n.name else if n.kind = 13 then tagP n.name else decide ((n.name : List UInt8) = [])
theorem named_eq (n : ApiNode) : m_tree_named n = some (namedB n) := by
  unfold m_tree_named namedB isNm
  rw [name_eq, tag_eq]
  cases decide (n.kind = 4) <;> cases decide (n.kind = 5) <;> cases decide (n.kind = 7) <;> cases decide (n.kind = 8) <;> cases decide (n.kind = 12) <;> first | rfl | skip
  by_cases h : n.kind = 13
  · rw [if_neg (by decide), if_pos h, decide_eq_true h]; rfl
  · rw [if_neg (by decide), if_neg h, decide_eq_false h]; rfl
def countedB (n : ApiNode) : Bool := if n.kind = 1 then decide ((n.s : List UInt8) = []) else if n.kind = 2 then (decide (n.n_ = 0) || decide (n.n_ = 1)) && decide ((n.s : List UInt8) = []) else if n.kind = 10 then (decide (1 ≤ n.n_) && decide (n.n_ ≤ 7)) && decide ((n.s : List UInt8) = []) else if n.kind = 3 then decide (n.n_ = 0) && decide ((n.s.length : Int) ≤ 200) else decide (n.n_ = 0) && decide ((n.s : List UInt8) = [])
theorem counted_eq (n : ApiNode) : m_tree_counted n = some (countedB n) := by
  unfold m_tree_counted countedB
  by_cases h1 : n.kind = 1
  · rw [decide_eq_true h1, if_pos h1]; rfl
  rw [decide_eq_false h1, if_neg h1, cond_false]
  by_cases h2 : n.kind = 2
  · rw [decide_eq_true h2, if_pos h2]; rfl
  rw [decide_eq_false h2, if_neg h2, cond_false]
  by_cases h10 : n.kind = 10
  · rw [decide_eq_true h10, if_pos h10]; rfl
  rw [decide_eq_false h10, if_neg h10, cond_false]
  by_cases h3 : n.kind = 3
  · rw [decide_eq_true h3, if_pos h3]; rfl
  rw [decide_eq_false h3, if_neg h3, cond_false]
def boundsB (n : ApiNode) : Bool := !(((decide (n.kind < 1) || decide (14 < n.kind)) || decide (n.pos < 0)) || decide (1048576 < n.pos))
noncomputable def rightB (n : ApiNode) : Bool := boundsB n && (((namedB n && countedB n) && partedB n) && unusedB n)
theorem right_eq (n : ApiNode) (h : NB n) : m_tree_right n = some (rightB n) := by
  unfold m_tree_right rightB boundsB
  rw [named_eq, counted_eq, parted_eq n h, unused_eq]
  cases (((decide (n.kind < 1) || decide (14 < n.kind)) || decide (n.pos < 0)) || decide (1048576 < n.pos))
  · cases namedB n <;> cases countedB n <;> cases partedB n <;> cases unusedB n <;> rfl
  · rfl
theorem parted_lab (n : ApiNode) (hk : n.kind = 11 ∨ n.kind = 14) : partedB n = labelsB n := by
  unfold partedB labelsB
  rcases hk with hk | hk
  · rw [hk, if_pos (show partsB 11 = true by decide), if_neg (by decide), decide_eq_true (show (0 : Int) ≤ (n.l.length : Int) by omega), Bool.true_and, decide_eq_true (show (11 : Int) = 11 from rfl), Bool.true_or, Bool.and_true, Bool.and_assoc]
  · rw [hk, if_pos (show partsB 14 = true by decide), if_pos rfl, decide_eq_false (show ¬ (14 : Int) = 11 by decide), Bool.false_or, decide_eq_decide.2 (show (1 : Int) ≤ (n.l.length : Int) ↔ (0 : Int) < (n.l.length : Int) by omega), Bool.and_comm (decide ((0 : Int) < _)), Bool.and_assoc]
theorem parted_no (n : ApiNode) (hk : partsB n.kind = false) : partedB n = !decide (0 < (n.l.length : Int)) := by
  unfold partedB
  rw [if_neg (by simp [hk])]
  by_cases h : (n.l.length : Int) = 0
  · rw [decide_eq_true h, decide_eq_false (by omega)]; rfl
  · rw [decide_eq_false h, decide_eq_true (by omega)]; rfl
theorem unusedB_eq (n : ApiNode) : unusedB n = match abcN n.kind with | 0 => decide (n.a = 0) && (decide (n.b = 0) && (decide (n.c = 0) && true)) | 1 => decide (n.b = 0) && (decide (n.c = 0) && true) | 2 => decide (n.c = 0) && true | _ => true := by
  have := abc_le n.kind
  unfold unusedB
  generalize abcN n.kind = m at *
  match m with
  | 0 => rfl
  | 1 => rfl
  | 2 => rfl
  | 3 => rfl
  | m + 4 => omega
theorem rright_out (n : ApiNode) (h : boundsB n = false) : m_syntagmaref05_right n = some false := by
  unfold m_syntagmaref05_right
  unfold boundsB at h
  rw [show ((((decide (n.pos < 0)) || (decide (1048576 < n.pos))) || (decide (n.kind < 1))) || (decide (14 < n.kind))) = true by
    revert h
    cases decide (n.pos < 0) <;> cases decide (1048576 < n.pos) <;> cases decide (n.kind < 1) <;> cases decide (14 < n.kind) <;> decide]
  rfl
set_option maxHeartbeats 4000000 in
theorem rright_in (n : ApiNode) (hN : NB n) (h : boundsB n = true) : m_syntagmaref05_right n = some (((namedB n && countedB n) && partedB n) && unusedB n) := by
  have hb : 1 ≤ n.kind ∧ n.kind ≤ 14 ∧ 0 ≤ n.pos ∧ n.pos ≤ 1048576 := by
    unfold boundsB at h
    simp only [Bool.not_eq_true', Bool.or_eq_false_iff, decide_eq_false_iff_not] at h
    omega
  unfold m_syntagmaref05_right
  rw [show ((((decide (n.pos < 0)) || (decide (1048576 < n.pos))) || (decide (n.kind < 1))) || (decide (14 < n.kind))) = false by
    rw [decide_eq_false (by omega), decide_eq_false (by omega), decide_eq_false (by omega), decide_eq_false (by omega)]; rfl, cond_false, rname_eq, rtag_eq]
  have hk : n.kind = 1 ∨ n.kind = 2 ∨ n.kind = 3 ∨ n.kind = 4 ∨ n.kind = 5 ∨ n.kind = 6 ∨ n.kind = 7 ∨ n.kind = 8 ∨ n.kind = 9 ∨ n.kind = 10 ∨ n.kind = 11 ∨ n.kind = 12 ∨ n.kind = 13 ∨ n.kind = 14 := by omega
  have e1 : decide (1 ≤ n.n_) = !decide (n.n_ < 1) := by
    by_cases h : n.n_ < 1
    · rw [decide_eq_true h, decide_eq_false (by omega)]; rfl
    · rw [decide_eq_false h, decide_eq_true (by omega)]; rfl
  have e2 : decide (n.n_ ≤ 7) = !decide (7 < n.n_) := by
    by_cases h : 7 < n.n_
    · rw [decide_eq_true h, decide_eq_false (by omega)]; rfl
    · rw [decide_eq_false h, decide_eq_true (by omega)]; rfl
  have e3 : decide ((n.s.length : Int) ≤ 200) = !decide (200 < (n.s.length : Int)) := by
    by_cases h : 200 < (n.s.length : Int)
    · rw [decide_eq_true h, decide_eq_false (by omega)]; rfl
    · rw [decide_eq_false h, decide_eq_true (by omega)]; rfl
  rcases hk with hk | hk | hk | hk | hk | hk | hk | hk | hk | hk | hk | hk | hk | hk
  all_goals
    first
    | rw [parted_no _ (by rw [hk]; rfl)]
    | rw [parted_lab _ (.inl hk), rlabels_eq _ hN (.inl hk)]
    | rw [parted_lab _ (.inr hk), rlabels_eq _ hN (.inr hk)]
    rw [unusedB_eq]
    unfold namedB countedB
    rw [hk, e1, e2, e3]
    generalize labelsB _ = p0
    generalize decide (0 < (n.l.length : Int)) = p1
    generalize nameP n.name = p2
    generalize tagP n.name = p3
    generalize decide (n.n_ = 0) = q0; generalize decide (n.n_ = 1) = q6; generalize decide (n.n_ < 1) = q7; generalize decide (7 < n.n_) = q8
    generalize decide (200 < (n.s.length : Int)) = q9
    generalize decide (n.s = []) = q1; generalize decide (n.a = 0) = q2; generalize decide (n.b = 0) = q3; generalize decide (n.c = 0) = q4; generalize decide (n.name = []) = q5
    generalize m_syntagmaref05_labels _ = zz
    clear hN h hb hk e1 e2 e3
    try clear p0
    try clear p1
    try clear p2
    try clear p3
    try clear q0
    try clear q1
    try clear q2
    try clear q3
    try clear q4
    try clear q5
    try clear q6
    try clear q7
    try clear q8
    try clear q9
    try clear zz
    try (obtain _ | zz := zz)
    all_goals
      try revert p0
      try revert p1
      try revert p2
      try revert p3
      try revert q0
      try revert q1
      try revert q2
      try revert q3
      try revert q4
      try revert q5
      try revert q6
      try revert q7
      try revert q8
      try revert q9
      try revert zz
      decide +kernel
theorem rright_eq (n : ApiNode) (h : NB n) : m_syntagmaref05_right n = some (rightB n) := by
  unfold rightB
  cases hb : boundsB n with
  | false => exact rright_out n hb
  | true => rw [Bool.true_and]; exact rright_in n h hb
end Go.Proofs.Ytnnjgbcojdnhhaa
