/- Part 5 of the proof: a program logic, what the functions compute, and what these answer; no condition. -/
import Derived.Test.Ytnnjgbcojdnhhaap4
set_option linter.unusedVariables false
set_option linter.unusedSimpArgs false
set_option maxRecDepth 100000
namespace Go.Proofs.Ytnnjgbcojdnhhaa
open Go.V
open Classical
theorem FUv : FU = 18446744073709551616 := rfl
theorem bt (b c : Bool) : (bif b then some true else some c : Option Bool) = some (b || c) := by cases b <;> rfl
theorem bf (b c : Bool) : (bif b then some c else some false : Option Bool) = some (b && c) := by cases b <;> rfl
def smallB (c : UInt8) : Bool := (decide (97 ≤ (c.toNat : Int)) && decide ((c.toNat : Int) ≤ 122)) || decide ((c.toNat : Int) = 95)
def greatB (c : UInt8) : Bool := decide (65 ≤ (c.toNat : Int)) && decide ((c.toNat : Int) ≤ 90)
def moreB (c : UInt8) : Bool := (smallB c || greatB c) || (decide (48 ≤ (c.toNat : Int)) && decide ((c.toNat : Int) ≤ 57))
def wordP : List UInt8 → Nat
  | [] => 0
  | c :: r => if smallB c = true ∨ greatB c = true then 1 + (r.takeWhile moreB).length else 0
theorem word_c (c : UInt8) (r : List UInt8) : wordP (c :: r) = if smallB c = true ∨ greatB c = true then 1 + (r.takeWhile moreB).length else 0 := rfl
theorem rword_eq (s : List UInt8) (h : s.length ≤ 1000000000000) : m_syntagmaref03_Word s = some (wordP s : Int) := by
  unfold m_syntagmaref03_Word
  rcases s with _ | ⟨c, r⟩
  · rfl
  · rw [decide_eq_false (by simp; omega), cond_false, idx_c0, Option.bind_some]
    simp only [m_syntagmaref03_small, m_syntagmaref03_great, Option.bind_some, bf]
    rw [show (((decide (97 ≤ (c.toNat : Int))) && (decide ((c.toNat : Int) ≤ 122))) || (decide ((c.toNat : Int) = 95))) = smallB c from rfl, show ((decide (65 ≤ (c.toNat : Int))) && (decide ((c.toNat : Int) ≤ 90))) = greatB c from rfl]
    rw [word_c]
    cases h1 : smallB c || greatB c with
    | false =>
      simp only [Bool.or_eq_false_iff] at h1
      rw [h1.1, h1.2]; simp
    | true =>
      rw [if_pos (by simpa using h1)]
      have : (!smallB c && !greatB c) = false := by cases hs : smallB c <;> cases hg : greatB c <;> simp_all
      rw [this, cond_false]
      simp only [List.length_cons] at h
      refine bnd (loop_while (φ := m_syntagmaref03_Word_l1 (c :: r)) (l := c :: r) moreB (fun i => (i : Int)) ?_ ?_ FU 1 (by simp) (by rw [FUv]; simp; omega)) rfl
      · intro n i x hx hi
        simp only [List.length_cons] at hi
        simp only [m_syntagmaref03_Word_l1]
        rw [decide_eq_true (by simp only [List.length_cons]; omega), cond_true, getI hx, Option.bind_some]
        simp only [m_syntagmaref03_small, m_syntagmaref03_great, Option.bind_some, bt, bf]
        constructor
        · intro hq
          simp only [moreB, smallB, greatB] at hq
          rw [hq, cond_true, grd_pos (by omega)]
        · intro hq
          simp only [moreB, smallB, greatB] at hq
          rw [hq, cond_false]
      · intro n
        simp only [m_syntagmaref03_Word_l1]
        rw [decide_eq_false (by omega), cond_false, Option.bind_some, cond_false]
def keysL : List (List UInt8) := match m_name_Keywords with | some l => l | none => []
theorem rkeys_eq : m_syntagmaref03_Keywords = some keysL := rfl
theorem rIsKey_eq (l : List (List UInt8)) (s : List UInt8) (h : l.length ≤ 1000) : m_syntagmaref03_In s l = some (decide (s ∈ l)) := by
  unfold m_syntagmaref03_In
  refine bnd (loop_any (φ := m_syntagmaref03_In_l1 s l) (l := l) true (fun _ x => x = s) ?_ ?_ (by rw [FUv]; omega)) ?_
  · intro n i x hx hi
    simp only [m_syntagmaref03_In_l1]
    rw [decide_eq_true (by omega), cond_true, getI hx, Option.bind_some]
    constructor
    · intro hq; rw [decide_eq_false hq, cond_false, grd_pos (by omega)]
    · intro hq; rw [decide_eq_true hq, cond_true]
  · intro n
    simp only [m_syntagmaref03_In_l1]
    rw [decide_eq_false (by omega), cond_false]
  · by_cases hs : s ∈ l
    · obtain ⟨i, hi, h2⟩ := List.getElem_of_mem hs
      rw [if_pos ⟨i, s, by rw [← h2]; exact List.getElem?_eq_getElem hi, rfl⟩, decide_eq_true hs]; rfl
    · rw [if_neg, decide_eq_false hs]; rfl
      rintro ⟨i, x, h1, rfl⟩
      exact hs (List.mem_of_getElem? h1)
def headP (p : UInt8 → Bool) : List UInt8 → Bool
  | [] => false
  | c :: _ => p c
def wholeP (s : List UInt8) : Bool := decide (s ≠ []) && decide (s.length ≤ 20) && decide (wordP s = s.length)
def nameP (s : List UInt8) : Bool := wholeP s && headP smallB s && !decide (s ∈ keysL)
def tagP (s : List UInt8) : Bool := wholeP s && headP greatB s
theorem rwhole_eq (s : List UInt8) : (bif ((decide (0 < (s.length : Int))) && (decide ((s.length : Int) ≤ 20))) then ((m_syntagmaref03_Word s).bind fun x1 => some (decide (x1 = (s.length : Int)))) else (some false)) = some (wholeP s) := by
  unfold wholeP
  by_cases h1 : s = []
  · subst h1; rfl
  have h0 : 0 < s.length := List.length_pos_iff.2 h1
  by_cases h2 : s.length ≤ 20
  · rw [decide_eq_true (show 0 < (s.length : Int) by omega), decide_eq_true (show (s.length : Int) ≤ 20 by omega), rword_eq s (by omega)]
    simp only [Bool.true_and, cond_true, Option.bind_some, decide_eq_true (show s ≠ [] from h1), decide_eq_true h2]
    congr 1
    exact decide_eq_decide.2 (by omega)
  · rw [decide_eq_false (show ¬ (s.length : Int) ≤ 20 by omega), decide_eq_false h2]; simp
theorem rname_eq (s : List UInt8) : m_syntagmaref03_Name s = some (nameP s) := by
  unfold m_syntagmaref03_Name nameP
  refine bnd (rwhole_eq s) ?_
  cases hw : wholeP s with
  | false => rfl
  | true =>
    rcases s with _ | ⟨c, r⟩
    · simp [wholeP] at hw
    · rw [cond_true, idx_c0, Option.bind_some]
      simp only [m_syntagmaref03_small, Option.bind_some, m_syntagmaref03_Keyword, rkeys_eq, Bool.true_and]
      rw [rIsKey_eq _ _ (by decide), Option.bind_some, Option.bind_some, bf, Option.bind_some]; rfl
theorem rtag_eq (s : List UInt8) : m_syntagmaref03_Tag s = some (tagP s) := by
  unfold m_syntagmaref03_Tag tagP
  refine bnd (rwhole_eq s) ?_
  cases hw : wholeP s with
  | false => rfl
  | true =>
    rcases s with _ | ⟨c, r⟩
    · simp [wholeP] at hw
    · rw [cond_true, idx_c0, Option.bind_some]; rfl
def abcN (k : Int) : Nat := if k = 5 then 1 else if k = 12 then 1 else if k = 13 then 1 else if k = 6 then 2 else if k = 7 then 2 else if k = 8 then 2 else if k = 10 then 2 else if k = 9 then 3 else if k = 14 then 1 else 0
def partsB (k : Int) : Bool := decide (k = 11) || decide (k = 14)
theorem shape_eq (k : Int) : m_tree_shapeOf k = some ⟨(abcN k : Int), partsB k⟩ := by
  by_cases h5 : k = 5
  · subst h5; rfl
  by_cases h12 : k = 12
  · subst h12; rfl
  by_cases h13 : k = 13
  · subst h13; rfl
  by_cases h6 : k = 6
  · subst h6; rfl
  by_cases h7 : k = 7
  · subst h7; rfl
  by_cases h8 : k = 8
  · subst h8; rfl
  by_cases h10 : k = 10
  · subst h10; rfl
  by_cases h9 : k = 9
  · subst h9; rfl
  by_cases h11 : k = 11
  · subst h11; rfl
  by_cases h14 : k = 14
  · subst h14; rfl
  unfold m_tree_shapeOf abcN partsB
  rw [decide_eq_false h5, decide_eq_false h12, decide_eq_false h13, decide_eq_false h6, decide_eq_false h7, decide_eq_false h8, decide_eq_false h10, decide_eq_false h9, decide_eq_false h11, decide_eq_false h14, if_neg h5, if_neg h12, if_neg h13, if_neg h6, if_neg h7, if_neg h8, if_neg h10, if_neg h9, if_neg h14]
  rfl
theorem abc_le (k : Int) : abcN k ≤ 3 := by
  unfold abcN
  repeat' split
  all_goals omega
def kidsP (n : ApiNode) : List Int := [n.a, n.b, n.c].take (abcN n.kind) ++ (if partsB n.kind = true then n.l.map (·.at_) else [])
def NB (n : ApiNode) : Prop := n.l.length ≤ 60
theorem kids_len (n : ApiNode) (h : NB n) : (kidsP n).length ≤ 63 := by
  unfold kidsP NB at *
  have := abc_le n.kind
  split <;> simp <;> omega
theorem abc_sli (n : ApiNode) : sli [n.a, n.b, n.c] 0 (abcN n.kind : Int) = some ([n.a, n.b, n.c].take (abcN n.kind)) := sli_take (by have := abc_le n.kind; simpa using this)
theorem kids_eq (n : ApiNode) (h : NB n) : m_tree_Kids n = some (kidsP n) := by
  unfold m_tree_Kids
  have h3 := abc_le n.kind
  unfold NB at h
  rw [shape_eq, Option.bind_some, abc_sli, Option.bind_some, grd_pos (by simp; omega)]
  simp only
  unfold kidsP
  cases partsB n.kind with
  | false => simp
  | true =>
    rw [cond_true, if_pos rfl]
    refine bnd (loop_map (φ := fun i k s => m_tree_Kids_l1 n i (k, s)) (l := n.l) (fun x => x.at_) id _ ?_ ?_ (by rw [FUv]; omega) _ rfl) rfl
    · intro m i x s hx hi hs
      simp only [List.length_take] at hs
      simp only [m_tree_Kids_l1]
      rw [decide_eq_true (show (i : Int) < n.l.length by omega), cond_true, getI hx, Option.bind_some, grd_pos (by simp; omega), grd_pos (by omega)]
    · intro m s hs
      simp only [m_tree_Kids_l1]
      rw [decide_eq_false (by omega), cond_false]; rfl
theorem kidsO_l (n : ApiNode) : ∀ (k : Nat) (x : Int × List Int), m_tree_KidsO_l1 n k x = m_tree_Kids_l1 n k x
  | 0, x => rfl
  | k + 1, (i, s) => by
    simp only [m_tree_KidsO_l1, m_tree_Kids_l1, kidsO_l n k]
theorem kidsO_eq (n : ApiNode) (h : NB n) : m_tree_KidsO n = some (kidsP n) := by
  rw [← kids_eq n h]
  unfold m_tree_KidsO m_tree_Kids
  simp only [kidsO_l]
theorem rkids_pre (n : ApiNode) : (((bif (decide (n.kind = 5)) then some (decide (n.kind = 5)) else bif (decide (n.kind = 12)) then some (decide (n.kind = 12)) else some (decide (n.kind = 13)) : Option Bool).bind fun x1 => bif x1 then some [n.a] else (bif (decide (n.kind = 6)) then some (decide (n.kind = 6)) else bif (decide (n.kind = 7)) then some (decide (n.kind = 7)) else bif (decide (n.kind = 8)) then some (decide (n.kind = 8)) else some (decide (n.kind = 10)) : Option Bool).bind fun x2 => bif x2 then some [n.a, n.b] else bif (decide (n.kind = 9)) then some [n.a, n.b, n.c] else bif (decide (n.kind = 14)) then some [n.a] else some []) : Option (List Int)) = some ([n.a, n.b, n.c].take (abcN n.kind)) := by
  generalize n.kind = k
  by_cases h5 : k = 5
  · subst h5; rfl
  by_cases h12 : k = 12
  · subst h12; rfl
  by_cases h13 : k = 13
  · subst h13; rfl
  by_cases h6 : k = 6
  · subst h6; rfl
  by_cases h7 : k = 7
  · subst h7; rfl
  by_cases h8 : k = 8
  · subst h8; rfl
  by_cases h10 : k = 10
  · subst h10; rfl
  by_cases h9 : k = 9
  · subst h9; rfl
  by_cases h14 : k = 14
  · subst h14; rfl
  unfold abcN
  rw [decide_eq_false h5, decide_eq_false h12, decide_eq_false h13, decide_eq_false h6, decide_eq_false h7, decide_eq_false h8, decide_eq_false h10, decide_eq_false h9, decide_eq_false h14, if_neg h5, if_neg h12, if_neg h13, if_neg h6, if_neg h7, if_neg h8, if_neg h10, if_neg h9, if_neg h14]
  rfl
theorem rkids_eq (n : ApiNode) (h : NB n) : m_syntagmaref05_Kids n = some (kidsP n) := by
  unfold m_syntagmaref05_Kids
  have h3 := abc_le n.kind
  unfold NB at h
  rw [rkids_pre, Option.bind_some, show (decide (n.kind = 11) || decide (n.kind = 14)) = partsB n.kind from rfl]
  unfold kidsP
  cases partsB n.kind with
  | false => simp
  | true =>
    rw [cond_true, if_pos rfl]
    refine bnd (loop_map (φ := fun i k s => m_syntagmaref05_Kids_l1 n i (k, s)) (l := n.l) (fun x => x.at_) id _ ?_ ?_ (by rw [FUv]; omega) _ rfl) rfl
    · intro m i x s hx hi hs
      simp only [List.length_take] at hs
      simp only [m_syntagmaref05_Kids_l1]
      rw [decide_eq_true (show (i : Int) < n.l.length by omega), cond_true, getI hx, Option.bind_some, grd_pos (by simp; omega), grd_pos (by omega)]
    · intro m s hs
      simp only [m_syntagmaref05_Kids_l1]
      rw [decide_eq_false (by omega), cond_false]; rfl
theorem rtwice_eq (l : List (List UInt8)) (h : l.length ≤ 1000) : m_syntagmaref03_Twice l = some (decide (dupP l)) := by
  unfold m_syntagmaref03_Twice
  refine bnd (loop_any (φ := m_syntagmaref03_Twice_l1 l) (l := l) true (fun i x => x ∈ l.take i) ?_ ?_ (by rw [FUv]; omega)) ?_
  · intro n i x hx hi
    simp only [m_syntagmaref03_Twice_l1]
    rw [decide_eq_true (show (i : Int) < l.length by omega), cond_true, getI hx, Option.bind_some, sli_take (by omega), Option.bind_some, rIsKey_eq _ _ (by simp; omega), Option.bind_some]
    exact ⟨fun hq => by rw [decide_eq_false hq, cond_false, grd_pos (by omega)], fun hq => by rw [decide_eq_true hq, cond_true]⟩
  · intro n
    simp only [m_syntagmaref03_Twice_l1]
    rw [decide_eq_false (by omega), cond_false]
  · by_cases hd : dupP l
    · rw [if_pos (show ∃ (i : Nat) (x : List UInt8), l[i]? = some x ∧ x ∈ l.take i from hd), decide_eq_true hd]; rfl
    · rw [if_neg (show ¬ ∃ (i : Nat) (x : List UInt8), l[i]? = some x ∧ x ∈ l.take i from hd), decide_eq_false hd]; rfl
def partB (k : Int) (x : ApiField) : Bool := if k = 11 then nameP x.name && decide (x.var = []) else tagP x.name && nameP x.var
noncomputable def partedB (n : ApiNode) : Bool := if partsB n.kind = true then decide (∀ x ∈ n.l, partB n.kind x = true) && (decide ((if n.kind = 14 then 1 else 0 : Int) ≤ (n.l.length : Int)) && decide ((n.l.length : Int) ≤ 30)) && !decide (dupP (n.l.map (·.name))) else decide ((n.l.length : Int) = 0)
noncomputable def labelsB (n : ApiNode) : Bool := decide (∀ x ∈ n.l, partB n.kind x = true) && ((decide ((n.l.length : Int) ≤ 30) && (decide (n.kind = 11) || decide (0 < (n.l.length : Int)))) && !decide (dupP (n.l.map (·.name))))
theorem rlabels_eq (n : ApiNode) (h : n.l.length * 40 ≤ 140737488355328) (hk : n.kind = 11 ∨ n.kind = 14) : m_syntagmaref05_labels n = some (labelsB n) := by
  unfold m_syntagmaref05_labels labelsB
  refine bnd (loop_allmap (φ := fun m i s => m_syntagmaref05_labels_l1 n m (i, s)) (l := n.l) false (fun x => partB n.kind x = true) (fun x => x.name) ?_ ?_ (by rw [FUv]; omega)) ?_
  · intro m i x s hx hi hs
    simp only [m_syntagmaref05_labels_l1]
    rw [decide_eq_true (show (i : Int) < n.l.length by omega), cond_true, getI hx, Option.bind_some, rname_eq, rtag_eq, rname_eq]
    have e : ((bif (decide (n.kind = 11)) then ((some (nameP x.name)).bind fun x2 => some ((!x2) || (!decide ((x.var : List UInt8) = ([] : List UInt8))))) else (some false)).bind fun p1 => (bif p1 then (some true) else ((bif (decide (n.kind = 14)) then ((some (tagP x.name)).bind fun x3 => (bif (!x3) then (some true) else ((some (nameP x.var)).bind fun x4 => some (!x4))).bind fun p4 => some p4) else (some false)).bind fun p3 => some p3))) = some (!partB n.kind x) := by
      unfold partB
      rcases hk with hk | hk
      · rw [hk, decide_eq_true rfl, decide_eq_false (show ¬ (11 : Int) = 14 by decide), if_pos rfl]
        cases nameP x.name <;> cases decide (x.var = []) <;> rfl
      · rw [hk, decide_eq_true rfl, decide_eq_false (show ¬ (14 : Int) = 11 by decide), if_neg (by decide)]
        cases tagP x.name <;> cases nameP x.var <;> rfl
    rw [← Option.bind_assoc, e, Option.bind_some]
    cases hb : partB n.kind x with
    | true => exact ⟨fun _ => by rw [Bool.not_true, cond_false, grd_pos (by simp; omega), grd_pos (by omega)], fun hq => absurd rfl hq⟩
    | false => exact ⟨fun hq => absurd hq (by simp), fun _ => rfl⟩
  · intro m s hs
    simp only [m_syntagmaref05_labels_l1]
    rw [decide_eq_false (by omega), cond_false]
  · by_cases ha : ∀ x ∈ n.l, partB n.kind x = true
    · by_cases h3 : (n.l.length : Int) ≤ 30
      · rw [if_pos ha, decide_eq_true ha, go_on, rtwice_eq _ (by simp; omega), List.length_map, Option.bind_some, bf, Option.bind_some, Bool.true_and]
      · rw [if_pos ha, decide_eq_true ha, go_on, List.length_map, decide_eq_false h3]; rfl
    · rw [if_neg ha, decide_eq_false ha]; rfl
def unusedB (n : ApiNode) : Bool := ([n.a, n.b, n.c].drop (abcN n.kind)).all fun x => decide (x = 0)
def isNm (k : Int) : Bool := decide (k = 4) || (decide (k = 5) || (decide (k = 7) || (decide (k = 8) || decide (k = 12))))
def namedB (n : ApiNode) : Bool := if isNm n.kind = true then nameP n.name else if n.kind = 13 then tagP n.name else decide ((n.name : List UInt8) = [])
def countedB (n : ApiNode) : Bool := if n.kind = 1 then decide ((n.s : List UInt8) = []) else if n.kind = 2 then (decide (n.n_ = 0) || decide (n.n_ = 1)) && decide ((n.s : List UInt8) = []) else if n.kind = 10 then (decide (1 ≤ n.n_) && decide (n.n_ ≤ 7)) && decide ((n.s : List UInt8) = []) else if n.kind = 3 then decide (n.n_ = 0) && decide ((n.s.length : Int) ≤ 200) else decide (n.n_ = 0) && decide ((n.s : List UInt8) = [])
def boundsB (n : ApiNode) : Bool := !(((decide (n.kind < 1) || decide (14 < n.kind)) || decide (n.pos < 0)) || decide (1048576 < n.pos))
noncomputable def rightB (n : ApiNode) : Bool := boundsB n && (((namedB n && countedB n) && partedB n) && unusedB n)
theorem parted_lab (n : ApiNode) (hk : n.kind = 11 ∨ n.kind = 14) : partedB n = labelsB n := by
  unfold partedB labelsB
  rcases hk with hk | hk
  · rw [hk, if_pos (show partsB 11 = true by decide), if_neg (by decide), decide_eq_true (show (0 : Int) ≤ (n.l.length : Int) by omega), Bool.true_and, decide_eq_true (show (11 : Int) = 11 from rfl), Bool.true_or, Bool.and_true, Bool.and_assoc]
  · rw [hk, if_pos (show partsB 14 = true by decide), if_pos rfl, decide_eq_false (show ¬ (14 : Int) = 11 by decide), Bool.false_or, decide_eq_decide.2 (show (1 : Int) ≤ (n.l.length : Int) ↔ (0 : Int) < (n.l.length : Int) by omega), Bool.and_comm (decide ((0 : Int) < _)), Bool.and_assoc]
theorem parted_no (n : ApiNode) (hk : partsB n.kind = false) : partedB n = !decide (0 < (n.l.length : Int)) := by
  unfold partedB
  rw [if_neg (by simp [hk])]
  by_cases h : (n.l.length : Int) = 0
  · rw [decide_eq_true h, decide_eq_false (by omega)]; rfl
  · rw [decide_eq_false h, decide_eq_true (by omega)]; rfl
theorem unusedB_eq (n : ApiNode) : unusedB n = match abcN n.kind with | 0 => decide (n.a = 0) && (decide (n.b = 0) && (decide (n.c = 0) && true)) | 1 => decide (n.b = 0) && (decide (n.c = 0) && true) | 2 => decide (n.c = 0) && true | _ => true := by
  have := abc_le n.kind
  unfold unusedB
  generalize abcN n.kind = m at *
  match m with
  | 0 => rfl
  | 1 => rfl
  | 2 => rfl
  | 3 => rfl
  | m + 4 => omega
theorem rright_out (n : ApiNode) (h : boundsB n = false) : m_syntagmaref05_right n = some false := by
  unfold m_syntagmaref05_right
  unfold boundsB at h
  rw [show ((((decide (n.pos < 0)) || (decide (1048576 < n.pos))) || (decide (n.kind < 1))) || (decide (14 < n.kind))) = true by
    revert h
    cases decide (n.pos < 0) <;> cases decide (1048576 < n.pos) <;> cases decide (n.kind < 1) <;> cases decide (14 < n.kind) <;> decide]
  rfl
set_option maxHeartbeats 4000000 in
theorem rright_in (n : ApiNode) (hN : n.l.length * 40 ≤ 140737488355328) (h : boundsB n = true) : m_syntagmaref05_right n = some (((namedB n && countedB n) && partedB n) && unusedB n) := by
  have hb : 1 ≤ n.kind ∧ n.kind ≤ 14 ∧ 0 ≤ n.pos ∧ n.pos ≤ 1048576 := by
    unfold boundsB at h
    simp only [Bool.not_eq_true', Bool.or_eq_false_iff, decide_eq_false_iff_not] at h
    omega
  unfold m_syntagmaref05_right
  rw [show ((((decide (n.pos < 0)) || (decide (1048576 < n.pos))) || (decide (n.kind < 1))) || (decide (14 < n.kind))) = false by
    rw [decide_eq_false (by omega), decide_eq_false (by omega), decide_eq_false (by omega), decide_eq_false (by omega)]; rfl, cond_false, rname_eq, rtag_eq]
  have hk : n.kind = 1 ∨ n.kind = 2 ∨ n.kind = 3 ∨ n.kind = 4 ∨ n.kind = 5 ∨ n.kind = 6 ∨ n.kind = 7 ∨ n.kind = 8 ∨ n.kind = 9 ∨ n.kind = 10 ∨ n.kind = 11 ∨ n.kind = 12 ∨ n.kind = 13 ∨ n.kind = 14 := by omega
  have e1 : decide (1 ≤ n.n_) = !decide (n.n_ < 1) := by
    by_cases h : n.n_ < 1
    · rw [decide_eq_true h, decide_eq_false (by omega)]; rfl
    · rw [decide_eq_false h, decide_eq_true (by omega)]; rfl
  have e2 : decide (n.n_ ≤ 7) = !decide (7 < n.n_) := by
    by_cases h : 7 < n.n_
    · rw [decide_eq_true h, decide_eq_false (by omega)]; rfl
    · rw [decide_eq_false h, decide_eq_true (by omega)]; rfl
  have e3 : decide ((n.s.length : Int) ≤ 200) = !decide (200 < (n.s.length : Int)) := by
    by_cases h : 200 < (n.s.length : Int)
    · rw [decide_eq_true h, decide_eq_false (by omega)]; rfl
    · rw [decide_eq_false h, decide_eq_true (by omega)]; rfl
  rcases hk with hk | hk | hk | hk | hk | hk | hk | hk | hk | hk | hk | hk | hk | hk
  all_goals
    first
    | rw [parted_no _ (by rw [hk]; rfl)]
    | rw [parted_lab _ (.inl hk), rlabels_eq _ hN (.inl hk)]
    | rw [parted_lab _ (.inr hk), rlabels_eq _ hN (.inr hk)]
    rw [unusedB_eq]
    unfold namedB countedB
    rw [hk, e1, e2, e3]
    generalize labelsB _ = p0
    generalize decide (0 < (n.l.length : Int)) = p1
    generalize nameP n.name = p2
    generalize tagP n.name = p3
    generalize decide (n.n_ = 0) = q0; generalize decide (n.n_ = 1) = q6; generalize decide (n.n_ < 1) = q7; generalize decide (7 < n.n_) = q8
    generalize decide (200 < (n.s.length : Int)) = q9
    generalize decide (n.s = []) = q1; generalize decide (n.a = 0) = q2; generalize decide (n.b = 0) = q3; generalize decide (n.c = 0) = q4; generalize decide (n.name = []) = q5
    generalize m_syntagmaref05_labels _ = zz
    clear hN h hb hk e1 e2 e3
    try clear p0
    try clear p1
    try clear p2
    try clear p3
    try clear q0
    try clear q1
    try clear q2
    try clear q3
    try clear q4
    try clear q5
    try clear q6
    try clear q7
    try clear q8
    try clear q9
    try clear zz
    try (obtain _ | zz := zz)
    all_goals
      try revert p0
      try revert p1
      try revert p2
      try revert p3
      try revert q0
      try revert q1
      try revert q2
      try revert q3
      try revert q4
      try revert q5
      try revert q6
      try revert q7
      try revert q8
      try revert q9
      try revert zz
      decide +kernel
theorem rright_eqB (n : ApiNode) (h : n.l.length * 40 ≤ 140737488355328) : m_syntagmaref05_right n = some (rightB n) := by
  unfold rightB
  cases hb : boundsB n with
  | false => exact rright_out n hb
  | true => rw [Bool.true_and]; exact rright_in n h hb
theorem right_nb (n : ApiNode) (h : rightB n = true) : NB n := by
  unfold rightB partedB at h
  unfold NB
  simp only [Bool.and_eq_true] at h
  have h2 := h.2.1.2
  split at h2
  · simp only [Bool.and_eq_true, decide_eq_true_eq] at h2
    omega
  · simp only [decide_eq_true_eq] at h2
    omega
end Go.Proofs.Ytnnjgbcojdnhhaa
set_option linter.unusedVariables false
set_option linter.unusedSimpArgs false
set_option maxRecDepth 100000
namespace Go.Proofs.Ytnnjgbcojdnhhaa
open Go.V
open Classical
def gd (l : List Int) (k : Int) : Int := (l[k.toNat]?).getD 0
theorem idxD {l : List Int} {k : Int} (h0 : 0 ≤ k) (h1 : k < (l.length : Int)) : idx l k = some (gd l k) := by
  have h2 : k.toNat < l.length := by omega
  obtain ⟨m, rfl⟩ : ∃ m : Nat, k = (m : Int) := ⟨k.toNat, by omega⟩
  rw [idx_nat]
  unfold gd
  rw [Int.toNat_natCast, List.getElem?_eq_getElem (by omega)]; rfl
def Bd (M : Int) (l : List Int) : Prop := ∀ x ∈ l, 0 ≤ x ∧ x ≤ M
theorem bd_gd {M : Int} {l : List Int} (h : Bd M l) (hM : 0 ≤ M) (k : Int) : 0 ≤ gd l k ∧ gd l k ≤ M := by
  unfold gd
  cases e : l[k.toNat]? with
  | none => exact ⟨by decide, hM⟩
  | some x => exact h x (List.mem_of_getElem? e)
theorem bd_set {M : Int} {l : List Int} (h : Bd M l) {y : Int} (hy : 0 ≤ y ∧ y ≤ M) (i : Nat) : Bd M (l.set i y) := by
  intro x hx
  rcases List.mem_or_eq_of_mem_set hx with hx | rfl
  · exact h x hx
  · exact hy
theorem bd_up {M N : Int} {l : List Int} (h : Bd M l) (hMN : M ≤ N) : Bd N l := fun x hx => ⟨(h x hx).1, Int.le_trans (h x hx).2 hMN⟩
def inc1 (c : List Int) (k : Int) : List Int := c.set k.toNat (gd c k + 1)
def incs (c ks : List Int) : List Int := ks.foldl inc1 c
theorem incs_len : ∀ (ks c : List Int), (incs c ks).length = c.length
  | [], _ => rfl
  | k :: ks, c => by
    show (incs (inc1 c k) ks).length = _
    rw [incs_len ks]; simp [inc1]
theorem incs_snoc (c ks : List Int) (k : Int) : incs c (ks ++ [k]) = inc1 (incs c ks) k := by
  unfold incs; rw [List.foldl_append]; rfl
theorem incs_bd {M : Int} (hM : 0 ≤ M) : ∀ (ks c : List Int), Bd M c → Bd (M + ks.length) (incs c ks)
  | [], c, h => by simpa [incs] using h
  | k :: ks, c, h => by
    have h1 := bd_gd h hM k
    have := incs_bd (M := M + 1) (by omega) ks (inc1 c k) (bd_set (bd_up h (by omega)) (by omega) _)
    show Bd _ (incs (inc1 c k) ks)
    refine bd_up this ?_
    simp only [List.length_cons]; omega
def mx (f : Int → Int) (b : Int) (ks : List Int) : Int := ks.foldl (fun b k => if f k > b then f k else b) b
theorem mx_snoc (f : Int → Int) (b : Int) (ks : List Int) (k : Int) : mx f b (ks ++ [k]) = if f k > mx f b ks then f k else mx f b ks := by
  unfold mx; rw [List.foldl_append]; rfl
theorem mx_bd {f : Int → Int} {M : Int} (hf : ∀ k, 0 ≤ f k ∧ f k ≤ M) : ∀ (ks : List Int) (b : Int), 0 ≤ b ∧ b ≤ M → 0 ≤ mx f b ks ∧ mx f b ks ≤ M
  | [], b, h => h
  | k :: ks, b, h => by
    show 0 ≤ mx f (if f k > b then f k else b) ks ∧ mx f (if f k > b then f k else b) ks ≤ M
    refine mx_bd hf ks _ ?_
    have := hf k
    split <;> omega
def cntU (L : List ApiNode) : Nat → List Int
  | 0 => List.replicate L.length 0
  | i + 1 => match L[i]? with | some n => incs (cntU L i) (kidsP n) | none => cntU L i
def depU (L : List ApiNode) : Nat → List Int
  | 0 => List.replicate L.length 0
  | i + 1 => match L[i]? with | some n => (depU L i).set i (mx (gd (depU L i)) (gd (depU L i) i) (kidsP n) + 1) | none => depU L i
theorem cntU_s {L : List ApiNode} {i : Nat} {n : ApiNode} (h : L[i]? = some n) : cntU L (i + 1) = incs (cntU L i) (kidsP n) := by rw [cntU, h]
theorem depU_s {L : List ApiNode} {i : Nat} {n : ApiNode} (h : L[i]? = some n) : depU L (i + 1) = (depU L i).set i (mx (gd (depU L i)) (gd (depU L i) i) (kidsP n) + 1) := by rw [depU, h]
theorem cntU_len (L : List ApiNode) : ∀ i, (cntU L i).length = L.length
  | 0 => by simp [cntU]
  | i + 1 => by
    rw [cntU]
    split
    · rw [incs_len, cntU_len L i]
    · exact cntU_len L i
theorem depU_len (L : List ApiNode) : ∀ i, (depU L i).length = L.length
  | 0 => by simp [depU]
  | i + 1 => by
    rw [depU]
    split
    · rw [List.length_set, depU_len L i]
    · exact depU_len L i
theorem bd_zero (n : Nat) : Bd 0 (List.replicate n (0 : Int)) := by
  intro x hx
  rw [List.mem_replicate] at hx
  omega
theorem cntU_bdp (L : List ApiNode) : ∀ i : Nat, (∀ (j : Nat) n, j < i → L[j]? = some n → NB n) → Bd (63 * i) (cntU L i)
  | 0, _ => by simpa [cntU] using bd_zero _
  | i + 1, hN => by
    have ih := cntU_bdp L i (fun j n hj => hN j n (by omega))
    rw [cntU]
    split
    · rename_i n hn
      have := kids_len n (hN i n (by omega) hn)
      exact bd_up (incs_bd (by omega) _ _ ih) (by omega)
    · exact bd_up ih (by omega)
theorem depU_bd (L : List ApiNode) : ∀ i : Nat, Bd (i : Int) (depU L i)
  | 0 => by simpa [depU] using bd_zero _
  | i + 1 => by
    have ih := depU_bd L i
    rw [depU]
    split
    · rename_i n hn
      have h1 := mx_bd (M := (i : Int)) (fun k => bd_gd ih (by omega) k) (kidsP n) (gd (depU L i) i) (bd_gd ih (by omega) _)
      exact bd_set (bd_up ih (by omega)) (by constructor <;> omega) _
    · exact bd_up ih (by omega)
def inL (i : Nat) (ks : List Int) : Prop := ∀ k ∈ ks, 0 ≤ k ∧ k < (i : Int)
def okN (L : List ApiNode) (i : Nat) (n : ApiNode) : Prop := rightB n = true ∧ inL i (kidsP n) ∧ (n.kind = 8 → ∃ m, L[n.a.toNat]? = some m ∧ m.kind = 5)
theorem kind8 {n : ApiNode} (h : n.kind = 8) : n.a ∈ kidsP n := by
  unfold kidsP
  rw [h]
  simp [abcN]
def allOk (L : List ApiNode) : Prop := ∀ (i : Nat) n, L[i]? = some n → okN L i n
theorem gd_self {l : List Int} {i : Nat} (h : i < l.length) (y : Int) : gd (l.set i y) (i : Int) = y := by
  unfold gd; rw [Int.toNat_natCast, List.getElem?_set_self h]; rfl
theorem gd_other {l : List Int} {i : Nat} {k : Int} (h : k.toNat ≠ i) (y : Int) : gd (l.set i y) k = gd l k := by
  unfold gd; rw [List.getElem?_set_ne (Ne.symm h)]
theorem set_gd {l : List Int} {i : Nat} (h : i < l.length) : l.set i (gd l (i : Int)) = l := by
  unfold gd
  rw [Int.toNat_natCast, List.getElem?_eq_getElem h]
  exact List.set_getElem_self h
theorem rmayK (i : Nat) (ks c d : List Int) (M : Int) (hM : 0 ≤ M ∧ M ≤ 100000) (hks : ks.length ≤ 63) (hi : i < c.length) (hd : d.length = c.length) (hb : Bd M c) :
    ∃ o, m_syntagmaref05_May_l2 (i : Int) ks FU (0, c, d) = some o ∧ ((inL i ks → o = Out.go (incs c ks, d.set i (mx (gd d) (gd d i) ks))) ∧ (¬ inL i ks → o = Out.ret 4)) := by
  refine loop_rng (φ := fun n j (s : List Int × List Int) => m_syntagmaref05_May_l2 (i : Int) ks n (j, s.1, s.2)) (l := ks) (fun j s => s = (incs c (ks.take j), d.set i (mx (gd d) (gd d i) (ks.take j))) ∧ inL i (ks.take j)) _ ?_ ?_ (by rw [FUv]; omega) (c, d) ⟨?_, fun k hk => by simp at hk⟩
  · rintro n j x s hx hj ⟨rfl, hI⟩
    simp only [m_syntagmaref05_May_l2]
    rw [decide_eq_true (show (j : Int) < ks.length by omega), cond_true, getI hx, Option.bind_some]
    by_cases hq : 0 ≤ x ∧ x < (i : Int)
    · have hbd := incs_bd hM.1 (ks.take j) c hb
      have hl : (ks.take j).length = j := by simp; omega
      rw [hl] at hbd
      have hg := bd_gd hbd (by omega) x
      have hxi : x.toNat ≠ i := by omega
      rw [decide_eq_false (by omega), cond_false, Option.bind_some, decide_eq_false (by omega), Option.bind_some, cond_false, Option.bind_some, idxD (l := incs c _) hq.1 (by rw [incs_len]; omega), Option.bind_some, grd_pos (by omega)]
      rw [Option.bind_some, idxD (k := (i : Int)) (by omega) (by rw [List.length_set]; omega), Option.bind_some, Option.bind_some, idxD (k := x) (by omega) (by rw [List.length_set]; omega), Option.bind_some, Option.bind_some, grd_pos (by omega)]
      refine .inl ⟨(_, _), rfl, ?_, ?_⟩
      · rw [take_snoc hx, incs_snoc, mx_snoc, gd_self (by omega), gd_other hxi, Int.toNat_natCast, List.set_set]; rfl
      · rw [take_snoc hx]
        intro k hk
        rcases List.mem_append.1 hk with hk | hk
        · exact hI k hk
        · rw [List.mem_singleton] at hk; rw [hk]; exact hq
    · have hq2 : ((bif (decide (x < 0)) then (some true) else ((some x).bind fun x6 => some (decide ((i : Int) ≤ x6)))) : Option Bool) = some true := by
        by_cases h0 : x < 0
        · rw [decide_eq_true h0]; rfl
        · rw [decide_eq_false h0, cond_false, Option.bind_some, decide_eq_true (p := (i : Int) ≤ x) (by omega)]
      rw [hq2, Option.bind_some, cond_true]
      exact .inr ⟨_, rfl, fun h => absurd (h x (List.mem_of_getElem? hx)) hq, fun _ => rfl⟩
  · rintro n s ⟨rfl, hI⟩
    simp only [m_syntagmaref05_May_l2]
    rw [decide_eq_false (by omega), cond_false]
    rw [List.take_length] at *
    exact ⟨_, rfl, fun _ => rfl, fun h => absurd hI h⟩
  · show (c, d) = (c, d.set i (gd d i))
    rw [set_gd (by omega)]
theorem rmayL (e : ApiExpr) (hl : e.l.length ≤ 700) (hS : ∀ n ∈ e.l, n.l.length * 40 ≤ 140737488355328) : ∃ o, m_syntagmaref05_May_l1 e FU (0, List.replicate e.l.length 0, List.replicate e.l.length 0) = some o ∧ ((allOk e.l → o = Out.go (cntU e.l e.l.length, depU e.l e.l.length)) ∧ (¬ allOk e.l → o = Out.ret 4)) := by
  refine loop_rng (φ := fun n j (s : List Int × List Int) => m_syntagmaref05_May_l1 e n (j, s.1, s.2)) (l := e.l) (fun i s => s = (cntU e.l i, depU e.l i) ∧ ∀ (j : Nat) n, j < i → e.l[j]? = some n → okN e.l j n) _ ?_ ?_ (by rw [FUv]; omega) (_, _) ⟨rfl, fun j n hj => by omega⟩
  · rintro m i n s hn hi ⟨rfl, hI⟩
    simp only [m_syntagmaref05_May_l1]
    rw [decide_eq_true (show (i : Int) < e.l.length by omega), cond_true, getI hn, Option.bind_some]
    rw [rright_eqB n (hS n (List.mem_of_getElem? hn)), Option.bind_some]
    by_cases hNn : NB n
    rotate_left
    · cases hr : rightB n with
      | false => exact .inr ⟨_, rfl, fun h => absurd (h i n hn).1 (by simp [hr]), fun _ => rfl⟩
      | true => exact absurd (right_nb n hr) hNn
    obtain ⟨o, h1, h2, h3⟩ := rmayK i (kidsP n) (cntU e.l i) (depU e.l i) (63 * i) (by omega) (kids_len n hNn) (by rw [cntU_len]; omega) (by rw [cntU_len, depU_len]) (cntU_bdp _ i (fun j m hj hm => right_nb m (hI j m hj hm).1))
    cases hr : rightB n with
    | false =>
      exact .inr ⟨_, rfl, fun h => absurd (h i n hn).1 (by simp [hr]), fun _ => rfl⟩
    | true =>
      rw [Bool.not_true, cond_false, Option.bind_some, rkids_eq n hNn, Option.bind_some, h1, Option.bind_some]
      by_cases hq : inL i (kidsP n)
      · rw [h2 hq, go_on]
        have hdl : i < (depU e.l i).length := by rw [depU_len]; omega
        have hb := mx_bd (M := (i : Int)) (fun k => bd_gd (depU_bd e.l i) (by omega) k) (kidsP n) (gd (depU e.l i) i) (bd_gd (depU_bd e.l i) (by omega) _)
        simp only
        rw [idxD (k := (i : Int)) (by omega) (by rw [List.length_set]; omega), Option.bind_some, gd_self hdl, grd_pos (by omega), Option.bind_some, Option.bind_some]
        have hgo : ∀ (hok : n.kind = 8 → ∃ m, e.l[n.a.toNat]? = some m ∧ m.kind = 5), ((incs (cntU e.l i) (kidsP n), ((depU e.l i).set i (mx (gd (depU e.l i)) (gd (depU e.l i) i) (kidsP n))).set (i : Int).toNat (mx (gd (depU e.l i)) (gd (depU e.l i) i) (kidsP n) + 1)) : List Int × List Int) = (cntU e.l (i + 1), depU e.l (i + 1)) ∧ ∀ (j : Nat) n, j < i + 1 → e.l[j]? = some n → okN e.l j n := by
          intro hok
          refine ⟨by rw [cntU_s hn, depU_s hn, Int.toNat_natCast, List.set_set], ?_⟩
          intro j x hj hx
          by_cases hji : j = i
          · subst hji
            rw [hn] at hx
            rw [← Option.some.inj hx]
            exact ⟨hr, hq, hok⟩
          · exact hI j x (by omega) hx
        by_cases h8 : n.kind = 8
        · have ha := hq n.a (kind8 h8)
          have hal : n.a.toNat < e.l.length := by omega
          rw [decide_eq_true h8, cond_true, Option.bind_some, show idx e.l n.a = some e.l[n.a.toNat] by
            obtain ⟨m, hm⟩ : ∃ m : Nat, n.a = (m : Int) := ⟨n.a.toNat, by omega⟩
            simp only [hm, Int.toNat_natCast]
            rw [idx_nat, List.getElem?_eq_getElem], Option.bind_some]
          by_cases h5 : e.l[n.a.toNat].kind = 5
          · rw [decide_eq_true h5, Bool.not_true, cond_false, grd_pos (by omega)]
            exact .inl ⟨(_, _), rfl, hgo fun _ => ⟨_, List.getElem?_eq_getElem hal, h5⟩⟩
          · rw [decide_eq_false h5, Bool.not_false, cond_true]
            refine .inr ⟨_, rfl, fun h => ?_, fun _ => rfl⟩
            obtain ⟨m, hm, hm5⟩ := (h i n hn).2.2 h8
            rw [List.getElem?_eq_getElem hal] at hm
            exact absurd (by rw [Option.some.inj hm]; exact hm5) h5
        · rw [decide_eq_false h8, cond_false, grd_pos (by omega)]
          exact .inl ⟨(_, _), rfl, hgo fun h => absurd h h8⟩
      · rw [h3 hq]
        exact .inr ⟨_, rfl, fun h => absurd (h i n hn).2.1 hq, fun _ => rfl⟩
  · rintro m s ⟨rfl, hI⟩
    simp only [m_syntagmaref05_May_l1]
    rw [decide_eq_false (by omega), cond_false]
    exact ⟨_, rfl, fun _ => rfl, fun h => absurd (fun i n hn => hI i n (getLt hn) hn) h⟩
def odd1 (L : List ApiNode) : Prop := ∃ c ∈ (cntU L L.length).take (L.length - 1), c ≠ 1
noncomputable def mayT (L : List ApiNode) : Int := if L.length = 0 ∨ 600 < L.length then 8 else if ¬ allOk L then 4 else if odd1 L then 4 else if 100 < gd (depU L L.length) ((L.length : Int) - 1) then 6 else 0
theorem rmay_eqB (e : ApiExpr) (hl : e.l.length ≤ 701) (hS : ∀ n ∈ e.l, n.l.length * 40 ≤ 140737488355328) : m_syntagmaref05_May e = some (mayT e.l) := by
  unfold m_syntagmaref05_May mayT
  by_cases h0 : e.l.length = 0 ∨ 600 < e.l.length
  · rw [if_pos h0, show (decide ((e.l.length : Int) < 1) || decide (600 < (e.l.length : Int))) = true by rw [Bool.or_eq_true, decide_eq_true_eq, decide_eq_true_eq]; omega, cond_true]
  rw [if_neg h0, decide_eq_false (by omega), decide_eq_false (by omega), Bool.or_false, cond_false, grd_pos (by omega), grd_pos (by omega), grd_pos (by omega), grd_pos (by omega), Int.toNat_natCast]
  obtain ⟨o, h1, h2, h3⟩ := rmayL e (by omega) hS
  rw [h1, Option.bind_some]
  by_cases hok : allOk e.l
  · rw [h2 hok, go_on, if_neg (fun h => h hok)]
    have hL : ((cntU e.l e.l.length).take (e.l.length - 1)).length = e.l.length - 1 := by rw [List.length_take, cntU_len]; omega
    show (m_syntagmaref05_May_l3 e (cntU e.l e.l.length) FU 0).bind _ = _
    rw [loop_any (φ := m_syntagmaref05_May_l3 e (cntU e.l e.l.length)) (l := (cntU e.l e.l.length).take (e.l.length - 1)) 4 (fun _ c => c ≠ 1) ?_ ?_ (by rw [FUv, hL]; omega)]
    · rw [Option.bind_some]
      by_cases ho : odd1 e.l
      · rw [if_pos ho, if_pos]
        · rfl
        · obtain ⟨c, hc, hne⟩ := ho
          obtain ⟨i, hi, hx⟩ := List.getElem_of_mem hc
          exact ⟨i, c, by rw [← hx]; exact List.getElem?_eq_getElem hi, hne⟩
      · rw [if_neg ho, if_neg, go_on, grd_pos (by omega), idxD (by omega) (by rw [depU_len]; omega), Option.bind_some]
        · by_cases hd : 100 < gd (depU e.l e.l.length) ((e.l.length : Int) - 1)
          · rw [if_pos hd, decide_eq_true hd, cond_true]
          · rw [if_neg hd, decide_eq_false hd, cond_false]
        · rintro ⟨i, c, hx, hne⟩
          exact ho ⟨c, List.mem_of_getElem? hx, hne⟩
    · intro n i x hx hi
      simp only [m_syntagmaref05_May_l3]
      rw [hL] at hi
      have hx2 : (cntU e.l e.l.length)[i]? = some x := by
        rw [List.getElem?_take, if_pos hi] at hx
        exact hx
      rw [grd_pos (by omega), decide_eq_true (show (i : Int) < (e.l.length : Int) - 1 by omega), cond_true, getI hx2, Option.bind_some]
      exact ⟨fun hq => by rw [decide_eq_true (Classical.not_not.1 hq), Bool.not_true, cond_false, grd_pos (by omega)], fun hq => by rw [decide_eq_false hq, Bool.not_false, cond_true]⟩
    · intro n
      simp only [m_syntagmaref05_May_l3]
      rw [grd_pos (by omega), decide_eq_false (by omega), cond_false]
  · rw [h3 hok, if_pos hok]; rfl
theorem mayT_ok {L : List ApiNode} (h : mayT L = 0) : 1 ≤ L.length ∧ L.length ≤ 600 ∧ allOk L := by
  unfold mayT at h
  by_cases h0 : L.length = 0 ∨ 600 < L.length
  · rw [if_pos h0] at h; omega
  · rw [if_neg h0] at h
    by_cases h1 : allOk L
    · exact ⟨by omega, by omega, h1⟩
    · rw [if_pos h1] at h; omega
end Go.Proofs.Ytnnjgbcojdnhhaa
set_option linter.unusedVariables false
set_option linter.unusedSimpArgs false
set_option maxRecDepth 100000
namespace Go.Proofs.Ytnnjgbcojdnhhaa
open Go.V
open Classical
theorem field_eqv (a b : ApiField) : ApiField.eqv a b = true ↔ a = b := by
  obtain ⟨a1, a2, a3⟩ := a
  obtain ⟨b1, b2, b3⟩ := b
  unfold ApiField.eqv
  simp
def sameN (a b : ApiNode) : Prop := a.kind = b.kind ∧ a.a = b.a ∧ a.b = b.b ∧ a.c = b.c ∧ a.n_ = b.n_ ∧ a.name = b.name ∧ a.s = b.s ∧ a.l = b.l
theorem getI2 {α : Type} {l : List α} {i : Nat} (h : i < l.length) : ∃ x, l[i]? = some x := ⟨l[i], List.getElem?_eq_getElem h⟩
theorem list_same {α : Type} {a b : List α} (hl : a.length = b.length) : (∀ (i : Nat) x, a[i]? = some x → ∃ y, b[i]? = some y ∧ x = y) ↔ a = b := by
  constructor
  · intro h
    refine List.ext_getElem? fun i => ?_
    by_cases hi : i < a.length
    · obtain ⟨y, h1, h2⟩ := h i a[i] (List.getElem?_eq_getElem hi)
      rw [h1, ← h2, List.getElem?_eq_getElem hi]
    · rw [List.getElem?_eq_none (by omega), List.getElem?_eq_none (by omega)]
  · rintro rfl i x hx
    exact ⟨x, hx, rfl⟩
theorem rsameNode_eq (a b : ApiNode) (h : NB a) : m_syntagmaref05_SameNode a b = some (decide (sameN a b)) := by
  unfold NB at h
  unfold m_syntagmaref05_SameNode
  by_cases hc : a.kind = b.kind ∧ a.a = b.a ∧ a.b = b.b ∧ a.c = b.c ∧ a.n_ = b.n_ ∧ a.name = b.name ∧ a.s = b.s ∧ a.l.length = b.l.length
  · obtain ⟨h1, h2, h3, h4, h5, h6, h7, hl⟩ := hc
    rw [decide_eq_true h1, decide_eq_true h2, decide_eq_true h3, decide_eq_true h4, decide_eq_true h5, decide_eq_true h6, decide_eq_true h7, decide_eq_true (show (a.l.length : Int) = b.l.length by omega)]
    show (m_syntagmaref05_SameNode_l1 a b FU 0).bind _ = _
    refine bnd (loop_all (φ := m_syntagmaref05_SameNode_l1 a b) (l := a.l) false (fun i x => ∃ y, b.l[i]? = some y ∧ x = y) ?_ ?_ (by rw [FUv]; omega)) ?_
    · intro n i x hx hi
      obtain ⟨y, hy⟩ := getI2 (l := b.l) (i := i) (by omega)
      simp only [m_syntagmaref05_SameNode_l1]
      rw [decide_eq_true (show (i : Int) < a.l.length by omega), cond_true, getI hx, Option.bind_some, getI hy, Option.bind_some]
      constructor
      · rintro ⟨y2, h1, h2⟩
        rw [hy] at h1
        rw [(field_eqv x y).2 (by rw [h2, Option.some.inj h1]), Bool.not_true, cond_false, grd_pos (by omega)]
      · intro h2
        have : ApiField.eqv x y = false := by
          rw [← Bool.not_eq_true, field_eqv]
          exact fun h3 => h2 ⟨y, hy, h3⟩
        rw [this, Bool.not_false, cond_true]
    · intro n
      simp only [m_syntagmaref05_SameNode_l1]
      rw [decide_eq_false (by omega), cond_false]
    · by_cases ha : a.l = b.l
      · rw [if_pos ((list_same hl).2 ha), decide_eq_true (show sameN a b from ⟨h1, h2, h3, h4, h5, h6, h7, ha⟩)]; rfl
      · rw [if_neg (fun h => ha ((list_same hl).1 h)), decide_eq_false (fun h : sameN a b => ha h.2.2.2.2.2.2.2)]; rfl
  · rw [decide_eq_false (p := sameN a b) (fun h => hc ⟨h.1, h.2.1, h.2.2.1, h.2.2.2.1, h.2.2.2.2.1, h.2.2.2.2.2.1, h.2.2.2.2.2.2.1, by rw [h.2.2.2.2.2.2.2]⟩)]
    rw [show ((((((((!decide (a.kind = b.kind)) || (!decide (a.a = b.a))) || (!decide (a.b = b.b))) || (!decide (a.c = b.c))) || (!decide (a.n_ = b.n_))) || (!decide ((a.name : List UInt8) = b.name))) || (!decide ((a.s : List UInt8) = b.s))) || (!decide ((a.l.length : Int) = (b.l.length : Int)))) = true by
      rw [← Bool.not_eq_false]
      intro h
      apply hc
      simp only [Bool.or_eq_false_iff, Bool.not_eq_false', decide_eq_true_eq] at h
      obtain ⟨⟨⟨⟨⟨⟨⟨h1, h2⟩, h3⟩, h4⟩, h5⟩, h6⟩, h7⟩, h8⟩ := h
      exact ⟨h1, h2, h3, h4, h5, h6, h7, by omega⟩]
    rfl
def sameL (a b : List ApiNode) : Prop := a.length = b.length ∧ ∀ (i : Nat) x, a[i]? = some x → ∃ y, b[i]? = some y ∧ sameN x y
theorem sameL_refl (a : List ApiNode) : sameL a a := ⟨rfl, fun _ x h => ⟨x, h, rfl, rfl, rfl, rfl, rfl, rfl, rfl, rfl⟩⟩
theorem sameList_eqB (a b : ApiExpr) (h : a.l.length ≤ 1000000) (hN : ∀ n ∈ a.l, NB n) : m_syntagmaref05_SameList a b = some (decide (sameL a.l b.l)) := by
  unfold m_syntagmaref05_SameList
  by_cases hl : a.l.length = b.l.length
  · rw [decide_eq_true (show (a.l.length : Int) = b.l.length by omega), Bool.not_true, cond_false]
    refine bnd (loop_all (φ := m_syntagmaref05_SameList_l1 a b) (l := a.l) false (fun i x => ∃ y, b.l[i]? = some y ∧ sameN x y) ?_ ?_ (by rw [FUv]; omega)) ?_
    · intro n i x hx hi
      obtain ⟨y, hy⟩ := getI2 (l := b.l) (i := i) (by omega)
      simp only [m_syntagmaref05_SameList_l1]
      rw [decide_eq_true (show (i : Int) < a.l.length by omega), cond_true, getI hx, Option.bind_some, getI hy, Option.bind_some]
      rw [rsameNode_eq x y (hN x (List.mem_of_getElem? hx)), Option.bind_some]
      constructor
      · rintro ⟨y2, h1, h2⟩
        rw [hy] at h1
        rw [decide_eq_true (show sameN x y by rw [Option.some.inj h1]; exact h2), Bool.not_true, cond_false, grd_pos (by omega)]
      · intro h2
        rw [decide_eq_false (fun h3 => h2 ⟨y, hy, h3⟩), Bool.not_false, cond_true]
    · intro n
      simp only [m_syntagmaref05_SameList_l1]
      rw [decide_eq_false (by omega), cond_false]
    · by_cases ha : sameL a.l b.l
      · rw [if_pos ha.2, decide_eq_true ha]; rfl
      · rw [if_neg (fun h => ha ⟨hl, h⟩), decide_eq_false ha]; rfl
  · rw [decide_eq_false (show ¬ (a.l.length : Int) = b.l.length by omega), Bool.not_false, cond_true, decide_eq_false (fun h : sameL a.l b.l => hl h.1)]
def relF (f : ApiField) (k : Int) : ApiField := ⟨f.name, f.var, k⟩
def withP (n : ApiNode) (ks : List Int) : ApiNode := ⟨n.kind, ((ks.take (abcN n.kind))[0]?).getD 0, ((ks.take (abcN n.kind))[1]?).getD 0, ((ks.take (abcN n.kind))[2]?).getD 0, n.n_, n.name, n.s, if partsB n.kind = true then List.zipWith relF n.l (ks.drop (abcN n.kind)) else [], n.pos⟩
theorem zip_snoc {α β γ : Type} (f : α → β → γ) : ∀ (i : Nat) (l : List α) (k : List β) (x : α) (y : β), l[i]? = some x → k[i]? = some y → List.zipWith f (l.take (i + 1)) k = List.zipWith f (l.take i) k ++ [f x y]
  | _, [], _, _, _, h, _ => by simp at h
  | _, _ :: _, [], _, _, _, h => by simp at h
  | 0, a :: l, b :: k, x, y, h1, h2 => by
    simp only [List.getElem?_cons_zero, Option.some.injEq] at h1 h2
    subst h1 h2
    simp
  | i + 1, a :: l, b :: k, x, y, h1, h2 => by
    simp only [List.getElem?_cons_succ] at h1 h2
    have := zip_snoc f i l k x y h1 h2
    rw [List.take_succ_cons, List.take_succ_cons, List.zipWith_cons_cons, List.zipWith_cons_cons, this]; rfl
theorem withL (ks : List Int) (m : Nat) (p : Bool) (z : List ApiField) (hz : z.length ≤ 60) (hm : m ≤ 3) (hl : ks.length = m + z.length) (a1 a2 a3 a4 a5 : Int) (a6 a7 : List UInt8) (a8 : Int) :
    m_tree_with_l1 ks ⟨(m : Int), p⟩ z FU (0, z, a1, a2, a3, a4, a5, a6, a7, a8) = some (List.zipWith relF z (ks.drop m), a1, a2, a3, a4, a5, a6, a7, a8) := by
  obtain ⟨o, h1, h2⟩ := loop_rng (φ := fun n i s => m_tree_with_l1 ks ⟨(m : Int), p⟩ z n (i, s, a1, a2, a3, a4, a5, a6, a7, a8)) (l := z) (fun i s => s = List.zipWith relF (z.take i) (ks.drop m) ++ z.drop i) (fun o => o = (List.zipWith relF z (ks.drop m), a1, a2, a3, a4, a5, a6, a7, a8)) (by
    rintro n i x s hx hi rfl
    have hzl : (List.zipWith relF (z.take i) (ks.drop m)).length = i := by
      rw [List.length_zipWith, List.length_take, List.length_drop]; omega
    obtain ⟨y, hy⟩ := getI2 (l := ks) (i := m + i) (by omega)
    have hd : z.drop i = x :: z.drop (i + 1) := by
      obtain ⟨hi2, hx2⟩ := List.getElem?_eq_some_iff.1 hx
      rw [List.drop_eq_getElem_cons hi2, hx2]
    have hsi : (List.zipWith relF (z.take i) (ks.drop m) ++ z.drop i)[i]? = some x := by
      rw [List.getElem?_append_right (by omega), hzl, Nat.sub_self, hd]; rfl
    simp only [m_tree_with_l1]
    rw [decide_eq_true (show (i : Int) < z.length by omega), cond_true, grd_pos (by omega), decide_eq_true (show (m : Int) + (i : Int) < ks.length by omega), cond_true, show ((m : Int) + (i : Int)) = ((m + i : Nat) : Int) by omega, getI hy, Option.bind_some, getI hsi, Option.bind_some, grd_pos (by omega)]
    refine .inl ⟨_, rfl, ?_⟩
    rw [Int.toNat_natCast, List.set_append_right _ _ (by omega), hzl, Nat.sub_self, hd, List.set_cons_zero, zip_snoc relF i z (ks.drop m) x y hx (by rw [List.getElem?_drop]; exact hy), List.append_assoc]
    rfl) (by
    rintro n s rfl
    simp only [m_tree_with_l1]
    rw [decide_eq_false (by omega), cond_false, List.take_length, List.drop_length, List.append_nil]
    exact ⟨_, rfl, rfl⟩) (by rw [FUv]; omega) z (by simp)
  rw [h1, h2]
def noParts (n : ApiNode) : Prop := partsB n.kind = false → n.l = []
theorem kidsP_len2 (n : ApiNode) : (kidsP n).length = abcN n.kind + (if partsB n.kind = true then n.l.length else 0) := by
  unfold kidsP
  have := abc_le n.kind
  rw [List.length_append, List.length_take]
  cases h : partsB n.kind with
  | false => rw [if_neg (by decide), if_neg (by decide)]; simp; omega
  | true => rw [if_pos rfl, if_pos rfl]; simp; omega
theorem with_eqB (n : ApiNode) (ks : List Int) (h : NB n) (hk : ks.length = (kidsP n).length) : m_tree_with n ks = some (withP n ks) := by
  rw [kidsP_len2 n] at hk
  have h3 := abc_le n.kind
  unfold NB at h
  unfold m_tree_with withP
  rw [shape_eq, Option.bind_some]
  simp only
  rw [if_neg (by omega), sli_take (by omega), Option.bind_some]
  cases hb : partsB n.kind with
  | false =>
    rw [hb, if_neg (by decide)] at hk
    rw [Bool.not_false, cond_true, Option.bind_some]
    simp only
    rw [grd_pos (by simp), withL ks (abcN n.kind) false [] (by simp) h3 (by simpa using hk), Option.bind_some, if_neg (by decide)]
    simp
  | true =>
    rw [hb, if_pos rfl] at hk
    rw [Bool.not_true, cond_false, Option.bind_some]
    simp only
    rw [grd_pos (by omega), withL ks (abcN n.kind) true n.l h h3 hk, Option.bind_some]
    all_goals rfl
theorem with_eq (n : ApiNode) (ks : List Int) (h : NB n) (hp : noParts n) (hk : ks.length = (kidsP n).length) : m_tree_with n ks = some (withP n ks) := with_eqB n ks h hk
theorem rwithL (n : ApiNode) (ks : List Int) (m : Nat) (hz : n.l.length ≤ 60) (hm : m ≤ 3) (hl : ks.length = m + n.l.length) (a1 a2 a3 a4 a5 : Int) (a6 a7 : List UInt8) (a8 : Int) :
    m_syntagmaref05_with_l1 n ks FU (0, [], a1, a2, a3, a4, a5, a6, a7, a8) = some ((m : Int), List.zipWith relF n.l (ks.drop m), a1, a2, a3, a4, a5, a6, a7, a8) := by
  have em : ((ks.length : Int) - (n.l.length : Int)) = (m : Int) := by omega
  obtain ⟨o, h1, h2⟩ := loop_rng (φ := fun f i s => m_syntagmaref05_with_l1 n ks f (i, s, a1, a2, a3, a4, a5, a6, a7, a8)) (l := n.l) (fun i s => s = List.zipWith relF (n.l.take i) (ks.drop m)) (fun o => o = ((m : Int), List.zipWith relF n.l (ks.drop m), a1, a2, a3, a4, a5, a6, a7, a8)) (by
    rintro f i x s hx hi rfl
    have hzl : (List.zipWith relF (n.l.take i) (ks.drop m)).length = i := by
      rw [List.length_zipWith, List.length_take, List.length_drop]; omega
    obtain ⟨y, hy⟩ := getI2 (l := ks) (i := m + i) (by omega)
    simp only [m_syntagmaref05_with_l1]
    rw [em, decide_eq_true (show (i : Int) < n.l.length by omega), cond_true, getI hx, Option.bind_some, grd_pos (by omega), show ((m : Int) + (i : Int)) = ((m + i : Nat) : Int) by omega, getI hy, Option.bind_some, grd_pos (by rw [hzl]; simp only [List.length_cons, List.length_nil]; omega), grd_pos (by omega)]
    refine .inl ⟨_, rfl, ?_⟩
    rw [zip_snoc relF i n.l (ks.drop m) x y hx (by rw [List.getElem?_drop]; exact hy)]
    rfl) (by
    rintro f s rfl
    simp only [m_syntagmaref05_with_l1]
    rw [em, decide_eq_false (by omega), cond_false, List.take_length]
    exact ⟨_, rfl, rfl⟩) (by rw [FUv]; omega) [] (by simp)
  rw [h1, h2]
theorem wtail (n : ApiNode) (ks : List Int) (m : Nat) (hm : m ≤ 3) (hl : m ≤ ks.length) (l1 : List ApiField) :
    ((bif (decide (0 < (m : Int))) then
    (idx ks 0).bind fun x3 =>
    some (l1, n.kind, x3, 0, 0, n.n_, n.name, n.s, n.pos)
  else
    some (l1, n.kind, 0, 0, 0, n.n_, n.name, n.s, n.pos) : Option ((List ApiField) × Int × Int × Int × Int × Int × (List UInt8) × (List UInt8) × Int)).bind fun (l3, z17, z18, z19, z20, z21, z22, z23, z24) =>
  (bif (decide (1 < (m : Int))) then
    (idx ks 1).bind fun x4 =>
    some (l3, z17, z18, x4, z20, z21, z22, z23, z24)
  else
    some (l3, z17, z18, z19, z20, z21, z22, z23, z24) : Option ((List ApiField) × Int × Int × Int × Int × Int × (List UInt8) × (List UInt8) × Int)).bind fun (l4, z25, z26, z27, z28, z29, z30, z31, z32) =>
  bif (decide (2 < (m : Int))) then
    (idx ks 2).bind fun x5 =>
    some (⟨z25, z26, z27, x5, z29, z30, z31, l4, z32⟩ : ApiNode)
  else
    some (⟨z25, z26, z27, z28, z29, z30, z31, l4, z32⟩ : ApiNode)) = some ⟨n.kind, ((ks.take m)[0]?).getD 0, ((ks.take m)[1]?).getD 0, ((ks.take m)[2]?).getD 0, n.n_, n.name, n.s, l1, n.pos⟩ := by
  match m, ks, hm, hl with
  | 0, ks, _, _ => rfl
  | 1, k0 :: ks, _, _ => rfl
  | 2, k0 :: k1 :: ks, _, _ => rfl
  | 3, k0 :: k1 :: k2 :: ks, _, _ => rfl
theorem rwith_eqB (n : ApiNode) (ks : List Int) (h : NB n) (hk : ks.length = (kidsP n).length) : m_syntagmaref05_with n ks = some (withP n ks) := by
  rw [kidsP_len2 n] at hk
  have h3 := abc_le n.kind
  unfold NB at h
  unfold m_syntagmaref05_with
  rw [show (decide (n.kind = 11) || decide (n.kind = 14)) = partsB n.kind from rfl]
  cases hb : partsB n.kind with
  | false =>
    rw [hb, if_neg (by decide)] at hk
    simp only [Nat.add_zero] at hk
    rw [cond_false, Option.bind_some]
    simp only
    rw [hk]
    refine (wtail n ks (abcN n.kind) h3 (by omega) []).trans ?_
    unfold withP
    rw [if_neg (by rw [hb]; decide)]
  | true =>
    rw [hb, if_pos rfl] at hk
    rw [cond_true, grd_pos (by omega), rwithL n ks (abcN n.kind) h h3 hk, Option.bind_some]
    simp only
    refine (wtail n ks (abcN n.kind) h3 (by omega) _).trans ?_
    unfold withP
    rw [if_pos hb]
theorem rwith_eq (n : ApiNode) (ks : List Int) (h : NB n) (hp : noParts n) (hk : ks.length = (kidsP n).length) : m_syntagmaref05_with n ks = some (withP n ks) := rwith_eqB n ks h hk
def postF (L : List ApiNode) : Nat → Int → List Int
  | 0, _ => []
  | f + 1, i => match L[i.toNat]? with | some n => (kidsP n).flatMap (postF L f) ++ [i] | none => []
def post (L : List ApiNode) (i : Int) : List Int := postF L (i.toNat + 1) i
end Go.Proofs.Ytnnjgbcojdnhhaa
set_option linter.unusedVariables false
set_option linter.unusedSimpArgs false
set_option maxRecDepth 100000
namespace Go.Proofs.Ytnnjgbcojdnhhaa
open Go.V
open Classical
theorem noParts_of {n : ApiNode} (h : rightB n = true) : noParts n := by
  intro hp
  unfold rightB at h
  simp only [Bool.and_eq_true] at h
  have h2 := h.2.1.2
  rw [parted_no n hp] at h2
  simp only [Bool.not_eq_true', decide_eq_false_iff_not] at h2
  exact List.length_eq_zero_iff.1 (by omega)
end Go.Proofs.Ytnnjgbcojdnhhaa
set_option linter.unusedVariables false
set_option linter.unusedSimpArgs false
set_option maxRecDepth 100000
namespace Go.Proofs.Ytnnjgbcojdnhhaa
open Go.V
open Classical
theorem works_eq : m_syntagmalaw05_works = some true := by decide +kernel
end Go.Proofs.Ytnnjgbcojdnhhaa
set_option linter.unusedVariables false
set_option linter.unusedSimpArgs false
set_option maxRecDepth 100000
namespace Go.Proofs.Ytnnjgbcojdnhhaa
open Go.V
open Classical
theorem withP_nb (n : ApiNode) (ks : List Int) (h : NB n) : NB (withP n ks) := by
  unfold NB at *
  unfold withP
  simp only
  split
  · rw [List.length_zipWith]; omega
  · simp
def sh (s : Nat) (n : ApiNode) : ApiNode := withP n ((kidsP n).map (· + (s : Int)))
theorem joinK (s : List ApiNode) (l : List Int) (hl : l.length ≤ 63) (hs : s.length ≤ 100000) (hb : ∀ x ∈ l, 0 ≤ x ∧ x ≤ 100000) : m_tree_Join_l3 s l FU (0, l) = some (l.map (· + (s.length : Int))) := by
  obtain ⟨r, h1, h2⟩ := loop_rng (φ := fun n j t => m_tree_Join_l3 s l n (j, t)) (l := l) (fun j t => t = (l.take j).map (· + (s.length : Int)) ++ l.drop j) (fun r => r = l.map (· + (s.length : Int))) (by
    rintro n j x t hx hj rfl
    have hd : l.drop j = x :: l.drop (j + 1) := by
      obtain ⟨hi2, hx2⟩ := List.getElem?_eq_some_iff.1 hx
      rw [List.drop_eq_getElem_cons hi2, hx2]
    have hzl : ((l.take j).map (· + (s.length : Int))).length = j := by simp; omega
    have hsi : ((l.take j).map (· + (s.length : Int)) ++ l.drop j)[j]? = some x := by
      rw [List.getElem?_append_right (by omega), hzl, Nat.sub_self, hd]; rfl
    have hx2 := hb x (List.mem_of_getElem? hx)
    simp only [m_tree_Join_l3]
    rw [decide_eq_true (show (j : Int) < l.length by omega), cond_true, getI hsi, Option.bind_some, grd_pos (by omega), Option.bind_some, grd_pos (by omega)]
    refine .inl ⟨_, rfl, ?_⟩
    rw [Int.toNat_natCast, List.set_append_right _ _ (by omega), hzl, Nat.sub_self, hd, List.set_cons_zero, take_snoc hx, List.map_append, List.append_assoc]
    rfl) (by
    rintro n t rfl
    simp only [m_tree_Join_l3]
    rw [decide_eq_false (by omega), cond_false, List.take_length, List.drop_length, List.append_nil]
    exact ⟨_, rfl, rfl⟩) (by rw [FUv]; omega) l (by simp)
  rw [h1, h2]
structure NodeOk (n : ApiNode) : Prop where
  nb : NB n
  np : noParts n
  kb : ∀ k ∈ kidsP n, 0 ≤ k ∧ k ≤ 100000
theorem joinL (s : List ApiNode) (x : ApiExpr) (hs : s.length + x.l.length ≤ 100000) (hx : ∀ n ∈ x.l, NodeOk n) : m_tree_Join_l2 s x FU (0, s) = some (s ++ x.l.map (sh s.length)) := by
  obtain ⟨r, h1, h2⟩ := loop_rng (φ := fun n j t => m_tree_Join_l2 s x n (j, t)) (l := x.l) (fun j t => t = s ++ (x.l.take j).map (sh s.length)) (fun r => r = s ++ x.l.map (sh s.length)) (by
    rintro f j n t hn hj rfl
    have hk := hx n (List.mem_of_getElem? hn)
    have hzl : ((x.l.take j).map (sh s.length)).length = j := by simp; omega
    simp only [m_tree_Join_l2]
    rw [decide_eq_true (show (j : Int) < x.l.length by omega), cond_true, getI hn, Option.bind_some]
    rw [show m_tree_KidsO (⟨n.kind, n.a, n.b, n.c, n.n_, n.name, n.s, n.l, n.pos⟩ : ApiNode) = m_tree_KidsO n from rfl, kidsO_eq n hk.nb, Option.bind_some, joinK s (kidsP n) (kids_len n hk.nb) (by omega) hk.kb, Option.bind_some]
    rw [show m_tree_with (⟨n.kind, n.a, n.b, n.c, n.n_, n.name, n.s, n.l, n.pos⟩ : ApiNode) ((kidsP n).map (· + (s.length : Int))) = m_tree_with n ((kidsP n).map (· + (s.length : Int))) from rfl, with_eq n _ hk.nb hk.np (by simp), Option.bind_some, grd_pos (by rw [List.length_append, hzl]; simp only [List.length_cons, List.length_nil]; omega), grd_pos (by omega)]
    refine .inl ⟨_, rfl, ?_⟩
    rw [take_snoc hn, List.map_append, List.append_assoc]
    rfl) (by
    rintro n t rfl
    simp only [m_tree_Join_l2]
    rw [decide_eq_false (by omega), cond_false, List.take_length]
    exact ⟨_, rfl, rfl⟩) (by rw [FUv]; omega) s (by simp)
  rw [h1, h2]
end Go.Proofs.Ytnnjgbcojdnhhaa
set_option linter.unusedVariables false
set_option linter.unusedSimpArgs false
set_option maxRecDepth 100000
namespace Go.Proofs.Ytnnjgbcojdnhhaa
open Go.V
open Classical
def stepJ (st : List Int × List ApiNode) (x : ApiExpr) : List Int × List ApiNode := (st.1 ++ [(((st.2 ++ x.l.map (sh st.2.length)).length : Nat) : Int) - 1], st.2 ++ x.l.map (sh st.2.length))
def foldJ (xs : List ApiExpr) : List Int × List ApiNode := xs.foldl stepJ ([], [])
def TOk (x : ApiExpr) : Prop := x.l.length ≤ 600 ∧ ∀ n ∈ x.l, NodeOk n
theorem foldJ_len (xs : List ApiExpr) : ∀ st, (∀ x ∈ xs, TOk x) → (xs.foldl stepJ st).1.length = st.1.length + xs.length ∧ (xs.foldl stepJ st).2.length ≤ st.2.length + 600 * xs.length := by
  induction xs with
  | nil => intro st _; simp
  | cons x xs ih =>
    intro st h
    have h1 := (h x (List.mem_cons_self ..)).1
    obtain ⟨a, b⟩ := ih (stepJ st x) (fun y hy => h y (List.mem_cons_of_mem _ hy))
    rw [List.foldl_cons]
    refine ⟨?_, ?_⟩
    · rw [a]; unfold stepJ; simp only [List.length_append, List.length_cons, List.length_nil]; omega
    · refine Nat.le_trans b ?_
      unfold stepJ; simp only [List.length_append, List.length_map, List.length_cons]; omega
theorem foldJ_nb (xs : List ApiExpr) : ∀ st : List Int × List ApiNode, (∀ x ∈ xs, TOk x) → (∀ n ∈ st.2, NB n) → ∀ n ∈ (xs.foldl stepJ st).2, NB n := by
  induction xs with
  | nil => intro st _ h; exact h
  | cons x xs ih =>
    intro st h hs
    rw [List.foldl_cons]
    refine ih _ (fun y hy => h y (List.mem_cons_of_mem _ hy)) ?_
    intro n hn
    unfold stepJ at hn
    rcases List.mem_append.1 hn with hn | hn
    · exact hs n hn
    · obtain ⟨m, hm, rfl⟩ := List.mem_map.1 hn
      exact withP_nb _ _ ((h x (List.mem_cons_self ..)).2 m hm).nb
theorem joinG (n : ApiNode) (xs : List ApiExpr) (hN : NB n) (hk : xs.length = (kidsP n).length) (hx : ∀ x ∈ xs, TOk x) : m_tree_Join n xs = some ⟨(foldJ xs).2 ++ [withP n (foldJ xs).1]⟩ := by
  have hkl := kids_len n hN
  unfold m_tree_Join
  obtain ⟨r, h1, h2⟩ := loop_rng (φ := fun f j (t : List Int × List ApiNode) => m_tree_Join_l1 xs f (j, t.1, t.2)) (l := xs) (fun j t => t = foldJ (xs.take j)) (fun r => r = foldJ xs) (by
    rintro f j x t hxj hj rfl
    obtain ⟨f1, f2⟩ := foldJ_len (xs.take j) ([], []) (fun y hy => hx y (List.mem_of_mem_take hy))
    have hxo := hx x (List.mem_of_getElem? hxj)
    have hj2 : (xs.take j).length = j := by simp; omega
    rw [hj2] at f1 f2
    simp only [List.length_nil, Nat.zero_add] at f1 f2
    have hxo1 := hxo.1
    have hjl := joinL (foldJ (xs.take j)).2 x (by unfold foldJ; omega) hxo.2
    simp only [m_tree_Join_l1]
    rw [decide_eq_true (show (j : Int) < xs.length by omega), cond_true, getI hxj, Option.bind_some, hjl, Option.bind_some]
    rw [grd_pos (by unfold foldJ; simp only [List.length_append, List.length_map]; omega), grd_pos (by unfold foldJ; simp only [List.length_cons, List.length_nil]; omega), grd_pos (by omega)]
    refine .inl ⟨(_, _), rfl, ?_⟩
    unfold foldJ
    rw [take_snoc hxj, List.foldl_append]; rfl) (by
    rintro f t rfl
    simp only [m_tree_Join_l1]
    rw [decide_eq_false (by omega), cond_false, List.take_length]
    exact ⟨_, rfl, rfl⟩) (by rw [FUv]; omega) ([], []) rfl
  obtain ⟨f1, f2⟩ := foldJ_len xs ([], []) hx
  simp only [List.length_nil, Nat.zero_add] at f1 f2
  rw [h1, h2, Option.bind_some]
  dsimp only
  rw [with_eqB n _ hN (by unfold foldJ; omega), Option.bind_some, grd_pos (by unfold foldJ; simp only [List.length_cons, List.length_nil]; omega)]
theorem rjoinK (s : List ApiNode) (l : List Int) (hl : l.length ≤ 63) (hs : s.length ≤ 100000) (hb : ∀ x ∈ l, 0 ≤ x ∧ x ≤ 100000) : m_syntagmaref05_Join_l3 s l FU (0, []) = some (l.map (· + (s.length : Int))) := by
  refine (loop_map (φ := fun n i t => m_syntagmaref05_Join_l3 s l n (i, t)) (l := l) (fun k => k + (s.length : Int)) id 0 ?_ ?_ (by rw [FUv]; omega) [] rfl).trans rfl
  · intro n i x t hx hi ht
    have hx2 := hb x (List.mem_of_getElem? hx)
    simp only [m_syntagmaref05_Join_l3]
    rw [decide_eq_true (show (i : Int) < l.length by omega), cond_true, getI hx, Option.bind_some, grd_pos (by omega), grd_pos (by simp only [List.length_cons, List.length_nil]; omega), grd_pos (by omega)]
  · intro n t ht
    simp only [m_syntagmaref05_Join_l3]
    rw [decide_eq_false (by omega), cond_false]; rfl
theorem rjoinL (xs : List ApiExpr) (j : Nat) (s : List ApiNode) (x : ApiExpr) (hxj : xs[j]? = some x) (hs : s.length + x.l.length ≤ 100000) (hx : ∀ n ∈ x.l, NodeOk n) : m_syntagmaref05_Join_l2 xs (j : Int) s FU (0, s) = some (s ++ x.l.map (sh s.length)) := by
  obtain ⟨r, h1, h2⟩ := loop_rng (φ := fun n i t => m_syntagmaref05_Join_l2 xs (j : Int) s n (i, t)) (l := x.l) (fun i t => t = s ++ (x.l.take i).map (sh s.length)) (fun r => r = s ++ x.l.map (sh s.length)) (by
    rintro f i n t hn hi rfl
    have hk := hx n (List.mem_of_getElem? hn)
    have hzl : ((x.l.take i).map (sh s.length)).length = i := by simp; omega
    simp only [m_syntagmaref05_Join_l2]
    rw [getI hxj, Option.bind_some, decide_eq_true (show (i : Int) < x.l.length by omega), cond_true, Option.bind_some, getI hn, Option.bind_some]
    rw [rkids_eq n hk.nb, Option.bind_some, rjoinK s (kidsP n) (kids_len n hk.nb) (by omega) hk.kb, Option.bind_some, Option.bind_some, getI hn, Option.bind_some]
    rw [rwith_eq n _ hk.nb hk.np (by simp), Option.bind_some, grd_pos (by rw [List.length_append, hzl]; simp only [List.length_cons, List.length_nil]; omega), grd_pos (by omega)]
    refine .inl ⟨_, rfl, ?_⟩
    rw [take_snoc hn, List.map_append, List.append_assoc]
    rfl) (by
    rintro n t rfl
    simp only [m_syntagmaref05_Join_l2]
    rw [getI hxj, Option.bind_some, decide_eq_false (by omega), cond_false, List.take_length]
    exact ⟨_, rfl, rfl⟩) (by rw [FUv]; omega) s (by simp)
  rw [h1, h2]
theorem rjoinG (n : ApiNode) (xs : List ApiExpr) (hN : NB n) (hk : xs.length = (kidsP n).length) (hx : ∀ x ∈ xs, TOk x) : m_syntagmaref05_Join n xs = some ⟨(foldJ xs).2 ++ [withP n (foldJ xs).1]⟩ := by
  have hkl := kids_len n hN
  unfold m_syntagmaref05_Join
  obtain ⟨r, h1, h2⟩ := loop_rng (φ := fun f j (t : List Int × List ApiNode) => m_syntagmaref05_Join_l1 xs f (j, t.1, t.2)) (l := xs) (fun j t => t = foldJ (xs.take j)) (fun r => r = foldJ xs) (by
    rintro f j x t hxj hj rfl
    obtain ⟨f1, f2⟩ := foldJ_len (xs.take j) ([], []) (fun y hy => hx y (List.mem_of_mem_take hy))
    have hxo := hx x (List.mem_of_getElem? hxj)
    have hj2 : (xs.take j).length = j := by simp; omega
    rw [hj2] at f1 f2
    simp only [List.length_nil, Nat.zero_add] at f1 f2
    have hxo1 := hxo.1
    have hjl := rjoinL xs j (foldJ (xs.take j)).2 x hxj (by unfold foldJ; omega) hxo.2
    simp only [m_syntagmaref05_Join_l1]
    rw [decide_eq_true (show (j : Int) < xs.length by omega), cond_true, hjl, Option.bind_some]
    rw [grd_pos (by unfold foldJ; simp only [List.length_append, List.length_map]; omega), grd_pos (by unfold foldJ; simp only [List.length_cons, List.length_nil]; omega), grd_pos (by omega)]
    refine .inl ⟨(_, _), rfl, ?_⟩
    unfold foldJ
    rw [take_snoc hxj, List.foldl_append]; rfl) (by
    rintro f t rfl
    simp only [m_syntagmaref05_Join_l1]
    rw [decide_eq_false (by omega), cond_false, List.take_length]
    exact ⟨_, rfl, rfl⟩) (by rw [FUv]; omega) ([], []) rfl
  obtain ⟨f1, f2⟩ := foldJ_len xs ([], []) hx
  simp only [List.length_nil, Nat.zero_add] at f1 f2
  rw [h1, h2, Option.bind_some]
  dsimp only
  rw [rwith_eqB n _ hN (by unfold foldJ; omega), Option.bind_some, grd_pos (by unfold foldJ; simp only [List.length_cons, List.length_nil]; omega)]
theorem tok_of {x : ApiExpr} (hl : x.l.length ≤ 600) (h : mayT x.l = 0) : TOk x := by
  obtain ⟨h1, h2, h3⟩ := mayT_ok h
  refine ⟨h2, fun n hn => ?_⟩
  obtain ⟨i, hi, hx⟩ := List.getElem_of_mem hn
  have hok := h3 i n (by rw [← hx]; exact List.getElem?_eq_getElem hi)
  exact ⟨right_nb n hok.1, noParts_of hok.1, fun k hk => by have := hok.2.1 k hk; omega⟩
def oneE : ApiExpr := ⟨[⟨1, 0, 0, 0, 0, [], [], [], 0⟩]⟩
def fewJ (l : List ApiExpr) (i : Nat) : ApiExpr := match l[i]? with
  | some x => if 0 < x.l.length ∧ x.l.length < 100 then x else oneE
  | none => oneE
theorem fewJ_len (l : List ApiExpr) (i : Nat) : (fewJ l i).l.length < 100 := by
  unfold fewJ
  split
  · split
    · omega
    · decide
  · decide
theorem fewJ_big (l : List ApiExpr) (i : Nat) (h : ∀ x ∈ l, ∀ n ∈ x.l, n.l.length * 40 ≤ 140737488351232) : ∀ n ∈ (fewJ l i).l, n.l.length * 40 ≤ 140737488355328 := by
  intro n hn
  unfold fewJ at hn
  split at hn
  · rename_i x hx
    split at hn
    · have := h x (List.mem_of_getElem? hx) n hn; omega
    · simp only [oneE, List.mem_singleton] at hn; subst hn; decide
  · simp only [oneE, List.mem_singleton] at hn; subst hn; decide
theorem fewJ_eq (l : List ApiExpr) (i : Nat) {β : Type} (k : List ApiNode → Option β) (hl : l.length ≤ 9000000000000000000) :
    ((bif (decide ((i : Int) < (l.length : Int))) then ((idx l (i : Int)).bind fun x2 =>
      some (decide (0 < (x2.l.length : Int)))) else (some false)).bind fun p1 =>
      (bif p1 then ((idx l (i : Int)).bind fun x3 =>
      some (decide ((x3.l.length : Int) < 100))) else (some false)).bind fun p2 =>
      (bif p2 then
        (idx l (i : Int)).bind fun x4 =>
        some x4.l
      else
        some [(⟨1, 0, 0, 0, 0, ([] : List UInt8), ([] : List UInt8), ([] : List ApiField), 0⟩ : ApiNode)] : Option (List ApiNode)).bind k) = k (fewJ l i).l := by
  by_cases hi : i < l.length
  · obtain ⟨x, hx⟩ := getI2 hi
    have hf : fewJ l i = if 0 < x.l.length ∧ x.l.length < 100 then x else oneE := by unfold fewJ; rw [hx]
    rw [decide_eq_true (show (i : Int) < l.length by omega), cond_true, getI hx, Option.bind_some, Option.bind_some, hf]
    by_cases h0 : 0 < x.l.length
    · rw [decide_eq_true (show (0 : Int) < x.l.length by omega), cond_true, Option.bind_some, Option.bind_some]
      by_cases h1 : x.l.length < 100
      · rw [decide_eq_true (show (x.l.length : Int) < 100 by omega), cond_true, Option.bind_some, Option.bind_some, if_pos ⟨h0, h1⟩]
      · rw [decide_eq_false (show ¬ (x.l.length : Int) < 100 by omega), cond_false, Option.bind_some, if_neg (fun h => h1 h.2)]; rfl
    · rw [decide_eq_false (show ¬ (0 : Int) < x.l.length by omega), cond_false, Option.bind_some, cond_false, Option.bind_some, if_neg (fun h => h0 h.1)]; rfl
  · have hf : fewJ l i = oneE := by unfold fewJ; rw [List.getElem?_eq_none (by omega)]
    rw [decide_eq_false (show ¬ (i : Int) < l.length by omega), cond_false, Option.bind_some, cond_false, Option.bind_some, cond_false, Option.bind_some, hf]; rfl
theorem joinsL (n : ApiNode) (l : List ApiExpr) (l2 : List ApiField) (hn : l2.length ≤ 20) (hl : l.length ≤ 9000000000000000000) (h : ∀ x ∈ l, ∀ n ∈ x.l, n.l.length * 40 ≤ 140737488351232) :
    ∃ o, m_syntagmalaw05_TreeJoins_l1 n l l2 FU (0, []) = some o ∧ (o = Out.ret true ∨ ∃ f : List ApiExpr, o = Out.go f ∧ f.length = (kidsP ⟨n.kind, n.a, n.b, n.c, n.n_, n.name, n.s, [] ++ l2, n.pos⟩).length ∧ ∀ x ∈ f, TOk x ∧ x.l.length < 100) := by
  have hN : NB ⟨n.kind, n.a, n.b, n.c, n.n_, n.name, n.s, [] ++ l2, n.pos⟩ := by unfold NB; simp; omega
  have hkl := kids_len _ hN
  refine loop_rng (φ := fun f j (t : List ApiExpr) => m_syntagmalaw05_TreeJoins_l1 n l l2 f (j, t)) (l := kidsP ⟨n.kind, n.a, n.b, n.c, n.n_, n.name, n.s, [] ++ l2, n.pos⟩) (fun i t => t.length = i ∧ ∀ x ∈ t, TOk x ∧ x.l.length < 100) _ ?_ ?_ (by rw [FUv]; omega) [] ⟨rfl, by simp⟩
  · rintro f i k t hk hi ⟨ht, hT⟩
    simp only [m_syntagmalaw05_TreeJoins_l1]
    rw [rkids_eq _ hN, Option.bind_some, decide_eq_true (show (i : Int) < (kidsP _).length by omega), cond_true, fewJ_eq l i _ hl]
    have hfl := fewJ_len l i
    rw [show m_syntagmaref05_May (⟨(fewJ l i).l⟩ : ApiExpr) = some (mayT (fewJ l i).l) from rmay_eqB (fewJ l i) (by omega) (fewJ_big l i h), Option.bind_some]
    by_cases hm : mayT (fewJ l i).l = 0
    · rw [decide_eq_true hm, Bool.not_true, cond_false, grd_pos (by simp only [List.length_cons, List.length_nil]; omega), grd_pos (by omega)]
      refine .inl ⟨_, rfl, by simp [ht], fun x hx => ?_⟩
      rcases List.mem_append.1 hx with hx | hx
      · exact hT x hx
      · obtain rfl := List.mem_singleton.1 hx
        exact ⟨tok_of (x := ⟨(fewJ l i).l⟩) (show (fewJ l i).l.length ≤ 600 by omega) hm, hfl⟩
    · rw [decide_eq_false hm, Bool.not_false, cond_true, works_eq, Option.bind_some]
      exact .inr ⟨_, rfl, .inl rfl⟩
  · rintro f t ⟨ht, hT⟩
    simp only [m_syntagmalaw05_TreeJoins_l1]
    rw [rkids_eq _ hN, Option.bind_some, decide_eq_false (show ¬ (((kidsP ⟨n.kind, n.a, n.b, n.c, n.n_, n.name, n.s, [] ++ l2, n.pos⟩).length : Nat) : Int) < (kidsP _).length by omega), cond_false]
    exact ⟨_, rfl, .inr ⟨t, rfl, ht, hT⟩⟩
theorem law_TreeJoins (n : ApiNode) (l : List ApiExpr) (hl : l.length ≤ 9000000000000000000) (h : ∀ x ∈ l, ∀ n ∈ x.l, n.l.length * 40 ≤ 140737488351232) : m_syntagmalaw05_TreeJoins n l = some true := by
  unfold m_syntagmalaw05_TreeJoins
  have h20 : sli n.l 0 (if 20 < (n.l.length : Int) then 20 else (n.l.length : Int)) = some (n.l.take 20) := by
    split
    · exact sli_take (k := 20) (by omega)
    · rw [List.take_of_length_le (by omega)]
      exact (sli_take (k := n.l.length) (Nat.le_refl _)).trans (by rw [List.take_length])
  have ht : (n.l.take 20).length ≤ 20 := by simp; omega
  rw [h20, Option.bind_some, grd_pos (by omega)]
  obtain ⟨o, h1, h2⟩ := joinsL n l (n.l.take 20) ht hl h
  rw [h1, Option.bind_some]
  rcases h2 with rfl | ⟨f, rfl, hf, hT⟩
  · rfl
  · have hN : NB ⟨n.kind, n.a, n.b, n.c, n.n_, n.name, n.s, [] ++ n.l.take 20, n.pos⟩ := by unfold NB; simp; omega
    have hkl := kids_len _ hN
    have hx : ∀ x ∈ f, TOk x := fun x hx => (hT x hx).1
    obtain ⟨f1, f2⟩ := foldJ_len f ([], []) hx
    simp only [List.length_nil, Nat.zero_add] at f1 f2
    rw [go_on, grd_pos (by omega), show ([] : List ApiExpr) ++ f = f from rfl, joinG _ f hN hf hx, Option.bind_some, rjoinG _ f hN hf hx, Option.bind_some]
    rw [sameList_eqB _ _ (by simp only [List.length_append, List.length_cons, List.length_nil]; unfold foldJ; omega) (fun m hm => by
      rcases List.mem_append.1 hm with hm | hm
      · exact foldJ_nb f ([], []) hx (by simp) m hm
      · obtain rfl := List.mem_singleton.1 hm
        exact withP_nb _ _ hN), Option.bind_some, decide_eq_true (sameL_refl _), cond_true, works_eq]
    rfl
end Go.Proofs.Ytnnjgbcojdnhhaa
