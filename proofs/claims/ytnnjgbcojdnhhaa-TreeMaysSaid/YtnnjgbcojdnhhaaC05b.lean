/- Part C05b of the proof: contracts of the functions that are walked, and what they compute; no condition. -/
import Derived.Test.YtnnjgbcojdnhhaaC05a
set_option linter.unusedVariables false
set_option linter.unusedSimpArgs false
set_option maxRecDepth 100000
namespace Go.Proofs.Ytnnjgbcojdnhhaa
open Go.V
open Classical
def isNm (k : Int) : Bool := decide (k = 4) || (decide (k = 5) || (decide (k = 7) || (decide (k = 8) || decide (k = 12))))
def namedB (n : ApiNode) : Bool := if isNm n.kind = true then nameP n.name else if n.kind = 13 then tagP n.name else decide ((n.name : List UInt8) = [])
theorem named_eq (n : ApiNode) : m_tree_named n = some (namedB n) := by
  unfold m_tree_named namedB isNm
  rw [name_eq, tag_eq]
  cases decide (n.kind = 4) <;> cases decide (n.kind = 5) <;> cases decide (n.kind = 7) <;> cases decide (n.kind = 8) <;> cases decide (n.kind = 12) <;> first | rfl | skip
  by_cases h : n.kind = 13
  · rw [if_neg (by decide), if_pos h, decide_eq_true h]; rfl
  · rw [if_neg (by decide), if_neg h, decide_eq_false h]; rfl
def countedB (n : ApiNode) : Bool := if n.kind = 1 then decide ((n.s : List UInt8) = []) else if n.kind = 2 then (decide (n.n_ = 0) || decide (n.n_ = 1)) && decide ((n.s : List UInt8) = []) else if n.kind = 10 then (decide (1 ≤ n.n_) && decide (n.n_ ≤ 7)) && decide ((n.s : List UInt8) = []) else if n.kind = 3 then decide (n.n_ = 0) && decide ((n.s.length : Int) ≤ 200) else decide (n.n_ = 0) && decide ((n.s : List UInt8) = [])
theorem counted_eq (n : ApiNode) : m_tree_counted n = some (countedB n) := by
  unfold m_tree_counted countedB
  by_cases h1 : n.kind = 1
  · rw [decide_eq_true h1, if_pos h1]; rfl
  rw [decide_eq_false h1, if_neg h1, cond_false]
  by_cases h2 : n.kind = 2
  · rw [decide_eq_true h2, if_pos h2]; rfl
  rw [decide_eq_false h2, if_neg h2, cond_false]
  by_cases h10 : n.kind = 10
  · rw [decide_eq_true h10, if_pos h10]; rfl
  rw [decide_eq_false h10, if_neg h10, cond_false]
  by_cases h3 : n.kind = 3
  · rw [decide_eq_true h3, if_pos h3]; rfl
  rw [decide_eq_false h3, if_neg h3, cond_false]
def boundsB (n : ApiNode) : Bool := !(((decide (n.kind < 1) || decide (14 < n.kind)) || decide (n.pos < 0)) || decide (1048576 < n.pos))
noncomputable def rightB (n : ApiNode) : Bool := boundsB n && (((namedB n && countedB n) && partedB n) && unusedB n)
theorem right_eq (n : ApiNode) (h : NB n) : m_tree_right n = some (rightB n) := by
  unfold m_tree_right rightB boundsB
  rw [named_eq, counted_eq, parted_eq n h, unused_eq]
  cases (((decide (n.kind < 1) || decide (14 < n.kind)) || decide (n.pos < 0)) || decide (1048576 < n.pos))
  · cases namedB n <;> cases countedB n <;> cases partedB n <;> cases unusedB n <;> rfl
  · rfl
theorem parted_lab (n : ApiNode) (hk : n.kind = 11 ∨ n.kind = 14) : partedB n = labelsB n := by
  unfold partedB labelsB
  rcases hk with hk | hk
  · rw [hk, if_pos (show partsB 11 = true by decide), if_neg (by decide), decide_eq_true (show (0 : Int) ≤ (n.l.length : Int) by omega), Bool.true_and, decide_eq_true (show (11 : Int) = 11 from rfl), Bool.true_or, Bool.and_true, Bool.and_assoc]
  · rw [hk, if_pos (show partsB 14 = true by decide), if_pos rfl, decide_eq_false (show ¬ (14 : Int) = 11 by decide), Bool.false_or, decide_eq_decide.2 (show (1 : Int) ≤ (n.l.length : Int) ↔ (0 : Int) < (n.l.length : Int) by omega), Bool.and_comm (decide ((0 : Int) < _)), Bool.and_assoc]
theorem parted_no (n : ApiNode) (hk : partsB n.kind = false) : partedB n = !decide (0 < (n.l.length : Int)) := by
  unfold partedB
  rw [if_neg (by simp [hk])]
  by_cases h : (n.l.length : Int) = 0
  · rw [decide_eq_true h, decide_eq_false (by omega)]; rfl
  · rw [decide_eq_false h, decide_eq_true (by omega)]; rfl
theorem unusedB_eq (n : ApiNode) : unusedB n = match abcN n.kind with | 0 => decide (n.a = 0) && (decide (n.b = 0) && (decide (n.c = 0) && true)) | 1 => decide (n.b = 0) && (decide (n.c = 0) && true) | 2 => decide (n.c = 0) && true | _ => true := by
  have := abc_le n.kind
  unfold unusedB
  generalize abcN n.kind = m at *
  match m with
  | 0 => rfl
  | 1 => rfl
  | 2 => rfl
  | 3 => rfl
  | m + 4 => omega
theorem rright_out (n : ApiNode) (h : boundsB n = false) : m_syntagmaref05_right n = some false := by
  unfold m_syntagmaref05_right
  unfold boundsB at h
  rw [show ((((decide (n.pos < 0)) || (decide (1048576 < n.pos))) || (decide (n.kind < 1))) || (decide (14 < n.kind))) = true by
    revert h
    cases decide (n.pos < 0) <;> cases decide (1048576 < n.pos) <;> cases decide (n.kind < 1) <;> cases decide (14 < n.kind) <;> decide]
  rfl
set_option maxHeartbeats 4000000 in
theorem rright_in (n : ApiNode) (hN : NB n) (h : boundsB n = true) : m_syntagmaref05_right n = some (((namedB n && countedB n) && partedB n) && unusedB n) := by
  have hb : 1 ≤ n.kind ∧ n.kind ≤ 14 ∧ 0 ≤ n.pos ∧ n.pos ≤ 1048576 := by
    unfold boundsB at h
    simp only [Bool.not_eq_true', Bool.or_eq_false_iff, decide_eq_false_iff_not] at h
    omega
  unfold m_syntagmaref05_right
  rw [show ((((decide (n.pos < 0)) || (decide (1048576 < n.pos))) || (decide (n.kind < 1))) || (decide (14 < n.kind))) = false by
    rw [decide_eq_false (by omega), decide_eq_false (by omega), decide_eq_false (by omega), decide_eq_false (by omega)]; rfl, cond_false, rname_eq, rtag_eq]
  have hk : n.kind = 1 ∨ n.kind = 2 ∨ n.kind = 3 ∨ n.kind = 4 ∨ n.kind = 5 ∨ n.kind = 6 ∨ n.kind = 7 ∨ n.kind = 8 ∨ n.kind = 9 ∨ n.kind = 10 ∨ n.kind = 11 ∨ n.kind = 12 ∨ n.kind = 13 ∨ n.kind = 14 := by omega
  have e1 : decide (1 ≤ n.n_) = !decide (n.n_ < 1) := by
    by_cases h : n.n_ < 1
    · rw [decide_eq_true h, decide_eq_false (by omega)]; rfl
    · rw [decide_eq_false h, decide_eq_true (by omega)]; rfl
  have e2 : decide (n.n_ ≤ 7) = !decide (7 < n.n_) := by
    by_cases h : 7 < n.n_
    · rw [decide_eq_true h, decide_eq_false (by omega)]; rfl
    · rw [decide_eq_false h, decide_eq_true (by omega)]; rfl
  have e3 : decide ((n.s.length : Int) ≤ 200) = !decide (200 < (n.s.length : Int)) := by
    by_cases h : 200 < (n.s.length : Int)
    · rw [decide_eq_true h, decide_eq_false (by omega)]; rfl
    · rw [decide_eq_false h, decide_eq_true (by omega)]; rfl
  rcases hk with hk | hk | hk | hk | hk | hk | hk | hk | hk | hk | hk | hk | hk | hk
  all_goals
    first
    | rw [parted_no _ (by rw [hk]; rfl)]
    | rw [parted_lab _ (.inl hk), rlabels_eq _ hN (.inl hk)]
    | rw [parted_lab _ (.inr hk), rlabels_eq _ hN (.inr hk)]
    rw [unusedB_eq]
    unfold namedB countedB
    rw [hk, e1, e2, e3]
    generalize labelsB _ = p0
    generalize decide (0 < (n.l.length : Int)) = p1
    generalize nameP n.name = p2
    generalize tagP n.name = p3
    generalize decide (n.n_ = 0) = q0; generalize decide (n.n_ = 1) = q6; generalize decide (n.n_ < 1) = q7; generalize decide (7 < n.n_) = q8
    generalize decide (200 < (n.s.length : Int)) = q9
    generalize decide (n.s = []) = q1; generalize decide (n.a = 0) = q2; generalize decide (n.b = 0) = q3; generalize decide (n.c = 0) = q4; generalize decide (n.name = []) = q5
    generalize m_syntagmaref05_labels _ = zz
    clear hN h hb hk e1 e2 e3
    try clear p0
    try clear p1
    try clear p2
    try clear p3
    try clear q0
    try clear q1
    try clear q2
    try clear q3
    try clear q4
    try clear q5
    try clear q6
    try clear q7
    try clear q8
    try clear q9
    try clear zz
    try (obtain _ | zz := zz)
    all_goals
      try revert p0
      try revert p1
      try revert p2
      try revert p3
      try revert q0
      try revert q1
      try revert q2
      try revert q3
      try revert q4
      try revert q5
      try revert q6
      try revert q7
      try revert q8
      try revert q9
      try revert zz
      decide +kernel
theorem rright_eq (n : ApiNode) (h : NB n) : m_syntagmaref05_right n = some (rightB n) := by
  unfold rightB
  cases hb : boundsB n with
  | false => exact rright_out n hb
  | true => rw [Bool.true_and]; exact rright_in n h hb
end Go.Proofs.Ytnnjgbcojdnhhaa
