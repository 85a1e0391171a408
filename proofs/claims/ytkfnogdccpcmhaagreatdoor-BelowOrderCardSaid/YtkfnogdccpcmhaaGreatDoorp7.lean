/- Part 7 of the proof: a program logic, what the functions compute, and what these answer; no condition. -/
import Derived.Test.YtkfnogdccpcmhaaGreatDoorp6
set_option linter.unusedVariables false
set_option linter.unusedSimpArgs false
set_option maxRecDepth 100000
namespace Go.Proofs.YtkfnogdccpcmhaaGreatDoor
open Go.V
open Classical
theorem FUv : FU = 18446744073709551616 := rfl
theorem bt (b c : Bool) : (bif b then some true else some c : Option Bool) = some (b || c) := by cases b <;> rfl
theorem bf (b c : Bool) : (bif b then some c else some false : Option Bool) = some (b && c) := by cases b <;> rfl
def smallB (c : UInt8) : Bool := (decide (97 <= (c.toNat : Int)) && decide ((c.toNat : Int) <= 122)) || decide ((c.toNat : Int) = 95)
def greatB (c : UInt8) : Bool := decide (65 <= (c.toNat : Int)) && decide ((c.toNat : Int) <= 90)
def moreB (c : UInt8) : Bool := (smallB c || greatB c) || (decide (48 <= (c.toNat : Int)) && decide ((c.toNat : Int) <= 57))
def wordP : List UInt8 -> Nat
 | [] => 0
 | c :: r => if smallB c = true \/ greatB c = true then 1 + (r.takeWhile moreB).length else 0
theorem word_c (c : UInt8) (r : List UInt8) : wordP (c :: r) = if smallB c = true \/ greatB c = true then 1 + (r.takeWhile moreB).length else 0 := rfl
theorem word_eq (s : List UInt8) (h : s.length <= 1000000000000) : m_name_Word s = some (wordP s : Int) := by
 unfold m_name_Word
 rcases s with _ | ⟨c, r⟩
 ·rfl
 ·rw [decide_eq_false (by simp), cond_false, idx_c0, Option.bind_some]
  simp only [m_name_small, m_name_great, Option.bind_some, bf];rw [show (((decide (97 <= (c.toNat : Int))) && (decide ((c.toNat : Int) <= 122))) || (decide ((c.toNat : Int) = 95))) = smallB c from rfl, show ((decide (65 <= (c.toNat : Int))) && (decide ((c.toNat : Int) <= 90))) = greatB c from rfl];rw [word_c]
  cases h1 : smallB c || greatB c with
  | false =>
   simp only [Bool.or_eq_false_iff] at h1;rw [h1.1, h1.2]; simp
  | true =>
   rw [if_pos (by simpa using h1)]
   have : (!smallB c && !greatB c) = false := by cases hs : smallB c <;> cases hg : greatB c <;> simp_all
   rw [this, cond_false];simp only [List.length_cons] at h;refine bnd (loop_while (φ := m_name_Word_l1 (c :: r)) (l := c :: r) moreB (fun i => (i : Int)) ?_ ?_ FU 1 (by simp) (by rw [FUv]; simp; omega)) rfl
   ·intro n i x hx hi
    simp only [List.length_cons] at hi;simp only [m_name_Word_l1];rw [decide_eq_true (by simp only [List.length_cons]; omega), cond_true, getI hx, Option.bind_some];simp only [m_name_more, m_name_small, m_name_great, Option.bind_some, bt]
    constructor
    ·intro hq
     simp only [moreB, smallB, greatB] at hq;rw [hq, cond_true, grd_pos (by omega)]
    ·intro hq
     simp only [moreB, smallB, greatB] at hq;rw [hq, cond_false]
   ·intro n
    simp only [m_name_Word_l1];rw [decide_eq_false (by omega), cond_false, Option.bind_some, cond_false]
theorem rword_eq (s : List UInt8) (h : s.length <= 1000000000000) : m_ra_Word s = some (wordP s : Int) := by
 unfold m_ra_Word
 rcases s with _ | ⟨c, r⟩
 ·rfl
 ·rw [decide_eq_false (by simp; omega), cond_false, idx_c0, Option.bind_some]
  simp only [m_ra_small, m_ra_great, Option.bind_some, bf];rw [show (((decide (97 <= (c.toNat : Int))) && (decide ((c.toNat : Int) <= 122))) || (decide ((c.toNat : Int) = 95))) = smallB c from rfl, show ((decide (65 <= (c.toNat : Int))) && (decide ((c.toNat : Int) <= 90))) = greatB c from rfl];rw [word_c]
  cases h1 : smallB c || greatB c with
  | false =>
   simp only [Bool.or_eq_false_iff] at h1;rw [h1.1, h1.2]; simp
  | true =>
   rw [if_pos (by simpa using h1)]
   have : (!smallB c && !greatB c) = false := by cases hs : smallB c <;> cases hg : greatB c <;> simp_all
   rw [this, cond_false];simp only [List.length_cons] at h;refine bnd (loop_while (φ := m_ra_Word_l1 (c :: r)) (l := c :: r) moreB (fun i => (i : Int)) ?_ ?_ FU 1 (by simp) (by rw [FUv]; simp; omega)) rfl
   ·intro n i x hx hi
    simp only [List.length_cons] at hi;simp only [m_ra_Word_l1];rw [decide_eq_true (by simp only [List.length_cons]; omega), cond_true, getI hx, Option.bind_some];simp only [m_ra_small, m_ra_great, Option.bind_some, bt, bf]
    constructor
    ·intro hq
     simp only [moreB, smallB, greatB] at hq;rw [hq, cond_true, grd_pos (by omega)]
    ·intro hq
     simp only [moreB, smallB, greatB] at hq;rw [hq, cond_false]
   ·intro n
    simp only [m_ra_Word_l1];rw [decide_eq_false (by omega), cond_false, Option.bind_some, cond_false]
def keysL : List (List UInt8) := match m_name_Keywords with | some l => l | none => []
theorem keys_eq : m_name_Keywords = some keysL := rfl
theorem rkeys_eq : m_ra_Keywords = some keysL := rfl
theorem isKey_eq (l : List (List UInt8)) (s : List UInt8) (h : l.length <= 1000) : m_cnS l s = some (decide (s ∈ l)) := by
 unfold m_cnS m_ixS
 have e := loop_find (φ := m_ixS_l1 l s) (l := l) (fun i => (i : Int)) (fun x => decide (s = x)) (by
  intro n i x hx hi
  simp only [m_ixS_l1];rw [decide_eq_true (show (i : Int) < l.length by omega), cond_true, getI hx, Option.bind_some]
  constructor
  ·intro hq; rw [show decide (s = x) = false from by simpa using hq, cond_false, grd_pos (by omega)]
  ·intro hq; rw [show decide (s = x) = true from by simpa using hq, cond_true]) (by
  intro n
  simp only [m_ixS_l1];rw [decide_eq_false (by omega), cond_false]) (by rw [FUv]; omega)
 rw [bind_of e]
 cases hf : l.findIdx? (fun x => decide (s = x)) with
 | none =>
  rw [List.findIdx?_eq_none_iff] at hf
  show some (decide _) = _
  congr 1
  rw [decide_eq_false (by omega), decide_eq_false]
  intro hs
  have := hf s hs
  simp at this
 | some k =>
  rw [List.findIdx?_eq_some_iff_getElem] at hf;obtain ⟨hk, h1, _⟩ := hf
  show some (decide _) = _
  congr 1
  rw [decide_eq_true (by omega), decide_eq_true];simp only [decide_eq_true_eq] at h1;rw [h1];exact List.getElem_mem hk
theorem rIsKey_eq (l : List (List UInt8)) (s : List UInt8) (h : l.length <= 1000) : m_ra_In s l = some (decide (s ∈ l)) := by
 unfold m_ra_In;refine bnd (loop_any (φ := m_ra_In_l1 s l) (l := l) true (fun _ x => x = s) ?_ ?_ (by rw [FUv]; omega)) ?_
 ·intro n i x hx hi
  simp only [m_ra_In_l1];rw [decide_eq_true (by omega), cond_true, getI hx, Option.bind_some]
  constructor
  ·intro hq; rw [decide_eq_false hq, cond_false, grd_pos (by omega)]
  ·intro hq; rw [decide_eq_true hq, cond_true]
 ·intro n
  simp only [m_ra_In_l1];rw [decide_eq_false (by omega), cond_false]
 ·by_cases hs : s ∈ l
  ·obtain ⟨i, hi, h2⟩ := List.getElem_of_mem hs
   rw [if_pos ⟨i, s, by rw [<- h2]; exact List.getElem?_eq_getElem hi, rfl⟩, decide_eq_true hs]; rfl
  ·rw [if_neg, decide_eq_false hs]; rfl
   rintro ⟨i, x, h1, rfl⟩;exact hs (List.mem_of_getElem? h1)
def headP (p : UInt8 -> Bool) : List UInt8 -> Bool
 | [] => false
 | c :: _ => p c
def wholeP (s : List UInt8) : Bool := decide (s ≠ []) && decide (s.length <= 20) && decide (wordP s = s.length)
def nameP (s : List UInt8) : Bool := wholeP s && headP smallB s && !decide (s ∈ keysL)
def tagP (s : List UInt8) : Bool := wholeP s && headP greatB s
theorem whole_eq (s : List UInt8) : m_name_whole s = some (wholeP s) := by
 unfold m_name_whole wholeP
 by_cases h1 : s = []
 ·subst h1; rfl
 by_cases h2 : s.length <= 20
 ·rw [decide_eq_false h1, decide_eq_true (show (s.length : Int) <= 20 by omega), word_eq s (by omega)]
  simp only [Bool.not_false, Bool.true_and, cond_true, Option.bind_some, decide_eq_true (show s ≠ [] from h1), decide_eq_true h2]
  congr 1
  exact decide_eq_decide.2 (by omega)
 ·rw [decide_eq_false (show ¬ (s.length : Int) <= 20 by omega), decide_eq_false h2]; simp
theorem name_eq (s : List UInt8) : m_name_Name s = some (nameP s) := by
 unfold m_name_Name nameP;rw [whole_eq, Option.bind_some]
 cases hw : wholeP s with
 | false => rfl
 | true =>
  rcases s with _ | ⟨c, r⟩
  ·simp [wholeP] at hw
  ·rw [cond_true, idx_c0, Option.bind_some]
   simp only [m_name_small, Option.bind_some, m_name_Keyword, keys_eq, Bool.true_and];rw [isKey_eq _ _ (by decide), Option.bind_some, Option.bind_some, bf, Option.bind_some]; rfl
theorem tag_eq (s : List UInt8) : m_name_Tag s = some (tagP s) := by
 unfold m_name_Tag tagP;rw [whole_eq, Option.bind_some]
 cases hw : wholeP s with
 | false => rfl
 | true =>
  rcases s with _ | ⟨c, r⟩
  ·simp [wholeP] at hw
  ·rw [cond_true, idx_c0, Option.bind_some]; rfl
theorem rwhole_eq (s : List UInt8) : (bif ((decide (0 < (s.length : Int))) && (decide ((s.length : Int) <= 20))) then ((m_ra_Word s).bind fun x1 => some (decide (x1 = (s.length : Int)))) else (some false)) = some (wholeP s) := by
 unfold wholeP
 by_cases h1 : s = []
 ·subst h1; rfl
 have h0 : 0 < s.length := List.length_pos_iff.2 h1
 by_cases h2 : s.length <= 20
 ·rw [decide_eq_true (show 0 < (s.length : Int) by omega), decide_eq_true (show (s.length : Int) <= 20 by omega), rword_eq s (by omega)]
  simp only [Bool.true_and, cond_true, Option.bind_some, decide_eq_true (show s ≠ [] from h1), decide_eq_true h2]
  congr 1
  exact decide_eq_decide.2 (by omega)
 ·rw [decide_eq_false (show ¬ (s.length : Int) <= 20 by omega), decide_eq_false h2]; simp
theorem rname_eq (s : List UInt8) : m_ra_Name s = some (nameP s) := by
 unfold m_ra_Name nameP;refine bnd (rwhole_eq s) ?_
 cases hw : wholeP s with
 | false => rfl
 | true =>
  rcases s with _ | ⟨c, r⟩
  ·simp [wholeP] at hw
  ·rw [cond_true, idx_c0, Option.bind_some]
   simp only [m_ra_small, Option.bind_some, m_ra_Keyword, rkeys_eq, Bool.true_and];rw [rIsKey_eq _ _ (by decide), Option.bind_some, Option.bind_some, bf, Option.bind_some]; rfl
theorem rtag_eq (s : List UInt8) : m_ra_Tag s = some (tagP s) := by
 unfold m_ra_Tag tagP;refine bnd (rwhole_eq s) ?_
 cases hw : wholeP s with
 | false => rfl
 | true =>
  rcases s with _ | ⟨c, r⟩
  ·simp [wholeP] at hw
  ·rw [cond_true, idx_c0, Option.bind_some]; rfl
def fewN (n : ApiTNode) : ApiTNode := ⟨n.kind, n.a, n.b, [] ++ n.l.take 40⟩
def fewC (m : Nat) (l : List ApiTNode) : Nat := if 2000 < l.length then 2001 else m
def fewT (m : Nat) (t : ApiType) : ApiType := ⟨(t.l.take (fewC m t.l)).map fewN, t.root⟩
theorem min40 (l : List ApiTField) : sli l 0 (if 40 < (l.length : Int) then 40 else (l.length : Int)) = some (l.take 40) := by
 by_cases h : 40 < (l.length : Int)
 ·rw [if_pos h]; exact sli_take (k := 40) (by omega)
 ·rw [if_neg h, sli_take (by omega), List.take_of_length_le (by omega), List.take_of_length_le (by omega)]
theorem few_eq (t : ApiType) (m : Nat) (M : Int) (hM : M = m) (hm : m <= 2000) : m_lg_Few t M = some (fewT m t) := by
 subst hM;unfold m_lg_Few fewT
 have hC : fewC m t.l = 2001 /\ 2000 < t.l.length \/ fewC m t.l = m /\ ¬ 2000 < t.l.length := by unfold fewC; split <;> simp_all
 have hL : (t.l.take (fewC m t.l)).length <= 2001 /\ (t.l.take (fewC m t.l)).length <= t.l.length /\ (t.l.take (fewC m t.l)).length <= fewC m t.l := by rw [List.length_take]; omega
 rw [loop_map (φ := fun n i s => m_lg_Few_l1 t (m : Int) n (i, s, t.root)) (l := t.l.take (fewC m t.l)) fewN (fun s => (s, t.root)) 0 ?_ ?_ (by rw [FUv]; omega) [] rfl]
 ·rfl
 ·intro n i x s hx hi hs
  have hx2 : t.l[i]? = some x := by
   rw [List.getElem?_take, if_pos (by omega)] at hx;exact hx
  have h40 : (x.l.take 40).length <= 40 := by rw [List.length_take]; omega
  simp only [m_lg_Few_l1];rw [decide_eq_true (show (i : Int) < t.l.length by omega), Bool.true_and, show (decide ((i : Int) < (m : Int)) || (decide (2000 < (t.l.length : Int)) && decide ((i : Int) <= 2000))) = true by
   rw [Bool.or_eq_true, Bool.and_eq_true, decide_eq_true_eq, decide_eq_true_eq, decide_eq_true_eq]; omega, cond_true, getI hx2, Option.bind_some, min40, Option.bind_some, grd_pos (by omega), grd_pos (by simp only [List.length_cons, List.length_nil]; omega), grd_pos (by omega)]
  rfl
 ·intro n s hs
  simp only [m_lg_Few_l1];rw [show (decide (((t.l.take (fewC m t.l)).length : Int) < t.l.length) && (decide (((t.l.take (fewC m t.l)).length : Int) < (m : Int)) || (decide (2000 < (t.l.length : Int)) && decide (((t.l.take (fewC m t.l)).length : Int) <= 2000)))) = false by
   rw [List.length_take, Bool.and_eq_false_iff, Bool.or_eq_false_iff, Bool.and_eq_false_iff, decide_eq_false_iff_not, decide_eq_false_iff_not, decide_eq_false_iff_not, decide_eq_false_iff_not]; omega, cond_false]
theorem fewT_len (m : Nat) (hm : m <= 2000) (t : ApiType) : (fewT m t).l.length <= 2001 := by unfold fewT fewC; simp only [List.length_map, List.length_take]; split <;> omega
def NB (n : ApiTNode) : Prop := n.l.length <= 40
theorem fewN_nb (n : ApiTNode) : NB (fewN n) := by unfold fewN NB; simp; omega
theorem fewT_nb (m : Nat) (t : ApiType) : ∀ n ∈ (fewT m t).l, NB n := by
 intro n hn
 obtain ⟨k, _, rfl⟩ := List.mem_map.1 hn;exact fewN_nb k
theorem fewT_small (m : Nat) (t : ApiType) (h : (fewT m t).l.length <= 2000) : (fewT m t).l.length <= m := by
 unfold fewT fewC at h ⊢;simp only [List.length_map, List.length_take] at h ⊢
 split at h <;> split <;> omega
def pB (k : Int) : Bool := (decide (k = 6) || decide (k = 9)) || decide (k = 10)
def wB (k : Int) : Bool := decide (k = 7) || decide (k = 8)
def kidsL (n : ApiTNode) : List Int := bif pB n.kind then [n.a, n.b] else bif wB n.kind then n.l.map (·.at_) else []
theorem kids_eq (n : ApiTNode) (h : NB n) : m_graph_Kids n = some (kidsL n) := by
 unfold m_graph_Kids kidsL m_graph_pair m_graph_wide;unfold NB at h;rw [Option.bind_some, Option.bind_some]
 change (bif pB n.kind then _ else bif wB n.kind then _ else _) = _
 cases pB n.kind
 ·cases wB n.kind
  ·rfl
  ·rw [cond_false, cond_true, cond_false, cond_true, loop_map (φ := fun k i s => m_graph_Kids_l1 n k (i, s)) (l := n.l) (·.at_) id 0 ?_ ?_ (by rw [FUv]; omega) [] rfl]
   ·rfl
   ·intro k i x s hx hi hs
    simp only [m_graph_Kids_l1];rw [decide_eq_true (show (i : Int) < n.l.length by omega), cond_true, getI hx, Option.bind_some, grd_pos (by simp only [List.length_cons, List.length_nil]; omega), grd_pos (by omega)]
   ·intro k s hs
    simp only [m_graph_Kids_l1];rw [decide_eq_false (by omega), cond_false]; rfl
 ·rfl
theorem rkids_eq (n : ApiTNode) (h : NB n) : m_rg_Kids n = some (kidsL n) := by
 unfold m_rg_Kids kidsL;unfold NB at h
 change (bif pB n.kind then _ else bif wB n.kind then _ else _) = _
 cases pB n.kind
 ·cases wB n.kind
  ·rfl
  ·rw [cond_false, cond_true, cond_false, cond_true, loop_map (φ := fun k i s => m_rg_Kids_l1 n k (i, s)) (l := n.l) (·.at_) id 0 ?_ ?_ (by rw [FUv]; omega) [] rfl]
   ·rfl
   ·intro k i x s hx hi hs
    simp only [m_rg_Kids_l1];rw [decide_eq_true (show (i : Int) < n.l.length by omega), cond_true, getI hx, Option.bind_some, grd_pos (by simp only [List.length_cons, List.length_nil]; omega), grd_pos (by omega)]
   ·intro k s hs
    simp only [m_rg_Kids_l1];rw [decide_eq_false (by omega), cond_false]; rfl
 ·rfl
theorem kidsL_len (n : ApiTNode) (h : NB n) : (kidsL n).length <= 40 := by
 unfold kidsL; unfold NB at h
 cases pB n.kind
 ·cases wB n.kind
  ·simp
  ·simpa using h
 ·simp
def badF (n : ApiTNode) (x : ApiTField) : Bool := (decide (n.kind = 7) && !nameP x.name) || (decide (n.kind = 8) && !tagP x.name)
def okF (n : ApiTNode) (i : Nat) (x : ApiTField) : Prop := badF n x = false /\ (0 < i -> ∀ y, n.l[i - 1]? = some y -> Op.bytesLess y.name x.name = true)
def namedP (n : ApiTNode) : Prop := ∀ i x, n.l[i]? = some x -> okF n i x
theorem named_eq (n : ApiTNode) (h : NB n) : m_graph_named n = some (decide (namedP n) && decide ((n.l.length : Int) <= 30)) := by
 unfold m_graph_named;unfold NB at h;rw [loop_all (φ := m_graph_named_l1 n) (l := n.l) false (okF n) ?_ ?_ (by rw [FUv]; omega), Option.bind_some]
 ·by_cases hp : namedP n
  ·rw [if_pos (show ∀ i x, n.l[i]? = some x -> okF n i x from hp), decide_eq_true hp]; rfl
  ·rw [if_neg (show ¬ ∀ i x, n.l[i]? = some x -> okF n i x from hp), decide_eq_false hp]; rfl
 ·intro k i x hx hi
  simp only [m_graph_named_l1]
  have e1 : ((bif (decide (n.kind = 7)) then ((m_name_Name x.name).bind fun x3 => some (!x3)) else (some false)).bind fun p1 =>
   (bif p1 then (some true) else ((bif (decide (n.kind = 8)) then ((m_name_Tag x.name).bind fun x4 => some (!x4)) else (some false)).bind fun p3 => some p3))) = some (badF n x) := by
   rw [name_eq, tag_eq, Option.bind_some, Option.bind_some, bf, Option.bind_some, bf, Option.bind_some, bt]; rfl
  rw [decide_eq_true (show (i : Int) < n.l.length by omega), cond_true, getI hx, Option.bind_some, <- Option.bind_assoc, e1, Option.bind_some];unfold okF
  cases hb : badF n x
  ·rw [cond_false]
   by_cases h0 : 0 < i
   ·have hy : n.l[i - 1]? = some n.l[i - 1] := List.getElem?_eq_getElem (by omega)
    rw [decide_eq_true (show (0 : Int) < (i : Int) by omega), cond_true, grd_pos (by omega), show ((i : Int) - 1) = ((i - 1 : Nat) : Int) by omega, getI hy, Option.bind_some]
    constructor
    ·rintro ⟨_, h2⟩
     rw [h2 h0 _ hy, Bool.not_true, cond_false, grd_pos (by omega)]
    ·intro h2
     cases hl : Op.bytesLess (n.l[i - 1]).name x.name
     ·rfl
     ·exact absurd ⟨rfl, fun _ y hy2 => by rw [hy] at hy2; cases hy2; exact hl⟩ h2
   ·rw [decide_eq_false (show ¬ (0 : Int) < (i : Int) by omega), cond_false]
    exact ⟨fun _ => by rw [grd_pos (by omega)], fun h2 => absurd ⟨rfl, fun h3 => absurd h3 h0⟩ h2⟩
  ·rw [cond_true]
   exact ⟨fun h2 => by simp at h2, fun _ => rfl⟩
 ·intro k
  simp only [m_graph_named_l1];rw [decide_eq_false (by omega), cond_false]
theorem rnamed_eq (n : ApiTNode) (h : NB n) : m_rg_right_l1 n FU 0 = some (if namedP n then .go () else .ret false) := by
 unfold NB at h;rw [loop_all (φ := m_rg_right_l1 n) (l := n.l) false (okF n) ?_ ?_ (by rw [FUv]; omega)]
 ·rfl
 ·intro k i x hx hi
  simp only [m_rg_right_l1]
  have e1 : ((bif (decide (n.kind = 7)) then ((m_ra_Name x.name).bind fun x3 => some (!x3)) else (some false)).bind fun p1 =>
   (bif p1 then (some true) else ((bif (decide (n.kind = 8)) then ((m_ra_Tag x.name).bind fun x4 => some (!x4)) else (some false)).bind fun p3 => some p3))) = some (badF n x) := by
   rw [rname_eq, rtag_eq, Option.bind_some, Option.bind_some, bf, Option.bind_some, bf, Option.bind_some, bt]; rfl
  rw [decide_eq_true (show (i : Int) < n.l.length by omega), cond_true, getI hx, Option.bind_some, <- Option.bind_assoc, e1, Option.bind_some];unfold okF
  cases hb : badF n x
  ·rw [cond_false]
   by_cases h0 : 0 < i
   ·have hy : n.l[i - 1]? = some n.l[i - 1] := List.getElem?_eq_getElem (by omega)
    rw [decide_eq_true (show (0 : Int) < (i : Int) by omega), cond_true, grd_pos (by omega), show ((i : Int) - 1) = ((i - 1 : Nat) : Int) by omega, getI hy, Option.bind_some, Option.bind_some, Option.bind_some]
    constructor
    ·rintro ⟨_, h2⟩
     rw [h2 h0 _ hy, Bool.not_true, cond_false, grd_pos (by omega)]
    ·intro h2
     cases hl : Op.bytesLess (n.l[i - 1]).name x.name
     ·rfl
     ·exact absurd ⟨rfl, fun _ y hy2 => by rw [hy] at hy2; cases hy2; exact hl⟩ h2
   ·rw [decide_eq_false (show ¬ (0 : Int) < (i : Int) by omega), cond_false, Option.bind_some, Option.bind_some, cond_false]
    exact ⟨fun _ => by rw [grd_pos (by omega)], fun h2 => absurd ⟨rfl, fun h3 => absurd h3 h0⟩ h2⟩
  ·rw [cond_true, Option.bind_some, cond_true]
   exact ⟨fun h2 => by simp at h2, fun _ => rfl⟩
 ·intro k
  simp only [m_rg_right_l1];rw [decide_eq_false (by omega), cond_false]
def inB (all k : Int) : Bool := decide (k < 0) || decide (all <= k)
theorem outKids_eq (l : List Int) (all : Int) (h : l.length <= 1000) : m_cnI l (fun y0 => m_graph_right_1 y0 all) = some (decide (∃ k ∈ l, inB all k = true)) := by
 unfold m_cnI m_ixI;rw [loop_find (φ := m_ixI_l1 l (fun y0 => m_graph_right_1 y0 all)) (l := l) (fun i => (i : Int)) (inB all) ?_ ?_ (by rw [FUv]; omega)]
 ·rw [Option.bind_some]
  cases hf : l.findIdx? (inB all) with
  | none =>
   have : ¬ ∃ k ∈ l, inB all k = true := by
    rintro ⟨c, hc, hne⟩
    have := List.findIdx?_eq_none_iff.1 hf c hc
    rw [hne] at this; cases this
   rw [decide_eq_false this]; rfl
  | some i =>
   obtain ⟨hi, h1, _⟩ := List.findIdx?_eq_some_iff_getElem.1 hf
   have : ∃ k ∈ l, inB all k = true := ⟨l[i], List.getElem_mem hi, h1⟩
   rw [decide_eq_true this]
   show some (decide (0 <= (i : Int))) = some true
   rw [decide_eq_true (by omega)]
 ·intro n i x hx hi
  simp only [m_ixI_l1];rw [decide_eq_true (show (i : Int) < l.length by omega), cond_true, getI hx, Option.bind_some, show m_graph_right_1 x all = some (inB all x) from rfl, Option.bind_some];exact ⟨fun hq => by rw [hq, cond_false, grd_pos (by omega)], fun hq => by rw [hq, cond_true]⟩
 ·intro n
  simp only [m_ixI_l1];rw [decide_eq_false (by omega), cond_false]
theorem routKids_eq (l : List Int) (all : Int) (h : l.length <= 1000) : m_rg_right_l2 all l FU 0 = some (if (∃ k ∈ l, inB all k = true) then .ret false else .go ()) := by
 rw [loop_any (φ := m_rg_right_l2 all l) (l := l) false (fun _ k => inB all k = true) ?_ ?_ (by rw [FUv]; omega)]
 ·have e : (∃ (i : Nat) (x : Int), l[i]? = some x /\ inB all x = true) ↔ ∃ k ∈ l, inB all k = true := by
   constructor
   ·rintro ⟨i, x, h1, h2⟩; exact ⟨x, List.mem_of_getElem? h1, h2⟩
   ·rintro ⟨k, h1, h2⟩; obtain ⟨i, hi⟩ := List.getElem?_of_mem h1; exact ⟨i, k, hi, h2⟩
  by_cases h2 : ∃ k ∈ l, inB all k = true
  ·rw [if_pos (e.2 h2), if_pos h2]
  ·rw [if_neg (fun h3 => h2 (e.1 h3)), if_neg h2]
 ·intro n i x hx hi
  simp only [m_rg_right_l2];rw [decide_eq_true (show (i : Int) < l.length by omega), cond_true, getI hx, Option.bind_some, Option.bind_some, bt, Option.bind_some]
  change (¬ inB all x = true -> (bif inB all x then _ else _) = _) /\ (inB all x = true -> (bif inB all x then _ else _) = _)
  cases inB all x
  ·exact ⟨fun _ => by rw [cond_false, grd_pos (by omega)], fun h => by cases h⟩
  ·exact ⟨fun h => absurd rfl h, fun _ => by rw [cond_true]⟩
 ·intro n
  simp only [m_rg_right_l2];rw [decide_eq_false (by omega), cond_false]
noncomputable def rightB (n : ApiTNode) (all : Int) : Bool :=
 !(decide (n.kind < 1) || decide (11 < n.kind)) && (!((!pB n.kind) && ((!decide (n.b = 0)) || ((!decide (n.kind = 11)) && (!decide (n.a = 0))))) && (!(decide (n.kind = 11) && (decide (n.a < 0) || decide (999 < n.a))) &&
  (!((!wB n.kind) && decide (0 < (n.l.length : Int))) && ((decide (namedP n) && decide ((n.l.length : Int) <= 30)) && !decide (∃ k ∈ kidsL n, inB all k = true)))))
theorem right_eq (n : ApiTNode) (all : Int) (h : NB n) : m_graph_right n all = some (rightB n all) := by
 unfold m_graph_right rightB;rw [show m_graph_pair n.kind = some (pB n.kind) from rfl, show m_graph_wide n.kind = some (wB n.kind) from rfl, Option.bind_some, Option.bind_some, named_eq n h, kids_eq n h, Option.bind_some, Option.bind_some, outKids_eq _ _ (by have := kidsL_len n h; omega), Option.bind_some]
 cases (decide (n.kind < 1) || decide (11 < n.kind))
 ·cases ((!pB n.kind) && ((!decide (n.b = 0)) || ((!decide (n.kind = 11)) && (!decide (n.a = 0)))))
  ·cases (decide (n.kind = 11) && (decide (n.a < 0) || decide (999 < n.a)))
   ·cases ((!wB n.kind) && decide (0 < (n.l.length : Int)))
    ·cases (decide (namedP n) && decide ((n.l.length : Int) <= 30)) <;> rfl
    ·rfl
   ·rfl
  ·rfl
 ·rfl
theorem rright_eq (n : ApiTNode) (all : Int) (h : NB n) : m_rg_right n all = some (rightB n all) := by
 unfold m_rg_right rightB;rw [rnamed_eq n h, rkids_eq n h, Option.bind_some, Option.bind_some, routKids_eq _ _ (by have := kidsL_len n h; omega), Option.bind_some]
 change (bif ((((((decide (n.kind < 1)) || (decide (11 < n.kind))) || (((!pB n.kind) && (!decide (n.kind = 11))) && (!decide (n.a = 0)))) || ((!pB n.kind) && (!decide (n.b = 0)))) || ((!wB n.kind) && (decide (0 < (n.l.length : Int))))) || (decide (30 < (n.l.length : Int)))) then _ else _) = _
 rw [show decide (30 < (n.l.length : Int)) = !decide ((n.l.length : Int) <= 30) by rw [<- decide_not]; exact decide_eq_decide.2 (by omega)]
 by_cases hn : namedP n
 ·rw [if_pos hn, decide_eq_true hn]
  by_cases hk : ∃ k ∈ kidsL n, inB all k = true
  ·rw [if_pos hk, decide_eq_true hk]
   cases decide (n.kind < 1) <;> cases decide (11 < n.kind) <;> cases pB n.kind <;> cases wB n.kind <;> cases decide (n.kind = 11) <;> cases decide (n.a = 0) <;> cases decide (n.b = 0) <;> cases decide (0 < (n.l.length : Int)) <;> cases decide ((n.l.length : Int) <= 30) <;> cases decide (n.a < 0) <;> cases decide (999 < n.a) <;> rfl
  ·rw [if_neg hk, decide_eq_false hk]
   cases decide (n.kind < 1) <;> cases decide (11 < n.kind) <;> cases pB n.kind <;> cases wB n.kind <;> cases decide (n.kind = 11) <;> cases decide (n.a = 0) <;> cases decide (n.b = 0) <;> cases decide (0 < (n.l.length : Int)) <;> cases decide ((n.l.length : Int) <= 30) <;> cases decide (n.a < 0) <;> cases decide (999 < n.a) <;> rfl
 ·rw [if_neg hn, decide_eq_false hn]
  cases decide (n.kind < 1) <;> cases decide (11 < n.kind) <;> cases pB n.kind <;> cases wB n.kind <;> cases decide (n.kind = 11) <;> cases decide (n.a = 0) <;> cases decide (n.b = 0) <;> cases decide (0 < (n.l.length : Int)) <;> cases decide ((n.l.length : Int) <= 30) <;> cases decide (n.a < 0) <;> cases decide (999 < n.a) <;> rfl
end Go.Proofs.YtkfnogdccpcmhaaGreatDoor
namespace Go.Proofs.YtkfnogdccpcmhaaGreatDoor
open Go.V
open Classical
def latB (k : Int) : Bool := decide (k = 9) || decide (k = 10)
def endk (L : List ApiTNode) : Nat -> Nat -> Bool
 | 0, _ => false
 | k + 1, i => match L[i]? with
  | some n => !latB n.kind || (endk L k n.a.toNat && endk L k n.b.toNat)
  | none => false
theorem endk_succ (L : List ApiTNode) : ∀ (k i : Nat), endk L k i = true -> endk L (k + 1) i = true
 | 0, i, h => by simp [endk] at h
 | k + 1, i, h => by
  unfold endk at h ⊢
  cases hq : L[i]? with
  | none => rw [hq] at h; exact h
  | some n =>
   rw [hq] at h
   simp only at h ⊢
   cases hl : latB n.kind
   ·rfl
   ·rw [hl] at h
    simp only [Bool.not_true, Bool.false_or, Bool.and_eq_true] at h ⊢;exact ⟨endk_succ L k _ h.1, endk_succ L k _ h.2⟩
theorem endk_mono {L : List ApiTNode} {k m i : Nat} (hkm : k <= m) (h : endk L k i = true) : endk L m i = true := by
 induction hkm with
 | refl => exact h
 | step _ ih => exact endk_succ L _ _ ih
def Ends (L : List ApiTNode) (i : Nat) : Prop := ∃ k, endk L k i = true
def AllEnds (L : List ApiTNode) : Prop := ∀ i, i < L.length -> Ends L i
def InL (L : List ApiTNode) : Prop := ∀ n ∈ L, ∀ k ∈ kidsL n, 0 <= k /\ k < (L.length : Int)
theorem lat_kids {n : ApiTNode} (h : latB n.kind = true) : kidsL n = [n.a, n.b] := by
 unfold kidsL
 have : pB n.kind = true := by
  unfold latB at h; unfold pB
  rw [Bool.or_eq_true, decide_eq_true_eq, decide_eq_true_eq] at h
  rcases h with h | h <;> rw [h] <;> rfl
 rw [this]; rfl
theorem ends_of {L : List ApiTNode} {i : Nat} {n : ApiTNode} (hi : L[i]? = some n) (h : latB n.kind = true -> Ends L n.a.toNat /\ Ends L n.b.toNat) : Ends L i := by
 cases hl : latB n.kind with
 | false => exact ⟨1, by simp [endk, hi, hl]⟩
 | true =>
  obtain ⟨⟨k1, h1⟩, ⟨k2, h2⟩⟩ := h hl;exact ⟨max k1 k2 + 1, by simp [endk, hi, hl, endk_mono (Nat.le_max_left k1 k2) h1, endk_mono (Nat.le_max_right k1 k2) h2]⟩
def cnd (L : List ApiTNode) (l : List Bool) (i : Nat) : Bool := match L[i]? with
 | some n => !latB n.kind || (l.getD n.a.toNat false && l.getD n.b.toNat false)
 | none => false
theorem count_set {l : List Bool} {i : Nat} (h : l[i]? = some false) : (l.set i true).count true = l.count true + 1 := by
 have hi := (List.getElem?_eq_some_iff.1 h).1
 have h2 := (List.getElem?_eq_some_iff.1 h).2
 rw [List.count_set hi, h2]
 simp
theorem cnd_eq {L : List ApiTNode} {l : List Bool} {i : Nat} {n : ApiTNode} (hR : InL L) (hl : l.length = L.length) (hi : L[i]? = some n) {β : Type} (K : Bool -> Option β) :
  ((bif ((!decide (n.kind = 9)) && (!decide (n.kind = 10))) then (some true) else ((idx l n.a).bind fun x4 => (bif x4 then ((idx l n.b).bind fun x5 => some x5) else (some false)).bind fun p2 => some p2)).bind K) = K (cnd L l i) := by
 have e : ((!decide (n.kind = 9)) && (!decide (n.kind = 10))) = !latB n.kind := by unfold latB; rw [Bool.not_or]
 rw [e];unfold cnd;rw [hi]
 simp only
 cases hb : latB n.kind with
 | false => simp
 | true =>
  have hk := hR n (List.mem_of_getElem? hi)
  rw [lat_kids hb] at hk;obtain ⟨a0, a1⟩ := hk n.a (by simp);obtain ⟨b0, b1⟩ := hk n.b (by simp)
  have ha : l[n.a.toNat]? = some (l[n.a.toNat]'(by omega)) := List.getElem?_eq_getElem (by omega)
  have hb2 : l[n.b.toNat]? = some (l[n.b.toNat]'(by omega)) := List.getElem?_eq_getElem (by omega)
  have ia : idx l n.a = some (l[n.a.toNat]'(by omega)) := by rw [<- ha]; unfold idx; rw [if_pos a0]
  have ib : idx l n.b = some (l[n.b.toNat]'(by omega)) := by rw [<- hb2]; unfold idx; rw [if_pos b0]
  rw [Bool.not_true, cond_false, ia, Option.bind_some, ib, Option.bind_some, List.getD_eq_getElem?_getD, List.getD_eq_getElem?_getD, ha, hb2]
  cases l[n.a.toNat]'(by omega) <;> simp
theorem pass {t : ApiType} (hR : InL t.l) (hlen : t.l.length <= 2001) (l0 : List Bool) (h0 : l0.length = t.l.length) (hs : ∀ i : Nat, l0[i]? = some true -> Ends t.l i) :
  ∃ m l, m_rg_May_l3 t FU (false, 0, l0) = some (m, l) /\ l.length = t.l.length /\ (∀ i : Nat, l[i]? = some true -> Ends t.l i) /\ (m = false -> l = l0 /\ ∀ j, j < t.l.length -> cnd t.l l0 j = true -> l0[j]? = some true) /\ (m = true -> l0.count true < l.count true) := by
 obtain ⟨o, h1, h2⟩ := loop_rng (φ := fun n i (s : Bool × List Bool) => m_rg_May_l3 t n (s.1, i, s.2)) (l := t.l)
  (fun i s => s.2.length = t.l.length /\ (∀ i : Nat, s.2[i]? = some true -> Ends t.l i) /\ l0.count true <= s.2.count true /\ (s.1 = false -> s.2 = l0 /\ ∀ j, j < i -> cnd t.l l0 j = true -> l0[j]? = some true) /\ (s.1 = true -> l0.count true < s.2.count true))
  (fun o : Bool × List Bool => o.2.length = t.l.length /\ (∀ i : Nat, o.2[i]? = some true -> Ends t.l i) /\ (o.1 = false -> o.2 = l0 /\ ∀ j, j < t.l.length -> cnd t.l l0 j = true -> l0[j]? = some true) /\ (o.1 = true -> l0.count true < o.2.count true))
  (by
   rintro n i x ⟨m, l⟩ hx hi ⟨i1, i2, i3, i4, i5⟩
   simp only at i1 i2 i3 i4 i5
   left
   simp only [m_rg_May_l3];rw [decide_eq_true (show (i : Int) < t.l.length by omega), cond_true, getI hx, Option.bind_some, cnd_eq hR i1 hx]
   have hy : l[i]? = some (l[i]'(by omega)) := List.getElem?_eq_getElem (by omega)
   cases hc : cnd t.l l i with
   | false =>
    refine ⟨(m, l), by rw [cond_false, Option.bind_some, cond_false, grd_pos (by omega)], i1, i2, i3, fun hm => ⟨(i4 hm).1, fun j hj hcj => ?_⟩, i5⟩
    by_cases hji : j = i
    ·subst hji; rw [<- (i4 hm).1, hc] at hcj; cases hcj
    ·exact (i4 hm).2 j (by omega) hcj
   | true =>
    rw [cond_true, getI hy, Option.bind_some, Option.bind_some]
    cases hv : l[i]'(by omega) with
    | true =>
     refine ⟨(m, l), by rw [Bool.not_true, cond_false, grd_pos (by omega)], i1, i2, i3, fun hm => ⟨(i4 hm).1, fun j hj hcj => ?_⟩, i5⟩
     by_cases hji : j = i
     ·subst hji; rw [<- (i4 hm).1, hy, hv]
     ·exact (i4 hm).2 j (by omega) hcj
    | false =>
     rw [hv] at hy
     have hct := count_set hy
     refine ⟨(true, l.set i true), by rw [Bool.not_false, cond_true, Option.bind_some, grd_pos (by omega), Int.toNat_natCast], by simpa using i1, fun j hj => ?_, by simp only; omega, fun h => (by cases h), fun _ => by simp only; omega⟩
     simp only at hj
     rw [List.getElem?_set] at hj
     by_cases hji : i = j
     ·subst hji
      refine ends_of hx fun hlat => ?_
      have hk := hR x (List.mem_of_getElem? hx)
      rw [lat_kids hlat] at hk;unfold cnd at hc;rw [hx] at hc;simp only [hlat, Bool.not_true, Bool.false_or, Bool.and_eq_true] at hc;rw [List.getD_eq_getElem?_getD, List.getD_eq_getElem?_getD] at hc
      constructor
      ·refine i2 _ ?_
       cases hq : l[x.a.toNat]? with
       | none => rw [hq] at hc; simp at hc
       | some v => rw [hq] at hc; simp at hc; rw [hc.1]
      ·refine i2 _ ?_
       cases hq : l[x.b.toNat]? with
       | none => rw [hq] at hc; simp at hc
       | some v => rw [hq] at hc; simp at hc; rw [hc.2]
     ·rw [if_neg hji] at hj; exact i2 j hj)
  (by
   rintro n ⟨m, l⟩ ⟨i1, i2, i3, i4, i5⟩;refine ⟨(m, l), ?_, i1, i2, i4, i5⟩;simp only [m_rg_May_l3];rw [decide_eq_false (by omega), cond_false]) (by rw [FUv]; omega) (false, l0) ⟨h0, hs, Nat.le_refl _, fun _ => ⟨rfl, fun j hj => by omega⟩, fun h => by cases h⟩
 obtain ⟨a, b, c, d⟩ := h2;exact ⟨o.1, o.2, h1, a, b, c, d⟩
theorem closed_ends {L : List ApiTNode} {l : List Bool} (hl : l.length = L.length) (hR : InL L) (hc : ∀ j, j < L.length -> cnd L l j = true -> l[j]? = some true) : ∀ (k i : Nat), i < L.length -> endk L k i = true -> l[i]? = some true
 | 0, i, _, h => by simp [endk] at h
 | k + 1, i, hi, h => by
  refine hc i hi ?_;unfold endk at h;unfold cnd
  have hx : L[i]? = some L[i] := List.getElem?_eq_getElem hi
  rw [hx] at h ⊢
  simp only at h ⊢
  cases hlat : latB (L[i]).kind with
  | false => rfl
  | true =>
   have hk := hR L[i] (List.getElem_mem hi)
   rw [lat_kids hlat] at hk;obtain ⟨a0, a1⟩ := hk (L[i]).a (by simp);obtain ⟨b0, b1⟩ := hk (L[i]).b (by simp);rw [hlat] at h;simp only [Bool.not_true, Bool.false_or, Bool.and_eq_true] at h ⊢
   have e1 := closed_ends hl hR hc k _ (by omega) h.1
   have e2 := closed_ends hl hR hc k _ (by omega) h.2
   rw [List.getD_eq_getElem?_getD, List.getD_eq_getElem?_getD, e1, e2]; exact ⟨rfl, rfl⟩
theorem rounds {t : ApiType} (hR : InL t.l) (hlen : t.l.length <= 2001) :
  ∃ l, m_rg_May_l2 t FU (true, List.replicate t.l.length false) = some l /\ l.length = t.l.length /\ ∀ i, i < t.l.length -> (l[i]? = some true ↔ Ends t.l i) := by
 obtain ⟨l, h1, h2, h3, h4⟩ := loop_inv (φ := m_rg_May_l2 t) (fun s => 2 * (t.l.length - s.2.count true) + (if s.1 = true then 1 else 0))
  (fun s => s.2.length = t.l.length /\ (∀ i : Nat, s.2[i]? = some true -> Ends t.l i) /\ (s.1 = false -> ∀ j, j < t.l.length -> cnd t.l s.2 j = true -> s.2[j]? = some true))
  (fun l => l.length = t.l.length /\ (∀ i : Nat, l[i]? = some true -> Ends t.l i) /\ ∀ j, j < t.l.length -> cnd t.l l j = true -> l[j]? = some true)
  (by
   rintro n ⟨m, l⟩ ⟨i1, i2, i3⟩
   simp only at i1 i2 i3
   cases m with
   | false => exact .inr ⟨l, ⟨i1, i2, i3 rfl⟩, by simp only [m_rg_May_l2]; rfl⟩
   | true =>
    obtain ⟨m, l', e1, e2, e3, e4, e5⟩ := pass hR hlen l i1 i2;refine .inl ⟨(m, l'), ⟨e2, e3, fun hm => ?_⟩, ?_, ?_⟩
    ·simp only at hm ⊢
     obtain ⟨rfl, h⟩ := e4 hm; exact h
    ·have hc1 : l'.count true <= t.l.length := by rw [<- e2]; exact List.count_le_length
     cases m with
     | false => obtain ⟨rfl, _⟩ := e4 rfl; simp
     | true => have := e5 rfl; simp; omega
    ·simp only [m_rg_May_l2]
     rw [cond_true, e1, Option.bind_some])
  FU (true, List.replicate t.l.length false) ⟨by simp, fun i hi => by rw [List.getElem?_replicate] at hi; split at hi <;> simp at hi, fun h => by cases h⟩ (by rw [FUv]; simp only [List.count_replicate]; simp; omega)
 exact ⟨l, h1, h2, fun i hi => ⟨h3 i, fun ⟨k, hk⟩ => closed_ends h2 hR h4 k i hi hk⟩⟩
theorem allTrue_eq (l : List Bool) (h : l.length <= 2001) : m_rg_May_l4 l FU 0 = some (if (∀ b ∈ l, b = true) then .go () else .ret 4) := by
 rw [loop_all (φ := m_rg_May_l4 l) (l := l) 4 (fun _ b => b = true) ?_ ?_ (by rw [FUv]; omega)]
 ·have e : (∀ (i : Nat) (x : Bool), l[i]? = some x -> x = true) ↔ ∀ b ∈ l, b = true := ⟨fun h b hb => by obtain ⟨i, hi⟩ := List.getElem?_of_mem hb; exact h i b hi, fun h i x hx => h x (List.mem_of_getElem? hx)⟩
  by_cases h2 : ∀ b ∈ l, b = true
  ·rw [if_pos (e.2 h2), if_pos h2]
  ·rw [if_neg (fun h3 => h2 (e.1 h3)), if_neg h2]
 ·intro n i x hx hi
  simp only [m_rg_May_l4];rw [decide_eq_true (show (i : Int) < l.length by omega), cond_true, getI hx, Option.bind_some]
  cases x
  ·exact ⟨fun h => (by cases h), fun _ => by rw [Bool.not_false, cond_true]⟩
  ·exact ⟨fun _ => by rw [Bool.not_true, cond_false, grd_pos (by omega)], fun h => absurd rfl h⟩
 ·intro n
  simp only [m_rg_May_l4];rw [decide_eq_false (by omega), cond_false]
end Go.Proofs.YtkfnogdccpcmhaaGreatDoor
namespace Go.Proofs.YtkfnogdccpcmhaaGreatDoor
open Go.V
open Classical
def ColOk (z : List Int) : Prop := ∀ c ∈ z, c = 0 \/ c = 1 \/ c = 2
theorem whites_set {z : List Int} {i : Nat} {c d : Int} (h : z[i]? = some c) : (z.set i d).count 0 + (if c = 0 then 1 else 0) = z.count 0 + (if d = 0 then 1 else 0) := by
 have hi := (List.getElem?_eq_some_iff.1 h).1
 have h2 := (List.getElem?_eq_some_iff.1 h).2
 have hc : c = 0 -> 0 < z.count 0 := fun e => List.count_pos_iff.2 (by rw [<- e]; exact List.mem_of_getElem? h)
 rw [List.count_set hi, h2]
 by_cases h0 : c = 0
 ·have := hc h0
  subst h0
  simp
  split <;> omega
 ·rw [if_neg h0]
  have : (c == 0) = false := by simp [h0]
  rw [this]
  simp
theorem colOk_set {z : List Int} {i : Nat} {d : Int} (h : ColOk z) (hd : d = 0 \/ d = 1 \/ d = 2) : ColOk (z.set i d) := by
 intro c hc
 rcases List.mem_or_eq_of_mem_set hc with h2 | h2
 ·exact h c h2
 ·rw [h2]; exact hd
theorem endk_least {L : List ApiTNode} {i : Nat} : ∀ m, endk L m i = true -> ∃ k, k < m /\ endk L (k + 1) i = true /\ endk L k i = false
 | 0, h => by simp [endk] at h
 | m + 1, h => by
  cases hq : endk L m i with
  | false => exact ⟨m, Nat.lt_succ_self m, h, hq⟩
  | true =>
   obtain ⟨k, h1, h2, h3⟩ := endk_least m hq;exact ⟨k, by omega, h2, h3⟩
theorem endk_false {L : List ApiTNode} {k m i : Nat} (hkm : k <= m) (h : endk L m i = false) : endk L k i = false := by
 cases hq : endk L k i with
 | false => rfl
 | true => rw [endk_mono hkm hq] at h; cases h
structure WalkOk (L : List ApiTNode) (i : Nat) (z : List Int) (b : Bool) (z' : List Int) : Prop where
 len : z'.length = L.length
 col : ColOk z'
 wh : z'.count 0 <= z.count 0
 yes : b = true -> Ends L i /\ (∀ j : Nat, z'[j]? = some 2 -> Ends L j) /\ ∀ j : Nat, z'[j]? = some 1 ↔ z[j]? = some 1
 no : b = false -> ∀ m, endk L m i = true -> (∀ j : Nat, z[j]? = some 1 -> endk L m j = false) -> False
theorem walk_ok {t : ApiType} (hR : InL t.l) (hN : ∀ n ∈ t.l, NB n) (hlen : t.l.length <= 2001) : ∀ (n : Nat) (i : Nat) (z : List Int), i < t.l.length -> z.length = t.l.length -> ColOk z -> z.count 0 < n -> (∀ j : Nat, z[j]? = some 2 -> Ends t.l j) ->
  ∃ b z', m_graph_contractive_1 t n (i : Int) z = some (b, z') /\ WalkOk t.l i z b z'
 | 0, i, z, _, _, _, h, _ => by omega
 | n + 1, i, z, hi, hz, hc, hw, hb => by
  have hx : t.l[i]? = some t.l[i] := List.getElem?_eq_getElem hi
  have hy : z[i]? = some (z[i]'(by omega)) := List.getElem?_eq_getElem (by omega)
  have hcz := hc _ (List.mem_of_getElem? hy)
  show ∃ b z', m_graph_contractive_1F (m_graph_contractive_1 t n) (i : Int) z t = some (b, z') /\ _
  unfold m_graph_contractive_1F;rw [getI hx, Option.bind_some, show m_graph_lattice (t.l[i]).kind = some (latB (t.l[i]).kind) from rfl, Option.bind_some, getI hy, Option.bind_some, Option.bind_some, Option.bind_some]
  generalize hn : t.l[i] = nd at *
  generalize z[i]'(by omega) = c at *
  cases hlat : latB nd.kind with
  | false =>
   refine ⟨true, z, by rw [Bool.not_false, cond_true, Option.bind_some, cond_true], hz, hc, Nat.le_refl _, fun _ => ⟨ends_of hx fun h => (by rw [hlat] at h; cases h), hb, fun j => Iff.rfl⟩, fun h => by cases h⟩
  | true =>
   rw [Bool.not_true, cond_false, Option.bind_some]
   by_cases h2 : c = 2
   ·refine ⟨true, z, by rw [decide_eq_true h2, cond_true], hz, hc, Nat.le_refl _, fun _ => ⟨hb i (by rw [hy, h2]), hb, fun j => Iff.rfl⟩, fun h => by cases h⟩
   rw [decide_eq_false h2, cond_false]
   by_cases h1 : c = 1
   ·refine ⟨false, z, by rw [decide_eq_true h1, cond_true], hz, hc, Nat.le_refl _, fun h => (by cases h), fun _ m hm hg => ?_⟩
    rw [hg i (by rw [hy, h1])] at hm; cases hm
   rw [decide_eq_false h1, cond_false]
   have h0 : c = 0 := by omega
   subst h0
   have hNd : NB nd := by rw [<- hn]; exact hN _ (List.getElem_mem hi)
   rw [Option.bind_some, kids_eq _ hNd, Option.bind_some, Int.toNat_natCast]
   have hk : ∀ k ∈ kidsL nd, 0 <= k /\ k < (t.l.length : Int) := hR nd (List.mem_of_getElem? hx)
   have hkl := kidsL_len nd hNd
   have hwz := whites_set (d := 1) hy
   simp at hwz
   have hz1 : (z.set i 1).length = t.l.length := by simpa using hz
   have gr1 : ∀ j : Nat, (z.set i 1)[j]? = some 1 ↔ (j = i \/ z[j]? = some 1) := by
    intro j
    rw [List.getElem?_set]
    by_cases hji : i = j
    ·subst hji; simp; omega
    ·rw [if_neg hji]; exact ⟨.inr, fun h => h.elim (fun e => absurd e.symm hji) id⟩
   obtain ⟨o, e1, e2⟩ := loop_rng (φ := fun m q s => m_graph_contractive_1_l1 (m_graph_contractive_1 t n) (kidsL nd) m (q, s)) (l := kidsL nd)
    (fun q s => s.length = t.l.length /\ ColOk s /\ s.count 0 <= (z.set i 1).count 0 /\ (∀ j : Nat, s[j]? = some 2 -> Ends t.l j) /\ (∀ j : Nat, s[j]? = some 1 ↔ (z.set i 1)[j]? = some 1) /\ ∀ (p : Nat) k, p < q -> (kidsL nd)[p]? = some k -> Ends t.l k.toNat)
    (fun o => (∃ s, o = Out.ret (false, s) /\ s.length = t.l.length /\ ColOk s /\ s.count 0 <= (z.set i 1).count 0 /\ ∀ m, endk t.l m i = true -> (∀ j : Nat, z[j]? = some 1 -> endk t.l m j = false) -> False) \/
     (∃ s, o = Out.go s /\ s.length = t.l.length /\ ColOk s /\ s.count 0 <= (z.set i 1).count 0 /\ (∀ j : Nat, s[j]? = some 2 -> Ends t.l j) /\ (∀ j : Nat, s[j]? = some 1 ↔ (z.set i 1)[j]? = some 1) /\ ∀ k ∈ kidsL nd, Ends t.l k.toNat))
    (by
     rintro m q k s hkq hq ⟨s1, s2, s3, s4, s5, s6⟩;obtain ⟨k0, k1⟩ := hk k (List.mem_of_getElem? hkq);obtain ⟨b, z', w1, w2⟩ := walk_ok hR hN hlen n k.toNat s (by omega) s1 s2 (by omega) s4;rw [Int.toNat_of_nonneg k0] at w1;simp only [m_graph_contractive_1_l1];rw [decide_eq_true (show (q : Int) < (kidsL nd).length by omega), cond_true, getI hkq, Option.bind_some, w1, Option.bind_some]
     dsimp only
     cases b with
     | true =>
      obtain ⟨y1, y2, y3⟩ := w2.yes rfl;refine .inl ⟨z', by rw [Bool.not_true, cond_false, grd_pos (by omega)], w2.len, w2.col, Nat.le_trans w2.wh s3, y2, fun j => (y3 j).trans (s5 j), fun p k' hp hk' => ?_⟩
      by_cases hpq : p = q
      ·subst hpq; rw [hkq] at hk'; cases hk'; exact y1
      ·exact s6 p k' (by omega) hk'
     | false =>
      refine .inr ⟨_, by rw [Bool.not_false, cond_true], .inl ⟨z', rfl, w2.len, w2.col, Nat.le_trans w2.wh s3, fun m hm hg => ?_⟩⟩;obtain ⟨r, r1, r2, r3⟩ := endk_least m hm;refine w2.no rfl r ?_ fun j hj => ?_
      ·unfold endk at r2
       rw [hx] at r2;simp only [hlat, Bool.not_true, Bool.false_or, Bool.and_eq_true] at r2
       have := List.mem_of_getElem? hkq
       rw [lat_kids hlat] at this;simp only [List.mem_cons, List.not_mem_nil, or_false] at this
       rcases this with rfl | rfl
       ·exact r2.1
       ·exact r2.2
      ·rcases (gr1 j).1 ((s5 j).1 hj) with rfl | hj
       ·exact r3
       ·exact endk_false (by omega) (hg j hj))
    (by
     rintro m s ⟨s1, s2, s3, s4, s5, s6⟩;refine ⟨Out.go s, ?_, .inr ⟨s, rfl, s1, s2, s3, s4, s5, fun k hk' => ?_⟩⟩
     ·simp only [m_graph_contractive_1_l1]
      rw [decide_eq_false (by omega), cond_false]
     ·obtain ⟨p, hp⟩ := List.getElem?_of_mem hk'
      exact s6 p k (getLt hp) hp)
    (by rw [FUv]; omega) (z.set i 1) ⟨hz1, colOk_set hc (by omega), Nat.le_refl _, fun j hj => (by
     rw [List.getElem?_set] at hj
     by_cases hji : i = j
     ·rw [if_pos hji] at hj; split at hj <;> simp at hj
     ·rw [if_neg hji] at hj; exact hb j hj), fun j => Iff.rfl, fun p k hp => by omega⟩
   rw [e1, Option.bind_some]
   rcases e2 with ⟨s, rfl, s1, s2, s3, s4⟩ | ⟨s, rfl, s1, s2, s3, s4, s5, s6⟩
   ·exact ⟨false, s, rfl, s1, s2, by omega, fun h => (by cases h), fun _ => s4⟩
   ·have hsi : s[i]? = some 1 := (s5 i).2 ((gr1 i).2 (.inl rfl))
    have hws := whites_set (d := 2) hsi
    simp at hws
    have hE : Ends t.l i := ends_of hx fun _ => by
     rw [lat_kids hlat] at s6;exact ⟨s6 _ (by simp), s6 _ (by simp)⟩
    refine ⟨true, s.set i 2, by show (idx s (i : Int)).bind _ = _; rw [getI hsi, Option.bind_some], by simpa using s1, colOk_set s2 (by omega), by omega, fun _ => ⟨hE, fun j hj => ?_, fun j => ?_⟩, fun h => by cases h⟩
    ·rw [List.getElem?_set] at hj
     by_cases hji : i = j
     ·subst hji; exact hE
     ·rw [if_neg hji] at hj; exact s4 j hj
    ·rw [List.getElem?_set]
     by_cases hji : i = j
     ·subst hji; rw [if_pos rfl, hy]; split <;> simp
     ·rw [if_neg hji, s5 j, gr1 j]
      exact ⟨fun h => h.elim (fun e => absurd e.symm hji) id, .inr⟩
theorem contractive_eq {t : ApiType} (hR : InL t.l) (hN : ∀ n ∈ t.l, NB n) (hlen : t.l.length <= 2001) : m_graph_contractive t = some (decide (AllEnds t.l)) := by
 unfold m_graph_contractive;rw [grd_pos (by omega), grd_pos (by omega), Int.toNat_natCast];obtain ⟨o, e1, e2⟩ := loop_rng (φ := fun m q s => m_graph_contractive_l1 t m (q, s)) (l := t.l)
  (fun q s => s.length = t.l.length /\ ColOk s /\ (∀ j : Nat, s[j]? = some 2 -> Ends t.l j) /\ (∀ j : Nat, ¬ s[j]? = some 1) /\ ∀ p, p < q -> Ends t.l p)
  (fun o => (o = Out.ret false /\ ¬ AllEnds t.l) \/ ∃ s, o = Out.go s /\ AllEnds t.l)
  (by
   rintro m q nd s hnd hq ⟨s1, s2, s3, s4, s5⟩;obtain ⟨b, z', w1, w2⟩ := walk_ok hR hN hlen FU q s hq s1 s2 (by have := List.count_le_length (a := (0 : Int)) (l := s); rw [FUv]; omega) s3;simp only [m_graph_contractive_l1];rw [decide_eq_true (show (q : Int) < t.l.length by omega), cond_true, w1, Option.bind_some]
   dsimp only
   cases b with
   | true =>
    obtain ⟨y1, y2, y3⟩ := w2.yes rfl;refine .inl ⟨z', by rw [Bool.not_true, cond_false, grd_pos (by omega)], w2.len, w2.col, y2, fun j hj => s4 j ((y3 j).1 hj), fun p hp => ?_⟩
    by_cases hpq : p = q
    ·subst hpq; exact y1
    ·exact s5 p (by omega)
   | false =>
    refine .inr ⟨_, by rw [Bool.not_false, cond_true], .inl ⟨rfl, fun hA => ?_⟩⟩;obtain ⟨k, hk⟩ := hA q hq;exact w2.no rfl k hk fun j hj => absurd hj (s4 j))
  (by
   rintro m s ⟨s1, s2, s3, s4, s5⟩;refine ⟨Out.go s, ?_, .inr ⟨s, rfl, s5⟩⟩;simp only [m_graph_contractive_l1];rw [decide_eq_false (by omega), cond_false])
  (by rw [FUv]; omega) (List.replicate t.l.length 0) ⟨by simp, fun c hc => (by rw [List.mem_replicate] at hc; exact .inl hc.2), fun j hj => (by rw [List.getElem?_replicate] at hj; split at hj <;> simp at hj), fun j hj => (by rw [List.getElem?_replicate] at hj; split at hj <;> simp at hj), fun p hp => by omega⟩
 rw [e1, Option.bind_some]
 rcases e2 with ⟨rfl, h⟩ | ⟨s, rfl, h⟩
 ·rw [decide_eq_false h]; rfl
 ·rw [decide_eq_true h]; rfl
end Go.Proofs.YtkfnogdccpcmhaaGreatDoor
namespace Go.Proofs.YtkfnogdccpcmhaaGreatDoor
open Go.V
open Classical
def AllRight (L : List ApiTNode) : Prop := ∀ n ∈ L, rightB n L.length = true
theorem right_in {n : ApiTNode} {all : Int} (h : rightB n all = true) : ∀ k ∈ kidsL n, 0 <= k /\ k < all := by
 intro k hk
 unfold rightB at h;simp only [Bool.and_eq_true, Bool.not_eq_true', decide_eq_false_iff_not] at h
 have h2 := h.2.2.2.2.2
 have : inB all k = false := by
  cases hq : inB all k with
  | false => rfl
  | true => exact absurd ⟨k, hk, hq⟩ h2
 unfold inB at this;rw [Bool.or_eq_false_iff, decide_eq_false_iff_not, decide_eq_false_iff_not] at this
 omega
theorem allRight_in {L : List ApiTNode} (h : AllRight L) : InL L := fun n hn k hk => right_in (h n hn) k hk
theorem wrong_eq (t : ApiType) (hlen : t.l.length <= 2001) (hN : ∀ n ∈ t.l, NB n) : m_cnN t.l (fun y0 => m_graph_May_1 y0 t) = some (!decide (AllRight t.l)) := by
 unfold m_cnN m_ixN;rw [loop_find (φ := m_ixN_l1 t.l (fun y0 => m_graph_May_1 y0 t)) (l := t.l) (fun i => (i : Int)) (fun n => !rightB n t.l.length) ?_ ?_ (by rw [FUv]; omega)]
 ·rw [Option.bind_some]
  cases hf : t.l.findIdx? (fun n => !rightB n t.l.length) with
  | none =>
   have : AllRight t.l := by
    intro n hn
    have := List.findIdx?_eq_none_iff.1 hf n hn
    simpa using this
   rw [decide_eq_true this]; rfl
  | some i =>
   obtain ⟨hi, h1, _⟩ := List.findIdx?_eq_some_iff_getElem.1 hf
   have : ¬ AllRight t.l := fun h => by
    rw [h _ (List.getElem_mem hi)] at h1; cases h1
   rw [decide_eq_false this]
   show some (decide (0 <= (i : Int))) = some true
   rw [decide_eq_true (by omega)]
 ·intro n i x hx hi
  simp only [m_ixN_l1];rw [decide_eq_true (show (i : Int) < t.l.length by omega), cond_true, getI hx, Option.bind_some, show m_graph_May_1 x t = some (!rightB x t.l.length) by unfold m_graph_May_1; rw [right_eq _ _ (hN x (List.mem_of_getElem? hx)), Option.bind_some], Option.bind_some];exact ⟨fun hq => by rw [hq, cond_false, grd_pos (by omega)], fun hq => by rw [hq, cond_true]⟩
 ·intro n
  simp only [m_ixN_l1];rw [decide_eq_false (by omega), cond_false]
theorem rwrong_eq (t : ApiType) (hlen : t.l.length <= 2001) (hN : ∀ n ∈ t.l, NB n) : m_rg_May_l1 t FU 0 = some (if AllRight t.l then .go () else .ret 4) := by
 rw [loop_all (φ := m_rg_May_l1 t) (l := t.l) 4 (fun _ n => rightB n t.l.length = true) ?_ ?_ (by rw [FUv]; omega)]
 ·have e : (∀ (i : Nat) (x : ApiTNode), t.l[i]? = some x -> rightB x t.l.length = true) ↔ AllRight t.l := ⟨fun h b hb => by obtain ⟨i, hi⟩ := List.getElem?_of_mem hb; exact h i b hi, fun h i x hx => h x (List.mem_of_getElem? hx)⟩
  by_cases h2 : AllRight t.l
  ·rw [if_pos (e.2 h2), if_pos h2]
  ·rw [if_neg (fun h3 => h2 (e.1 h3)), if_neg h2]
 ·intro n i x hx hi
  simp only [m_rg_May_l1];rw [decide_eq_true (show (i : Int) < t.l.length by omega), cond_true, getI hx, Option.bind_some, rright_eq _ _ (hN x (List.mem_of_getElem? hx)), Option.bind_some]
  cases rightB x t.l.length
  ·exact ⟨fun h => (by cases h), fun _ => by rw [Bool.not_false, cond_true]⟩
  ·exact ⟨fun _ => by rw [Bool.not_true, cond_false, grd_pos (by omega)], fun h => absurd rfl h⟩
 ·intro n
  simp only [m_rg_May_l1];rw [decide_eq_false (by omega), cond_false]
noncomputable def mayT (L : List ApiTNode) (root : Int) : Int := if L.length = 0 \/ 2000 < L.length then 8 else if root < 0 \/ (L.length : Int) <= root then 4 else if AllRight L /\ AllEnds L then 0 else 4
theorem may_eq (t : ApiType) (hlen : t.l.length <= 2001) (hN : ∀ n ∈ t.l, NB n) : m_graph_May t = some (mayT t.l t.root) := by
 unfold m_graph_May mayT
 by_cases h0 : t.l.length = 0 \/ 2000 < t.l.length
 ·rw [if_pos h0, show (decide ((t.l.length : Int) = 0) || decide (2000 < (t.l.length : Int))) = true by rw [Bool.or_eq_true, decide_eq_true_eq, decide_eq_true_eq]; omega, cond_true]
 rw [if_neg h0, decide_eq_false (by omega), decide_eq_false (by omega), Bool.or_false, cond_false]
 by_cases hr : t.root < 0 \/ (t.l.length : Int) <= t.root
 ·rw [if_pos hr, show (decide (t.root < 0) || decide ((t.l.length : Int) <= t.root)) = true by rw [Bool.or_eq_true, decide_eq_true_eq, decide_eq_true_eq]; exact hr, cond_true]
 rw [if_neg hr, decide_eq_false (by omega), decide_eq_false (by omega), Bool.or_false, cond_false, wrong_eq t hlen hN, Option.bind_some]
 by_cases hA : AllRight t.l
 ·rw [decide_eq_true hA, Bool.not_true, cond_false, contractive_eq (allRight_in hA) hN hlen, Option.bind_some]
  by_cases hE : AllEnds t.l
  ·rw [decide_eq_true hE, if_pos ⟨hA, hE⟩]; rfl
  ·rw [decide_eq_false hE, if_neg (fun h => hE h.2)]; rfl
 ·rw [decide_eq_false hA, Bool.not_false, cond_true, if_neg (fun h => hA h.1)]; rfl
theorem rmay_eq (t : ApiType) (hlen : t.l.length <= 2001) (hN : ∀ n ∈ t.l, NB n) : m_rg_May t = some (mayT t.l t.root) := by
 unfold m_rg_May mayT
 by_cases h0 : t.l.length = 0 \/ 2000 < t.l.length
 ·rw [if_pos h0, show (decide ((t.l.length : Int) < 1) || decide (2000 < (t.l.length : Int))) = true by rw [Bool.or_eq_true, decide_eq_true_eq, decide_eq_true_eq]; omega, cond_true]
 rw [if_neg h0, decide_eq_false (by omega), decide_eq_false (by omega), Bool.or_false, cond_false]
 by_cases hr : t.root < 0 \/ (t.l.length : Int) <= t.root
 ·rw [if_pos hr, show (decide (t.root < 0) || decide ((t.l.length : Int) <= t.root)) = true by rw [Bool.or_eq_true, decide_eq_true_eq, decide_eq_true_eq]; exact hr, cond_true]
 rw [if_neg hr, decide_eq_false (by omega), decide_eq_false (by omega), Bool.or_false, cond_false, rwrong_eq t hlen hN, Option.bind_some]
 by_cases hA : AllRight t.l
 ·rw [if_pos hA]
  show grd _ _ = _
  rw [grd_pos (by omega), grd_pos (by omega), Int.toNat_natCast];obtain ⟨l, l1, l2, l3⟩ := rounds (allRight_in hA) hlen;rw [l1, Option.bind_some, allTrue_eq l (by omega), Option.bind_some]
  have e : (∀ b ∈ l, b = true) ↔ AllEnds t.l := by
   constructor
   ·intro h i hi
    have hx : l[i]? = some (l[i]'(by omega)) := List.getElem?_eq_getElem (by omega)
    rw [h _ (List.getElem_mem (by omega))] at hx;exact (l3 i hi).1 hx
   ·intro h b hb
    obtain ⟨i, hi⟩ := List.getElem?_of_mem hb
    have hlt := getLt hi
    have := (l3 i (by omega)).2 (h i (by omega))
    rw [hi] at this; exact Option.some.inj this
  by_cases hE : AllEnds t.l
  ·rw [if_pos (e.2 hE), if_pos ⟨hA, hE⟩]; rfl
  ·rw [if_neg (fun h => hE (e.1 h)), if_neg (fun h => hE h.2)]; rfl
 ·rw [if_neg hA, if_neg (fun h => hA h.1)]; rfl
theorem mayT_ok {L : List ApiTNode} {r : Int} (h : mayT L r = 0) : 0 < L.length /\ L.length <= 2000 /\ 0 <= r /\ r < L.length /\ AllRight L /\ AllEnds L := by
 unfold mayT at h
 split at h
 ·omega
 ·split at h
  ·omega
  ·split at h
   ·rename_i h1 h2 h3; exact ⟨by omega, by omega, by omega, by omega, h3.1, h3.2⟩
   ·omega
end Go.Proofs.YtkfnogdccpcmhaaGreatDoor
namespace Go.Proofs.YtkfnogdccpcmhaaGreatDoor
open Go.V
open Classical
theorem reverse_eq (s : List Int) (h : s.length <= 1000) : m_rvI s = some s.reverse := by
 unfold m_rvI;rw [grd_pos (by omega)];obtain ⟨o, e1, e2⟩ := loop_inv (φ := m_rvI_l1) (fun st => (st.2.1 + 1 - st.1).toNat)
  (fun st => 0 <= st.1 /\ -1 <= st.2.1 /\ st.1 + st.2.1 = (s.length : Int) - 1 /\ st.1 <= st.2.1 + 2 /\ st.2.2.length = s.length /\ ∀ k : Nat, k < s.length -> st.2.2[k]? = if (k : Int) < st.1 \/ st.2.1 < (k : Int) then s.reverse[k]? else s[k]?)
  (fun o => o = s.reverse)
  (by
   rintro n ⟨i, j, l⟩ ⟨h0, h1, h2, h3, h4, h5⟩
   simp only at h0 h1 h2 h3 h4 h5
   by_cases hij : i < j
   ·left
    obtain ⟨a, rfl⟩ := Int.eq_ofNat_of_zero_le h0;obtain ⟨b, rfl⟩ := Int.eq_ofNat_of_zero_le (show 0 <= j by omega)
    have ha : a < s.length := by omega
    have hb : b < s.length := by omega
    have la : l[a]? = some s[a] := by rw [h5 a ha, if_neg (by omega), List.getElem?_eq_getElem ha]
    have lb : l[b]? = some s[b] := by rw [h5 b hb, if_neg (by omega), List.getElem?_eq_getElem hb]
    have lb2 : (l.set a s[b])[b]? = some s[b] := by rw [List.getElem?_set_ne (by omega)]; exact lb
    refine ⟨((a : Int) + 1, (b : Int) - 1, (l.set a s[b]).set b s[a]), ⟨by simp only; omega, by simp only; omega, by simp only; omega, by simp only; omega, by simpa using h4, fun k hk => ?_⟩, by simp only; omega, ?_⟩
    ·simp only
     by_cases hkb : k = b
     ·subst hkb
      rw [List.getElem?_set_self (by simp; omega), if_pos (by omega), List.getElem?_reverse hk, List.getElem?_eq_getElem (by omega)]
      congr 2; omega
     ·rw [List.getElem?_set_ne (by omega)]
      by_cases hka : k = a
      ·subst hka
       rw [List.getElem?_set_self (by omega), if_pos (by omega), List.getElem?_reverse hk, List.getElem?_eq_getElem (by omega)]
       congr 2; omega
      ·rw [List.getElem?_set_ne (by omega), h5 k hk]
       by_cases hc : (k : Int) < a \/ (b : Int) < k
       ·rw [if_pos hc, if_pos (by omega)]
       ·rw [if_neg hc, if_neg (by omega)]
    ·simp only [m_rvI_l1]
     rw [decide_eq_true hij, cond_true, getI lb, Option.bind_some, getI la, Option.bind_some, Option.bind_some, Option.bind_some, Int.toNat_natCast, Int.toNat_natCast, getI lb2, Option.bind_some, grd_pos (by omega), grd_pos (by omega)]
   ·right
    refine ⟨l, ?_, by simp only [m_rvI_l1]; rw [decide_eq_false hij, cond_false]⟩;refine List.ext_getElem? fun k => ?_
    by_cases hk : k < s.length
    ·rw [h5 k hk]
     split
     ·rfl
     ·rw [List.getElem?_reverse hk]; congr 1; omega
    ·rw [List.getElem?_eq_none (by omega), List.getElem?_eq_none (by simp; omega)])
  FU (0, (s.length : Int) - 1, s) ⟨by simp only; omega, by simp only; omega, by simp only; omega, by simp only; omega, rfl, fun k hk => by simp only; rw [if_neg (by omega)]⟩ (by rw [FUv]; simp only; omega)
 rw [e1, e2]
def kat (L : List ApiTNode) (i : Int) : List Int := match L[i.toNat]? with
 | some n => kidsL n
 | none => []
noncomputable def dfs (K : Int -> List Int) : Nat -> List Int -> List Int -> List Int
 | 0, _, out => out
 | _ + 1, [], out => out
 | n + 1, x :: s, out => if x ∈ out then dfs K n s out else dfs K n (K x ++ s) (out ++ [x])
theorem sum_flip (f g : Nat -> Nat) (i : Nat) : ∀ l : List Nat, l.Nodup -> i ∈ l -> (∀ j ∈ l, j ≠ i -> f j = g j) -> (l.map f).sum + g i = (l.map g).sum + f i
 | [], _, h, _ => by simp at h
 | j :: l, hn, hi, he => by
  rw [List.nodup_cons] at hn;simp only [List.map_cons, List.sum_cons]
  by_cases hji : j = i
  ·subst hji
   have : l.map f = l.map g := List.map_congr_left fun k hk => he k (by simp [hk]) (fun e => hn.1 (e ▸ hk))
   rw [this]; omega
  ·have := sum_flip f g i l hn.2 (by simpa [Ne.symm hji] using hi) (fun k hk => he k (by simp [hk]))
   have := he j (by simp) hji
   omega
noncomputable def wt (K : Int -> List Int) (len : Nat) (out : List Int) : Nat := ((List.range len).map (fun (i : Nat) => if (i : Int) ∈ out then 0 else (K (i : Int)).length)).sum
theorem wt_add {K : Int -> List Int} {len : Nat} {out : List Int} {i : Nat} (hi : i < len) (ho : ¬ (i : Int) ∈ out) : wt K len (out ++ [(i : Int)]) + (K i).length = wt K len out := by
 have := sum_flip (fun (j : Nat) => if (j : Int) ∈ out ++ [(i : Int)] then 0 else (K (j : Int)).length) (fun (j : Nat) => if (j : Int) ∈ out then 0 else (K (j : Int)).length) i (List.range len) List.nodup_range (List.mem_range.2 hi) (fun j _ hj => by
  have e : ((j : Int) ∈ out ++ [(i : Int)]) ↔ (j : Int) ∈ out := by simp; omega
  by_cases h : (j : Int) ∈ out
  ·rw [if_pos h, if_pos (e.2 h)]
  ·rw [if_neg h, if_neg (fun h2 => h (e.1 h2))])
 rw [if_neg ho, if_pos (by simp)] at this;unfold wt; omega
theorem kat_in {L : List ApiTNode} (hR : InL L) : ∀ i k, k ∈ kat L i -> 0 <= k /\ k < (L.length : Int) := by
 intro i k hk
 unfold kat at hk
 cases hq : L[i.toNat]? with
 | none => rw [hq] at hk; simp at hk
 | some n => rw [hq] at hk; exact hR n (List.mem_of_getElem? hq) k hk
theorem kat_len {L : List ApiTNode} (hN : ∀ n ∈ L, NB n) (i : Int) : (kat L i).length <= 40 := by
 unfold kat
 cases hq : L[i.toNat]? with
 | none => simp
 | some n => exact kidsL_len n (hN n (List.mem_of_getElem? hq))
theorem lastI (s : List Int) (x : Int) : idx (s ++ [x]) (((s ++ [x]).length : Int) - 1) = some x := by
 rw [show (((s ++ [x]).length : Int) - 1) = (s.length : Int) by simp];exact getI (by simp)
theorem initI (s : List Int) (x : Int) : sli (s ++ [x]) 0 (((s ++ [x]).length : Int) - 1) = some s := by
 rw [show (((s ++ [x]).length : Int) - 1) = (s.length : Int) by simp, sli_take (by simp)]
 simp
theorem below_lock {t : ApiType} (hR : InL t.l) (hN : ∀ n ∈ t.l, NB n) (hlen : t.l.length <= 2001) : ∀ (n : Nat) (s out : List Int) (seen : List Bool), (∀ x ∈ s, 0 <= x /\ x < (t.l.length : Int)) -> seen.length = t.l.length ->
  (∀ i : Nat, seen[i]? = some true ↔ ((i : Int) ∈ out /\ i < t.l.length)) -> out.length + s.length + wt (kat t.l) t.l.length out <= 100000000 -> s.length + wt (kat t.l) t.l.length out < n ->
  ∃ ys, m_below_l1 t n (s.reverse, seen) = some ys /\ dfs (kat t.l) n s out = out ++ ys
 | 0, s, out, seen, _, _, _, _, h => by omega
 | n + 1, [], out, seen, _, _, _, _, _ => by
  refine ⟨[], ?_, by simp [dfs]⟩;simp only [m_below_l1, List.reverse_nil, List.length_nil]; rfl
 | n + 1, x :: s, out, seen, hs, hsl, hse, hB, hn => by
  obtain ⟨x0, x1⟩ := hs x (by simp);obtain ⟨i, rfl⟩ := Int.eq_ofNat_of_zero_le x0
  have hi : i < t.l.length := by omega
  have hx : t.l[i]? = some t.l[i] := List.getElem?_eq_getElem hi
  have hv : seen[i]? = some (seen[i]'(by omega)) := List.getElem?_eq_getElem (by omega)
  have hk : kat t.l (i : Int) = kidsL t.l[i] := by unfold kat; rw [Int.toNat_natCast, hx]
  have hkl := kat_len hN (i : Int)
  have hNi := hN _ (List.getElem_mem hi)
  simp only [List.length_cons] at hB hn;rw [List.reverse_cons]
  have hl1 : (s.reverse ++ [(i : Int)]).length = s.length + 1 := by simp
  simp only [m_below_l1];rw [decide_eq_true (show (0 : Int) < ((s.reverse ++ [(i : Int)]).length : Int) by rw [hl1]; omega), cond_true, grd_pos (by rw [hl1]; omega), lastI, Option.bind_some, grd_pos (by rw [hl1]; omega), initI, Option.bind_some, getI hv, Option.bind_some, Option.bind_some]
  have hd : dfs (kat t.l) (n + 1) ((i : Int) :: s) out = if (i : Int) ∈ out then dfs (kat t.l) n s out else dfs (kat t.l) n (kat t.l i ++ s) (out ++ [(i : Int)]) := rfl
  rw [hd]
  by_cases ho : (i : Int) ∈ out
  ·have h1 : seen[i]'(by omega) = true := by have := (hse i).2 ⟨ho, hi⟩; rw [hv] at this; exact Option.some.inj this
   rw [h1, cond_true, if_pos ho];exact below_lock hR hN hlen n s out seen (fun x hx => hs x (by simp [hx])) hsl hse (by omega) (by omega)
  ·have h1 : seen[i]'(by omega) = false := by
    cases hq : seen[i]'(by omega) with
    | false => rfl
    | true => exact absurd ((hse i).1 (by rw [hv, hq])).1 ho
   have hw := wt_add (K := kat t.l) hi ho
   obtain ⟨ys, e1, e2⟩ := below_lock hR hN hlen n (kat t.l i ++ s) (out ++ [(i : Int)]) (seen.set i true) (fun y hy => by
    rcases List.mem_append.1 hy with hy | hy
    ·exact kat_in hR _ _ hy
    ·exact hs y (by simp [hy])) (by simpa using hsl) (fun j => by
    rw [List.getElem?_set]
    by_cases hij : i = j
    ·subst hij; simp; omega
    ·rw [if_neg hij, hse j]; simp; omega) (by simp only [List.length_append, List.length_cons, List.length_nil]; omega) (by simp only [List.length_append]; omega)
   rw [h1, cond_false, if_neg ho, getI hx, Option.bind_some, kids_eq _ hNi, Option.bind_some, <- hk, grd_pos (by omega), reverse_eq _ (by omega), Option.bind_some, grd_pos (by simp only [List.length_reverse]; omega), Int.toNat_natCast];refine ⟨(i : Int) :: ys, ?_, by rw [e2]; simp⟩;rw [List.reverse_append] at e1;rw [e1]; rfl
end Go.Proofs.YtkfnogdccpcmhaaGreatDoor
namespace Go.Proofs.YtkfnogdccpcmhaaGreatDoor
open Go.V
open Classical
noncomputable def belowL (L : List ApiTNode) (root : Int) : List Int := dfs (kat L) FU [root] []
theorem sum_bound (f : Nat -> Nat) (c : Nat) : ∀ l : List Nat, (∀ j ∈ l, f j <= c) -> (l.map f).sum <= l.length * c
 | [], _ => by simp
 | j :: l, h => by
  have h1 := sum_bound f c l (fun k hk => h k (by simp [hk]))
  have h2 := h j (by simp)
  simp only [List.map_cons, List.sum_cons, List.length_cons, Nat.add_mul]
  omega
theorem wt_bound {L : List ApiTNode} (hN : ∀ n ∈ L, NB n) (out : List Int) : wt (kat L) L.length out <= L.length * 40 := by
 have := sum_bound (fun (i : Nat) => if (i : Int) ∈ out then 0 else (kat L (i : Int)).length) 40 (List.range L.length) (fun j _ => by
  split
  ·omega
  ·exact kat_len hN _)
 rw [List.length_range] at this;exact this
theorem below_eqs {t : ApiType} (hR : InL t.l) (hN : ∀ n ∈ t.l, NB n) (hlen : t.l.length <= 2001) {root : Int} (h0 : 0 <= root) (h1 : root < (t.l.length : Int)) :
  m_below t root = some (belowL t.l root) := by
 have hw := wt_bound hN []
 obtain ⟨ys, e1, e2⟩ := below_lock hR hN hlen FU [root] [] (List.replicate t.l.length false) (fun x hx => by simp at hx; subst hx; exact ⟨h0, h1⟩) (by simp) (fun i => by rw [List.getElem?_replicate]; split <;> simp) (by simp only [List.length_cons, List.length_nil]; omega) (by rw [FUv]; simp only [List.length_cons, List.length_nil]; omega);rw [List.nil_append] at e2;unfold m_below;rw [grd_pos (by omega), grd_pos (by omega), Int.toNat_natCast]
 show m_below_l1 t FU ([root].reverse, _) = _
 rw [e1, belowL, e2]
theorem dfs_props {K : Int -> List Int} {D : Int -> Prop} (hK : ∀ x, D x -> ∀ k ∈ K x, D k) : ∀ (n : Nat) (s out : List Int), (∀ x ∈ s, D x) -> (∀ x ∈ out, D x) -> out.Nodup -> (∀ x ∈ dfs K n s out, D x) /\ (dfs K n s out).Nodup
 | 0, s, out, _, ho, hn => ⟨ho, hn⟩
 | n + 1, [], out, _, ho, hn => ⟨ho, hn⟩
 | n + 1, x :: s, out, hs, ho, hn => by
  unfold dfs
  split
  ·exact dfs_props hK n s out (fun y hy => hs y (by simp [hy])) ho hn
  ·rename_i hx
   have hDx := hs x (by simp)
   refine dfs_props hK n _ _ (fun y hy => ?_) (fun y hy => ?_) ?_
   ·rcases List.mem_append.1 hy with hy | hy
    ·exact hK x hDx y hy
    ·exact hs y (by simp [hy])
   ·rcases List.mem_append.1 hy with hy | hy
    ·exact ho y hy
    ·simp at hy; subst hy; exact hDx
   ·rw [List.nodup_append]
    refine ⟨hn, by simp, fun a ha b hb e => ?_⟩
    simp at hb
    subst hb e;exact hx ha
theorem nodup_bound : ∀ (m : Nat) (l : List Int), l.Nodup -> (∀ x ∈ l, 0 <= x /\ x < (m : Int)) -> l.length <= m
 | 0, l, _, h => by
  cases l with
  | nil => simp
  | cons a l => have := h a (by simp); omega
 | m + 1, l, hn, h => by
  have h1 := nodup_bound m (l.erase (m : Int)) (hn.erase _) (fun x hx => by
   have h2 := h x (List.mem_of_mem_erase hx)
   have h3 : x ≠ (m : Int) := fun e => by rw [e] at hx; exact absurd hx (by rw [hn.mem_erase_iff]; simp)
   omega)
  have := List.length_erase_le (a := (m : Int)) (l := l)
  have h4 : l.length <= (l.erase (m : Int)).length + 1 := by rw [List.length_erase]; split <;> omega
  omega
theorem belowL_props {L : List ApiTNode} (hR : InL L) {root : Int} (h0 : 0 <= root) (h1 : root < (L.length : Int)) : (∀ x ∈ belowL L root, 0 <= x /\ x < (L.length : Int)) /\ (belowL L root).Nodup /\ (belowL L root).length <= L.length := by
 obtain ⟨a, b⟩ := dfs_props (K := kat L) (D := fun x => 0 <= x /\ x < (L.length : Int)) (fun x _ k hk => kat_in hR x k hk) FU [root] [] (fun x hx => by simp at hx; subst hx; exact ⟨h0, h1⟩) (by simp) (by simp);exact ⟨a, b, nodup_bound _ _ b a⟩
theorem compact_upto {d : Array Int} (hd : ∀ i j, i < j -> j < d.size -> d[i]! <= d[j]!) : ∀ m, m <= d.size -> (Lib.compactUpTo d m).Pairwise (· < ·) /\ (∀ x, x ∈ Lib.compactUpTo d m ↔ ∃ j, j < m /\ d[j]! = x) /\ ∀ x ∈ Lib.compactUpTo d m, 0 < m /\ x <= d[m - 1]!
 | 0, _ => by simp [Lib.compactUpTo]
 | m + 1, hm => by
  obtain ⟨h1, h2, h3⟩ := compact_upto hd m (by omega);rw [Lib.compactUpTo_succ]
  by_cases hk : Lib.keeps d m = true
  ·rw [if_pos hk]
   have hk2 : m = 0 \/ d[m]! ≠ d[m - 1]! := by simpa [Lib.keeps] using hk
   have hlt : ∀ x ∈ Lib.compactUpTo d m, x < d[m]! := by
    intro x hx
    obtain ⟨h4, h5⟩ := h3 x hx
    have h6 := hd (m - 1) m (by omega) (by omega)
    rcases hk2 with h7 | h7
    ·omega
    ·omega
   refine ⟨?_, fun x => ?_, fun x hx => ⟨by omega, ?_⟩⟩
   ·rw [List.pairwise_append]
    exact ⟨h1, by simp, fun a ha b hb => by simp at hb; subst hb; exact hlt a ha⟩
   ·rw [List.mem_append, h2 x]
    simp only [List.mem_cons, List.not_mem_nil, or_false]
    constructor
    ·rintro (⟨j, hj, e⟩ | e)
     ·exact ⟨j, by omega, e⟩
     ·exact ⟨m, by omega, e.symm⟩
    ·rintro ⟨j, hj, e⟩
     by_cases hjm : j = m
     ·subst hjm; exact .inr e.symm
     ·exact .inl ⟨j, by omega, e⟩
   ·rw [Nat.add_sub_cancel]
    rcases List.mem_append.1 hx with hx | hx
    ·exact Int.le_of_lt (hlt x hx)
    ·simp at hx; omega
  ·have hk' : Lib.keeps d m = false := by simpa using hk
   rw [hk']
   have hk2 : 0 < m /\ d[m]! = d[m - 1]! := by
    have : ¬ (m = 0 \/ d[m]! ≠ d[m - 1]!) := by simpa [Lib.keeps] using hk'
    omega
   simp only [Bool.false_eq_true, if_false, List.append_nil];refine ⟨h1, fun x => ?_, fun x hx => ⟨by omega, ?_⟩⟩
   ·rw [h2 x]
    constructor
    ·rintro ⟨j, hj, e⟩; exact ⟨j, by omega, e⟩
    ·rintro ⟨j, hj, e⟩
     by_cases hjm : j = m
     ·subst hjm; exact ⟨j - 1, by omega, by rw [<- hk2.2]; exact e⟩
     ·exact ⟨j, by omega, e⟩
   ·rw [Nat.add_sub_cancel]
    have := (h3 x hx).2
    omega
theorem compact_sorted {l : List Int} (h : l.Pairwise (· <= ·)) : (Lib.compact l).Pairwise (· < ·) /\ ∀ x, x ∈ Lib.compact l ↔ x ∈ l := by
 have hget : ∀ j, j < l.length -> l.toArray[j]! = l[j]! := fun j _ => by simp
 obtain ⟨h1, h2, _⟩ := compact_upto (d := l.toArray) (fun i j hij hj => by
  simp at hj
  have := List.pairwise_iff_getElem.1 h i j (by omega) hj hij
  simpa [hj, show i < l.length by omega] using this) l.length (by simp)
 refine ⟨h1, fun x => (h2 x).trans ?_⟩
 constructor
 ·rintro ⟨j, hj, e⟩
  rw [<- e]; simp [hj]
 ·intro hx
  obtain ⟨j, hj, e⟩ := List.getElem_of_mem hx;exact ⟨j, hj, by simp [hj, e]⟩
theorem sortI_sorted (l : List Int) : (List.mergeSort l fun x y => decide (x <= y)).Pairwise (· <= ·) := by
 have := List.pairwise_mergeSort (le := fun x y : Int => decide (x <= y)) (fun a b c h1 h2 => by simp at *; omega) (fun a b => by simp; omega) l
 exact this.imp (fun h => by simpa using h)
end Go.Proofs.YtkfnogdccpcmhaaGreatDoor
namespace Go.Proofs.YtkfnogdccpcmhaaGreatDoor
open Go.V
open Classical
def varOf (L : List ApiTNode) (x : Int) : Option Int := match L[x.toNat]? with
 | some n => if n.kind = 11 then some n.a else none
 | none => none
theorem varsR_eq (t : ApiType) : ∀ (xs acc : List Int), (∀ x ∈ xs, 0 <= x /\ x < (t.l.length : Int)) -> acc.length + xs.length <= 1000000 -> m_graph_Vars_r1 t xs acc = some (acc ++ xs.filterMap (varOf t.l))
 | [], acc, _, _ => by simp [m_graph_Vars_r1]
 | x :: xs, acc, hx, hl => by
  obtain ⟨x0, x1⟩ := hx x (by simp)
  have hn : t.l[x.toNat]? = some (t.l[x.toNat]'(by omega)) := List.getElem?_eq_getElem (by omega)
  have ix : idx t.l x = some (t.l[x.toNat]'(by omega)) := by rw [<- hn]; unfold idx; rw [if_pos x0]
  simp only [List.length_cons] at hl;unfold m_graph_Vars_r1;rw [ix, Option.bind_some, List.filterMap_cons];unfold varOf;rw [hn]
  simp only
  by_cases hk : (t.l[x.toNat]'(by omega)).kind = 11
  ·rw [decide_eq_true hk, cond_true, if_pos hk, grd_pos (by simp only [List.length_cons, List.length_nil]; omega), varsR_eq t xs _ (fun y hy => hx y (by simp [hy])) (by simp only [List.length_append, List.length_cons, List.length_nil]; omega)]
   simp only [List.append_assoc, List.cons_append, List.nil_append]
   rfl
  ·rw [decide_eq_false hk, cond_false, if_neg hk, varsR_eq t xs _ (fun y hy => hx y (by simp [hy])) (by omega)]
   rfl
theorem range_lt : ∀ n : Nat, (List.range n).Pairwise (· < ·)
 | 0 => by simp
 | n + 1 => by
  rw [List.range_succ, List.pairwise_append];exact ⟨range_lt n, by simp, fun a ha b hb => by simp at ha hb; omega⟩
theorem ground_ok (t : ApiType) (hlen : t.l.length <= 2001) (hN : ∀ n ∈ t.l, NB n) : ∃ b, m_graph_Ground t = some b /\ (b = true -> mayT t.l t.root = 0) := by
 unfold m_graph_Ground m_graph_Vars;rw [may_eq t hlen hN, Option.bind_some]
 by_cases h : mayT t.l t.root = 0
 ·obtain ⟨_, _, r0, r1, hA, _⟩ := mayT_ok h
  obtain ⟨b1, b2, b3⟩ := belowL_props (allRight_in hA) r0 r1
  have hfl : ((belowL t.l t.root).filterMap (varOf t.l)).length <= (belowL t.l t.root).length := List.length_filterMap_le _ _
  rw [decide_eq_true h, cond_true, Option.bind_some, show (!decide (mayT t.l t.root = 0)) = false by rw [decide_eq_true h]; rfl, cond_false, below_eqs (allRight_in hA) hN hlen r0 r1, Option.bind_some, varsR_eq t _ _ b1 (by simp only [List.length_nil]; omega), Option.bind_some, List.nil_append, grd_pos (by omega), Option.bind_some, Option.bind_some];exact ⟨_, rfl, fun _ => h⟩
 ·rw [decide_eq_false h, cond_false]
  exact ⟨false, rfl, fun h => by cases h⟩
end Go.Proofs.YtkfnogdccpcmhaaGreatDoor
namespace Go.Proofs.YtkfnogdccpcmhaaGreatDoor
open Go.V
open Classical
def movedN (f : Int -> Int) (n : ApiTNode) : ApiTNode := ⟨n.kind, bif pB n.kind then f n.a else n.a, bif pB n.kind then f n.b else n.b, n.l.map (fun x => ⟨x.name, f x.at_⟩)⟩
theorem moved_eq (n : ApiTNode) (p : Int -> Option Int) (f : Int -> Int) (h : NB n) (h1 : pB n.kind = true -> p n.a = some (f n.a) /\ p n.b = some (f n.b)) (h2 : ∀ x ∈ n.l, p x.at_ = some (f x.at_)) : m_graph_moved n p = some (movedN f n) := by
 unfold m_graph_moved movedN;unfold NB at h;rw [show m_graph_pair n.kind = some (pB n.kind) from rfl, Option.bind_some]
 have key : ∀ z1 z2 z3, m_graph_moved_l1 p n.l FU (0, n.l, z1, z2, z3) = some (n.l.map (fun x => ⟨x.name, f x.at_⟩), z1, z2, z3) := by
  intro z1 z2 z3
  refine loop_setmap (φ := fun k i s => m_graph_moved_l1 p n.l k (i, s, z1, z2, z3)) (l := n.l) (fun x => ⟨x.name, f x.at_⟩) (fun s => (s, z1, z2, z3)) ?_ ?_ (by rw [FUv]; omega)
  ·intro k i x s hx hi hs hsx
   simp only [m_graph_moved_l1];rw [decide_eq_true (show (i : Int) < n.l.length by omega), cond_true, getI hsx, Option.bind_some, h2 x (List.mem_of_getElem? hx), Option.bind_some, Option.bind_some, grd_pos (by omega), Int.toNat_natCast]
  ·intro k s hs
   simp only [m_graph_moved_l1];rw [decide_eq_false (by omega), cond_false]
 cases hp : pB n.kind with
 | true =>
  obtain ⟨ha, hb⟩ := h1 hp;rw [cond_true, ha, Option.bind_some, hb, Option.bind_some, Option.bind_some]
  dsimp only
  rw [grd_pos (by omega), key, Option.bind_some]; rfl
 | false =>
  rw [cond_false, Option.bind_some]
  dsimp only
  rw [grd_pos (by omega), key, Option.bind_some]; rfl
theorem right_wide {n : ApiTNode} {all : Int} (h : rightB n all = true) (hw : wB n.kind = false) : n.l = [] := by
 unfold rightB at h;simp only [Bool.and_eq_true, Bool.not_eq_true'] at h
 have h2 := h.2.2.2.1
 rw [hw, Bool.not_false, Bool.true_and, decide_eq_false_iff_not] at h2;exact List.length_eq_zero_iff.1 (by omega)
theorem pw_no {k : Int} (h : wB k = true) : pB k = false := by
 unfold wB at h; unfold pB
 rw [Bool.or_eq_true, decide_eq_true_eq, decide_eq_true_eq] at h
 rcases h with h | h <;> rw [h] <;> rfl
theorem right_kids {n : ApiTNode} {all : Int} (h : rightB n all = true) : (pB n.kind = true -> (0 <= n.a /\ n.a < all) /\ (0 <= n.b /\ n.b < all)) /\ ∀ x ∈ n.l, 0 <= x.at_ /\ x.at_ < all := by
 have hk := right_in h
 unfold kidsL at hk
 constructor
 ·intro hp
  rw [hp, cond_true] at hk;exact ⟨hk n.a (by simp), hk n.b (by simp)⟩
 ·intro x hx
  cases hw : wB n.kind with
  | false => rw [right_wide h hw] at hx; simp at hx
  | true =>
   rw [pw_no hw, cond_false, hw, cond_true] at hk;exact hk x.at_ (List.mem_map.2 ⟨x, hx, rfl⟩)
noncomputable def graftT (a b : ApiType) : ApiType := ⟨a.l ++ b.l.map (movedN (fun k => k + (a.l.length : Int))), a.root⟩
theorem graft_eq (a b : ApiType) (ha : a.l.length <= 4001) (hb : b.l.length <= 2001) (hN : ∀ n ∈ b.l, NB n) (hR : AllRight b.l) : m_graph_Graft a b = some (graftT a b, (a.l.length : Int)) := by
 unfold m_graph_Graft;rw [grd_pos (by omega)];rw [loop_map (φ := fun n i s => m_graph_Graft_l1 a b n (i, a.root, s)) (l := b.l) (movedN (fun k => k + (a.l.length : Int))) (fun s => (a.root, s)) a.l.length ?_ ?_ (by rw [FUv]; omega) a.l rfl]
 ·rfl
 ·intro n i x s hx hi hs
  have hr := right_kids (hR x (List.mem_of_getElem? hx))
  simp only [m_graph_Graft_l1];rw [decide_eq_true (show (i : Int) < b.l.length by omega), cond_true, getI hx, Option.bind_some, show (⟨x.kind, x.a, x.b, x.l⟩ : ApiTNode) = x from rfl, moved_eq x _ (fun k => k + (a.l.length : Int)) (hN x (List.mem_of_getElem? hx)) (fun hp => by
   obtain ⟨⟨a0, a1⟩, b0, b1⟩ := hr.1 hp;unfold m_graph_Graft_1;rw [grd_pos (by omega), grd_pos (by omega)]; exact ⟨rfl, rfl⟩) (fun y hy => by
   obtain ⟨y0, y1⟩ := hr.2 y hy;unfold m_graph_Graft_1;rw [grd_pos (by omega)]), Option.bind_some, grd_pos (by simp only [List.length_cons, List.length_nil]; omega), grd_pos (by omega)]
 ·intro n s hs
  simp only [m_graph_Graft_l1];rw [decide_eq_false (by omega), cond_false]
theorem movedN_nb {n : ApiTNode} {f : Int -> Int} (h : NB n) : NB (movedN f n) := by unfold NB movedN at *; simpa using h
theorem graftT_nb {a b : ApiType} (ha : ∀ n ∈ a.l, NB n) (hb : ∀ n ∈ b.l, NB n) : ∀ n ∈ (graftT a b).l, NB n := by
 intro n hn
 rcases List.mem_append.1 hn with hn | hn
 ·exact ha n hn
 ·obtain ⟨m, hm, rfl⟩ := List.mem_map.1 hn
  exact movedN_nb (hb m hm)
end Go.Proofs.YtkfnogdccpcmhaaGreatDoor
namespace Go.Proofs.YtkfnogdccpcmhaaGreatDoor
open Go.V
open Classical
def In (t : ApiType) (i : Int) : Prop := 0 <= i /\ i < (t.l.length : Int)
def nd (t : ApiType) (i : Int) : ApiTNode := (t.l[i.toNat]?).getD ⟨0, 0, 0, []⟩
theorem nd_get {t : ApiType} {i : Int} (h : In t i) : t.l[i.toNat]? = some (nd t i) := by
 unfold nd
 have h1 : i.toNat < t.l.length := by have := h.1; have := h.2; omega
 rw [List.getElem?_eq_getElem h1]; rfl
theorem nd_mem {t : ApiType} {i : Int} (h : In t i) : nd t i ∈ t.l := List.mem_of_getElem? (nd_get h)
def cs (l : List Int) : List Int := Lib.compact (List.mergeSort l fun x y => decide (x <= y))
theorem mem_cs {l : List Int} {x : Int} : x ∈ cs l ↔ x ∈ l := by
 unfold cs;rw [(compact_sorted (sortI_sorted l)).2 x, List.mem_mergeSort]
theorem cs_sorted (l : List Int) : (cs l).Pairwise (· < ·) := (compact_sorted (sortI_sorted l)).1
def wsum (w : Int -> Nat) : List Int -> Nat
 | [] => 0
 | x :: l => w x + wsum w l
theorem wsum_app (w : Int -> Nat) : ∀ l m : List Int, wsum w (l ++ m) = wsum w l + wsum w m
 | [], m => by simp [wsum]
 | x :: l, m => by simp only [List.cons_append, wsum, wsum_app w l m]; omega
theorem wsum_perm {w : Int -> Nat} {l m : List Int} (h : l.Perm m) : wsum w l = wsum w m := by
 induction h with
 | nil => rfl
 | cons x _ ih => simp only [wsum, ih]
 | swap x y l => simp only [wsum]; omega
 | trans _ _ a b => exact a.trans b
theorem wsum_sub (w : Int -> Nat) : ∀ s l : List Int, s.Nodup -> (∀ x ∈ s, x ∈ l) -> wsum w s <= wsum w l
 | [], l, _, _ => Nat.zero_le _
 | x :: s, l, hn, h => by
  obtain ⟨h1, h2⟩ := List.nodup_cons.1 hn
  have hp := List.perm_cons_erase (h x (by simp))
  have := wsum_sub w s (l.erase x) h2 (fun y hy => (List.mem_erase_of_ne (fun e => h1 (by rw [<- e]; exact hy))).2 (h y (by simp [hy])))
  rw [wsum_perm hp];simp only [wsum]; omega
theorem wsum_cs (w : Int -> Nat) (l : List Int) : wsum w (cs l) <= wsum w l := wsum_sub w (cs l) l ((cs_sorted l).imp (fun h => by omega)) (fun x hx => mem_cs.1 hx)
structure OkT (t : ApiType) : Prop where
 right : AllRight t.l
 ends : AllEnds t.l
theorem OkT.kind {t : ApiType} (h : OkT t) {i : Int} (hi : In t i) : 1 <= (nd t i).kind /\ (nd t i).kind <= 11 := by
 have := h.right _ (nd_mem hi)
 unfold rightB at this;simp only [Bool.and_eq_true, Bool.not_eq_true', Bool.or_eq_false_iff, decide_eq_false_iff_not] at this
 have := this.1; omega
theorem OkT.kids {t : ApiType} (h : OkT t) {i : Int} (hi : In t i) {k : Int} (hk : k ∈ kidsL (nd t i)) : In t k := allRight_in h.right _ (nd_mem hi) k hk
theorem OkT.pair {t : ApiType} (h : OkT t) {i : Int} (hi : In t i) (hk : (nd t i).kind = 6 \/ (nd t i).kind = 9 \/ (nd t i).kind = 10) : In t (nd t i).a /\ In t (nd t i).b := by
 have h1 : kidsL (nd t i) = [(nd t i).a, (nd t i).b] := by
  unfold kidsL pB
  rcases hk with hk | hk | hk <;> rw [hk] <;> rfl
 exact ⟨h.kids hi (by rw [h1]; simp), h.kids hi (by rw [h1]; simp)⟩
theorem OkT.at_ {t : ApiType} (h : OkT t) {i : Int} (hi : In t i) {f : ApiTField} (hf : f ∈ (nd t i).l) : In t f.at_ := (right_kids (h.right _ (nd_mem hi))).2 f hf
theorem OkT.weight {t : ApiType} (h : OkT t) : ∃ w : Int -> Nat, ∀ i, In t i -> latB (nd t i).kind = true -> w (nd t i).a + w (nd t i).b < w i := by
 have key : ∀ i : Nat, ∃ r : Nat, i < t.l.length -> endk t.l (r + 1) i = true /\ endk t.l r i = false := by
  intro i
  by_cases hi : i < t.l.length
  ·obtain ⟨m, hm⟩ := h.ends i hi
   obtain ⟨k, _, h1, h2⟩ := endk_least m hm;exact ⟨k, fun _ => ⟨h1, h2⟩⟩
  ·exact ⟨0, fun h => absurd h hi⟩
 obtain ⟨r, hr⟩ := Classical.axiomOfChoice key;refine ⟨fun i => 3 ^ r i.toNat, fun i hi hl => ?_⟩
 have hil : i.toNat < t.l.length := by have := hi.1; have := hi.2; omega
 have hp : In t (nd t i).a /\ In t (nd t i).b := h.pair hi (by unfold latB at hl; simp only [Bool.or_eq_true, decide_eq_true_eq] at hl; exact .inr hl)
 obtain ⟨h1, h2⟩ := hr i.toNat hil
 have hlt : ∀ k : Int, In t k -> endk t.l (r i.toNat) k.toNat = true -> r k.toNat < r i.toNat := by
  intro k hk he
  have hkl : k.toNat < t.l.length := by have := hk.1; have := hk.2; omega
  rcases Nat.lt_or_ge (r k.toNat) (r i.toNat) with h3 | h3
  ·exact h3
  ·have := endk_mono h3 he; rw [(hr _ hkl).2] at this; cases this
 have h3 : endk t.l (r i.toNat) (nd t i).a.toNat = true /\ endk t.l (r i.toNat) (nd t i).b.toNat = true := by
  unfold endk at h1;rw [nd_get hi] at h1;simp only [hl, Bool.not_true, Bool.false_or, Bool.and_eq_true] at h1;exact h1
 have ha := hlt _ hp.1 h3.1
 have hb := hlt _ hp.2 h3.2
 obtain ⟨m, hm⟩ : ∃ m, r i.toNat = m + 1 := ⟨r i.toNat - 1, by omega⟩
 have h4 : 3 ^ r (nd t i).a.toNat <= 3 ^ m := Nat.pow_le_pow_right (by omega) (by omega)
 have h5 : 3 ^ r (nd t i).b.toNat <= 3 ^ m := Nat.pow_le_pow_right (by omega) (by omega)
 have h6 : 3 ^ (m + 1) = 3 * 3 ^ m := by rw [Nat.pow_succ]; omega
 have h7 : 0 < 3 ^ m := Nat.pow_pos (by omega)
 show 3 ^ r (nd t i).a.toNat + 3 ^ r (nd t i).b.toNat < 3 ^ r i.toNat
 rw [hm, h6]; omega
def atN (n : ApiTNode) (s : List UInt8) : Option Int := (n.l.find? fun f => decide (f.name = s)).map (·.at_)
theorem atN_mem {n : ApiTNode} {s : List UInt8} {k : Int} (h : atN n s = some k) : ∃ f ∈ n.l, f.name = s /\ f.at_ = k := by
 unfold atN at h
 cases hq : n.l.find? fun f => decide (f.name = s) with
 | none => rw [hq] at h; cases h
 | some f => rw [hq] at h; exact ⟨f, List.mem_of_find?_eq_some hq, by simpa using List.find?_some hq, by simpa using h⟩
theorem atN_some {n : ApiTNode} {s : List UInt8} : atN n s ≠ none ↔ s ∈ n.l.map (·.name) := by
 unfold atN
 constructor
 ·intro h
  cases hq : n.l.find? fun f => decide (f.name = s) with
  | none => rw [hq] at h; exact absurd rfl h
  | some f => exact List.mem_map.2 ⟨f, List.mem_of_find?_eq_some hq, by simpa using List.find?_some hq⟩
 ·intro h hq
  obtain ⟨f, hf, rfl⟩ := List.mem_map.1 h;rw [Option.map_eq_none_iff, List.find?_eq_none] at hq
  simpa using hq f hf
def partsA (t : ApiType) (l : List Int) (s : List UInt8) : List Int := l.filterMap fun i => atN (nd t i) s
def namesA (t : ApiType) : List Int -> List (List UInt8)
 | [] => []
 | i :: l => ((nd t i).l.map (·.name)).filter fun s => (i :: l).all fun j => (atN (nd t j) s).isSome
def ofK (t : ApiType) (l : List Int) (k : Int) : List Int := l.filter fun i => decide ((nd t i).kind = k)
def latA (t : ApiType) (l : List Int) : Option (ApiTNode × List Int) := (l.findIdx? fun i => latB (nd t i).kind).map fun k => (nd t (l.getD k 0), l.take k ++ l.drop (k + 1))
def openA (t : ApiType) (q : BelowSequent) : Option (List BelowSequent) := match latA t q.left with
 | some (n, rest) => some (if n.kind = 10 then [⟨cs (rest ++ [n.a, n.b]), q.right⟩] else [⟨cs (rest ++ [n.a]), q.right⟩, ⟨cs (rest ++ [n.b]), q.right⟩])
 | none => match latA t q.right with
  | some (n, rest) => some (if n.kind = 9 then [⟨q.left, cs (rest ++ [n.a, n.b])⟩] else [⟨q.left, cs (rest ++ [n.a])⟩, ⟨q.left, cs (rest ++ [n.b])⟩])
  | none => none
def badA (t : ApiType) (l r : List Int) (s : List UInt8) : Bool := (partsA t l s).isEmpty || (partsA t r s).isEmpty
def allA (t : ApiType) (k : Int) (l r : List Int) : List (List UInt8) := if k = 7 then namesA t r else if k = 8 then namesA t l else []
def headsA (t : ApiType) (k : Int) (l r : List Int) : Bool × List BelowSequent :=
 if k ≠ 8 /\ r = [] then (true, []) else
 if k = 6 then (false, [⟨cs (r.map fun i => (nd t i).a), cs (l.map fun i => (nd t i).a)⟩, ⟨cs (l.map fun i => (nd t i).b), cs (r.map fun i => (nd t i).b)⟩]) else
 if (allA t k l r).any (badA t l r) then (true, []) else (false, (allA t k l r).map fun s => ⟨cs (partsA t l s), cs (partsA t r s)⟩)
def kindsA (t : ApiType) (l : List Int) : List Int := [3, 4, 5, 6, 7, 8].filter fun k => l.any fun i => decide ((nd t i).kind = k)
def closedA (t : ApiType) (q : BelowSequent) : Bool × List BelowSequent := match kindsA t q.left with
 | [] => (true, [])
 | [k] => headsA t k (ofK t q.left k) (ofK t q.right k)
 | _ => (false, [])
def endA (t : ApiType) (q : BelowSequent) : Bool := (q.left.any fun i => decide ((nd t i).kind = 2)) || (q.right.any fun i => decide ((nd t i).kind = 1))
def shareA (t : ApiType) (q : BelowSequent) : Bool := q.left.any fun i => q.right.any fun j => decide ((nd t i).kind = 11) && decide ((nd t j).kind = 11) && decide ((nd t i).a = (nd t j).a)
def leadsA (t : ApiType) (q : BelowSequent) : Bool × List BelowSequent :=
 if endA t q = true then (false, []) else match openA t q with
 | some l => (false, l)
 | none => if shareA t q = true then (false, []) else closedA t q
theorem latA_some {t : ApiType} {l rest : List Int} {n : ApiTNode} (h : latA t l = some (n, rest)) : ∃ i, n = nd t i /\ latB n.kind = true /\ l.Perm (i :: rest) := by
 unfold latA at h
 cases hq : l.findIdx? fun i => latB (nd t i).kind with
 | none => rw [hq] at h; cases h
 | some k =>
  rw [hq] at h;simp only [Option.map_some, Option.some.injEq, Prod.mk.injEq] at h;obtain ⟨rfl, rfl⟩ := h;rw [List.findIdx?_eq_some_iff_getElem] at hq;obtain ⟨hk, h1, _⟩ := hq
  have e : l.getD k 0 = l[k] := by rw [List.getD_eq_getElem?_getD, List.getElem?_eq_getElem hk]; rfl
  refine ⟨l[k], by rw [e], by rw [e]; exact h1, ?_⟩
  have e2 : l = l.take k ++ l[k] :: l.drop (k + 1) := by rw [<- List.drop_eq_getElem_cons hk, List.take_append_drop]
  have h3 := List.perm_middle (a := l[k]) (l₁ := l.take k) (l₂ := l.drop (k + 1))
  rw [<- e2] at h3;exact h3
theorem latA_none {t : ApiType} {l : List Int} (h : latA t l = none) : ∀ i ∈ l, latB (nd t i).kind = false := by
 unfold latA at h;rw [Option.map_eq_none_iff, List.findIdx?_eq_none_iff] at h
 intro i hi
 simpa using h i hi
theorem mem_names {t : ApiType} {l : List Int} {s : List UInt8} : s ∈ namesA t l ↔ l ≠ [] /\ ∀ i ∈ l, atN (nd t i) s ≠ none := by
 cases l with
 | nil => simp [namesA]
 | cons i l =>
  unfold namesA;rw [List.mem_filter, <- atN_some, List.all_eq_true]
  constructor
  ·rintro ⟨_, h2⟩
   exact ⟨by simp, fun j hj => by have := h2 j hj; cases hq : atN (nd t j) s with
    | none => rw [hq] at this; cases this
    | some _ => simp⟩
  ·rintro ⟨_, h2⟩
   exact ⟨h2 i (by simp), fun j hj => by have := h2 j hj; cases hq : atN (nd t j) s with
    | none => exact absurd hq this
    | some _ => rfl⟩
theorem mem_parts {t : ApiType} {l : List Int} {s : List UInt8} {k : Int} : k ∈ partsA t l s ↔ ∃ i ∈ l, atN (nd t i) s = some k := by unfold partsA; rw [List.mem_filterMap]
theorem mem_ofK {t : ApiType} {l : List Int} {k i : Int} : i ∈ ofK t l k ↔ i ∈ l /\ (nd t i).kind = k := by unfold ofK; rw [List.mem_filter, decide_eq_true_eq]
theorem mem_kinds {t : ApiType} {l : List Int} {k : Int} : k ∈ kindsA t l ↔ (3 <= k /\ k <= 8) /\ ∃ i ∈ l, (nd t i).kind = k := by
 unfold kindsA;rw [List.mem_filter, List.any_eq_true];simp only [List.mem_cons, List.not_mem_nil, or_false, decide_eq_true_eq]
 constructor
 ·rintro ⟨h1, h2⟩; exact ⟨by omega, h2⟩
 ·rintro ⟨h1, h2⟩; exact ⟨by omega, h2⟩
theorem kinds_nodup (t : ApiType) (l : List Int) : (kindsA t l).Nodup := by unfold kindsA; exact List.Nodup.sublist List.filter_sublist (by decide)
inductive Pt
 | tag (S : Int -> Prop) (k : Int)
 | dom (S : Int -> Prop) (q : Pt)
 | cod (S : Int -> Prop) (q : Pt)
 | absent (S : Int -> Prop) (s : List UInt8)
 | field (S : Int -> Prop) (s : List UInt8) (q : Pt)
 | hasc (S : Int -> Prop) (s : List UInt8)
 | case (S : Int -> Prop) (s : List UInt8) (q : Pt)
def Pt.vars : Pt -> Int -> Prop
 | .tag S _ => S
 | .dom S _ => S
 | .cod S _ => S
 | .absent S _ => S
 | .field S _ _ => S
 | .hasc S _ => S
 | .case S _ _ => S
def Pt.kind : Pt -> Int
 | .tag _ k => k
 | .dom _ _ => 6
 | .cod _ _ => 6
 | .absent _ _ => 7
 | .field _ _ _ => 7
 | .hasc _ _ => 8
 | .case _ _ _ => 8
def Pt.size : Pt -> Nat
 | .tag _ _ => 0
 | .dom _ q => q.size + 1
 | .cod _ q => q.size + 1
 | .absent _ _ => 0
 | .field _ _ q => q.size + 1
 | .hasc _ _ => 0
 | .case _ _ q => q.size + 1
inductive La (t : ApiType) (S : Int -> Prop) (D : ApiTNode -> Prop) : Int -> Prop
 | top {i : Int} : (nd t i).kind = 1 -> La t S D i
 | inl {i : Int} : (nd t i).kind = 9 -> La t S D (nd t i).a -> La t S D i
 | inr {i : Int} : (nd t i).kind = 9 -> La t S D (nd t i).b -> La t S D i
 | both {i : Int} : (nd t i).kind = 10 -> La t S D (nd t i).a -> La t S D (nd t i).b -> La t S D i
 | var {i : Int} : (nd t i).kind = 11 -> S (nd t i).a -> La t S D i
 | head {i : Int} : 3 <= (nd t i).kind -> (nd t i).kind <= 8 -> D (nd t i) -> La t S D i
def hdP (t : ApiType) : Pt -> ApiTNode -> Prop
 | .tag _ k, x => x.kind = k /\ k ≠ 8
 | .dom _ q, x => x.kind = 6 /\ ¬ La t q.vars (hdP t q) x.a
 | .cod _ q, x => x.kind = 6 /\ La t q.vars (hdP t q) x.b
 | .absent _ s, x => x.kind = 7 /\ atN x s = none
 | .field _ s q, x => x.kind = 7 /\ ∀ k, atN x s = some k -> La t q.vars (hdP t q) k
 | .hasc _ s, x => x.kind = 8 /\ atN x s ≠ none
 | .case _ s q, x => x.kind = 8 /\ ∃ k, atN x s = some k /\ La t q.vars (hdP t q) k
def Sat (t : ApiType) (p : Pt) (i : Int) : Prop := La t p.vars (hdP t p) i
theorem hdP_kind {t : ApiType} {p : Pt} {x : ApiTNode} (h : hdP t p x) : x.kind = p.kind := by
 cases p <;> exact h.1
section
variable {t : ApiType} {S : Int -> Prop} {D : ApiTNode -> Prop} {i : Int}
theorem la_top (h : (nd t i).kind = 1) : La t S D i := .top h
theorem la_bot (h : (nd t i).kind = 2) : ¬ La t S D i := by intro h2; cases h2 <;> omega
theorem la_join (h : (nd t i).kind = 9) : La t S D i ↔ La t S D (nd t i).a \/ La t S D (nd t i).b := by
 constructor
 ·intro h2
  cases h2 with
  | inl _ h3 => exact .inl h3
  | inr _ h3 => exact .inr h3
  | top h3 => omega
  | both h3 _ _ => omega
  | var h3 _ => omega
  | head h3 h4 _ => omega
 ·rintro (h2 | h2)
  ·exact .inl h h2
  ·exact .inr h h2
theorem la_meet (h : (nd t i).kind = 10) : La t S D i ↔ La t S D (nd t i).a /\ La t S D (nd t i).b := by
 constructor
 ·intro h2
  cases h2 with
  | both _ h3 h4 => exact ⟨h3, h4⟩
  | inl h3 _ => omega
  | inr h3 _ => omega
  | top h3 => omega
  | var h3 _ => omega
  | head h3 h4 _ => omega
 ·rintro ⟨h2, h3⟩; exact .both h h2 h3
theorem la_var (h : (nd t i).kind = 11) : La t S D i ↔ S (nd t i).a := by
 constructor
 ·intro h2
  cases h2 with
  | var _ h3 => exact h3
  | both h3 _ _ => omega
  | inl h3 _ => omega
  | inr h3 _ => omega
  | top h3 => omega
  | head h3 h4 _ => omega
 ·intro h2; exact .var h h2
theorem la_head (h : 3 <= (nd t i).kind) (h' : (nd t i).kind <= 8) : La t S D i ↔ D (nd t i) := by
 constructor
 ·intro h2
  cases h2 with
  | head _ _ h3 => exact h3
  | both h3 _ _ => omega
  | inl h3 _ => omega
  | inr h3 _ => omega
  | top h3 => omega
  | var h3 _ => omega
 ·intro h2; exact .head h h' h2
end
def CE (t : ApiType) (p : Pt) (q : BelowSequent) : Prop := (∀ i ∈ q.left, Sat t p i) /\ ∀ i ∈ q.right, ¬ Sat t p i
def InQ (t : ApiType) (q : BelowSequent) : Prop := (∀ i ∈ q.left, In t i) /\ ∀ i ∈ q.right, In t i
structure Closed (t : ApiType) (q : BelowSequent) : Prop where
 bot : ∀ i ∈ q.left, (nd t i).kind ≠ 2
 top : ∀ i ∈ q.right, (nd t i).kind ≠ 1
 latL : ∀ i ∈ q.left, latB (nd t i).kind = false
 latR : ∀ i ∈ q.right, latB (nd t i).kind = false
 share : ∀ i ∈ q.left, ∀ j ∈ q.right, (nd t i).kind = 11 -> (nd t j).kind = 11 -> (nd t i).a ≠ (nd t j).a
theorem lat_no {k : Int} (h : latB k = false) : k ≠ 9 /\ k ≠ 10 := by
 unfold latB at h;simp only [Bool.or_eq_false_iff, decide_eq_false_iff_not] at h;exact h
theorem lat_yes {k : Int} (h : latB k = true) : k = 9 \/ k = 10 := by
 unfold latB at h
 simpa only [Bool.or_eq_true, decide_eq_true_eq] using h
def SV (t : ApiType) (q : BelowSequent) : Int -> Prop := fun v => ∃ i ∈ q.left, (nd t i).kind = 11 /\ (nd t i).a = v
theorem mk_ce {t : ApiType} {q : BelowSequent} {p : Pt} (hO : OkT t) (hq : InQ t q) (hC : Closed t q) (hS : p.vars = SV t q)
  (hL : ∀ i ∈ q.left, 3 <= (nd t i).kind -> (nd t i).kind <= 8 -> hdP t p (nd t i)) (hR : ∀ i ∈ q.right, 3 <= (nd t i).kind -> (nd t i).kind <= 8 -> ¬ hdP t p (nd t i)) : CE t p q := by
 constructor
 ·intro i hi
  have hk := hO.kind (hq.1 i hi)
  have h2 := hC.bot i hi
  have h3 := lat_no (hC.latL i hi)
  by_cases h1 : (nd t i).kind = 1
  ·exact .top h1
  ·by_cases h11 : (nd t i).kind = 11
   ·refine .var h11 ?_
    rw [hS]; exact ⟨i, hi, h11, rfl⟩
   ·exact .head (by omega) (by omega) (hL i hi (by omega) (by omega))
 ·intro i hi hs
  have h1 := hC.top i hi
  have h3 := lat_no (hC.latR i hi)
  unfold Sat at hs
  cases hs with
  | top h => exact h1 h
  | inl h _ => exact h3.1 h
  | inr h _ => exact h3.1 h
  | both h _ _ => exact h3.2 h
  | var h h4 =>
   rw [hS] at h4;obtain ⟨j, hj, hj1, hj2⟩ := h4;exact hC.share j hj i hi hj1 h hj2
  | head h4 h5 h6 => exact hR i hi h4 h5 h6
theorem kinds_nil {t : ApiType} {l : List Int} (h : kindsA t l = []) : ∀ i ∈ l, 3 <= (nd t i).kind -> (nd t i).kind <= 8 -> False := by
 intro i hi h1 h2
 have := (mem_kinds (t := t) (l := l)).2 ⟨⟨h1, h2⟩, i, hi, rfl⟩
 rw [h] at this; cases this
theorem kinds_one {t : ApiType} {l : List Int} {k : Int} (h : kindsA t l = [k]) : (3 <= k /\ k <= 8) /\ (∃ i ∈ l, (nd t i).kind = k) /\ ∀ i ∈ l, 3 <= (nd t i).kind -> (nd t i).kind <= 8 -> (nd t i).kind = k := by
 have h0 := (mem_kinds (t := t) (l := l) (k := k)).1 (by rw [h]; simp)
 refine ⟨h0.1, h0.2, fun i hi h1 h2 => ?_⟩
 have := (mem_kinds (t := t) (l := l)).2 ⟨⟨h1, h2⟩, i, hi, rfl⟩
 rw [h] at this; simpa using this
theorem kinds_two {t : ApiType} {l m : List Int} {a b : Int} (h : kindsA t l = a :: b :: m) : ∃ i ∈ l, ∃ j ∈ l, (3 <= (nd t i).kind /\ (nd t i).kind <= 8) /\ (3 <= (nd t j).kind /\ (nd t j).kind <= 8) /\ (nd t i).kind ≠ (nd t j).kind := by
 have ha := (mem_kinds (t := t) (l := l) (k := a)).1 (by rw [h]; simp)
 have hb := (mem_kinds (t := t) (l := l) (k := b)).1 (by rw [h]; simp)
 have hn := kinds_nodup t l
 rw [h] at hn
 have hab : a ≠ b := fun e => by subst e; exact (List.nodup_cons.1 hn).1 (by simp)
 obtain ⟨i, hi, rfl⟩ := ha.2;obtain ⟨j, hj, rfl⟩ := hb.2;exact ⟨i, hi, j, hj, ha.1, hb.1, hab⟩
theorem bad_some {t : ApiType} {l r : List Int} {s : List UInt8} (h : badA t l r s = true) : (∀ i ∈ l, atN (nd t i) s = none) \/ ∀ i ∈ r, atN (nd t i) s = none := by
 unfold badA at h;rw [Bool.or_eq_true, List.isEmpty_iff, List.isEmpty_iff] at h
 have key : ∀ l : List Int, partsA t l s = [] -> ∀ i ∈ l, atN (nd t i) s = none := by
  intro l hl i hi
  cases hq : atN (nd t i) s with
  | none => rfl
  | some k => have := (mem_parts (t := t) (l := l)).2 ⟨i, hi, hq⟩; rw [hl] at this; cases this
 exact h.imp (key l) (key r)
theorem bad_of {t : ApiType} {l r : List Int} {s : List UInt8} (h : (∀ i ∈ l, atN (nd t i) s = none) \/ ∀ i ∈ r, atN (nd t i) s = none) : badA t l r s = true := by
 unfold badA;rw [Bool.or_eq_true, List.isEmpty_iff, List.isEmpty_iff]
 have key : ∀ l : List Int, (∀ i ∈ l, atN (nd t i) s = none) -> partsA t l s = [] := by
  intro l hl
  rw [List.eq_nil_iff_forall_not_mem]
  intro k hk
  obtain ⟨i, hi, h2⟩ := mem_parts.1 hk;rw [hl i hi] at h2; cases h2
 exact h.imp (key l) (key r)
theorem heads_bad {t : ApiType} {q : BelowSequent} {k : Int} (hO : OkT t) (hq : InQ t q) (hC : Closed t q) (hk : kindsA t q.left = [k]) (h : (headsA t k (ofK t q.left k) (ofK t q.right k)).1 = true) : ∃ p, CE t p q := by
 obtain ⟨h0, ⟨i0, hi0, hk0⟩, h1⟩ := kinds_one hk;unfold headsA at h
 split at h
 ·rename_i hr
  refine ⟨.tag (SV t q) k, mk_ce hO hq hC rfl (fun i hi h3 h8 => ⟨h1 i hi h3 h8, hr.1⟩) (fun i hi h3 h8 hd => ?_)⟩
  have := mem_ofK.2 ⟨hi, hd.1⟩
  rw [hr.2] at this; cases this
 ·rename_i hr
  split at h
  ·cases h
  ·split at h
   ·rename_i h2
    rw [List.any_eq_true] at h2;obtain ⟨s, hs, hb⟩ := h2;unfold allA at hs
    split at hs
    ·rename_i h7; subst h7
     obtain ⟨hne, hall⟩ := mem_names.1 hs
     rcases bad_some hb with hb | hb
     ·refine ⟨.absent (SV t q) s, mk_ce hO hq hC rfl (fun i hi h3 h8 => ⟨h1 i hi h3 h8, hb i (mem_ofK.2 ⟨hi, h1 i hi h3 h8⟩)⟩) (fun i hi h3 h8 hd => ?_)⟩
      exact hall i (mem_ofK.2 ⟨hi, hd.1⟩) hd.2
     ·exfalso
      cases hq' : ofK t q.right 7 with
      | nil => exact hne hq'
      | cons j m => exact hall j (by rw [hq']; simp) (hb j (by rw [hq']; simp))
    ·split at hs
     ·rename_i h8; subst h8
      obtain ⟨hne, hall⟩ := mem_names.1 hs
      rcases bad_some hb with hb | hb
      ·exfalso
       exact hall i0 (mem_ofK.2 ⟨hi0, hk0⟩) (hb i0 (mem_ofK.2 ⟨hi0, hk0⟩))
      ·refine ⟨.hasc (SV t q) s, mk_ce hO hq hC rfl (fun i hi h3 h8 => ⟨h1 i hi h3 h8, hall i (mem_ofK.2 ⟨hi, h1 i hi h3 h8⟩)⟩) (fun i hi h3 h8 hd => ?_)⟩
       exact hd.2 (hb i (mem_ofK.2 ⟨hi, hd.1⟩))
     ·cases hs
   ·cases h
theorem heads_up {t : ApiType} {q s : BelowSequent} {k : Int} {p : Pt} (hO : OkT t) (hq : InQ t q) (hC : Closed t q) (hk : kindsA t q.left = [k]) (hs : s ∈ (headsA t k (ofK t q.left k) (ofK t q.right k)).2) (hp : CE t p s) : ∃ p, CE t p q := by
 obtain ⟨h0, ⟨i0, hi0, hk0⟩, h1⟩ := kinds_one hk;unfold headsA at hs
 split at hs
 ·cases hs
 ·rename_i hr
  split at hs
  ·rename_i h6; subst h6
   simp only [List.mem_cons, List.not_mem_nil, or_false] at hs
   rcases hs with rfl | rfl
   ·refine ⟨.dom (SV t q) p, mk_ce hO hq hC rfl (fun i hi h3 h8 => ⟨h1 i hi h3 h8, ?_⟩) (fun i hi h3 h8 hd => ?_)⟩
    ·exact hp.2 _ (mem_cs.2 (List.mem_map.2 ⟨i, mem_ofK.2 ⟨hi, h1 i hi h3 h8⟩, rfl⟩))
    ·exact hd.2 (hp.1 _ (mem_cs.2 (List.mem_map.2 ⟨i, mem_ofK.2 ⟨hi, hd.1⟩, rfl⟩)))
   ·refine ⟨.cod (SV t q) p, mk_ce hO hq hC rfl (fun i hi h3 h8 => ⟨h1 i hi h3 h8, ?_⟩) (fun i hi h3 h8 hd => ?_)⟩
    ·exact hp.1 _ (mem_cs.2 (List.mem_map.2 ⟨i, mem_ofK.2 ⟨hi, h1 i hi h3 h8⟩, rfl⟩))
    ·exact hp.2 _ (mem_cs.2 (List.mem_map.2 ⟨i, mem_ofK.2 ⟨hi, hd.1⟩, rfl⟩)) hd.2
  ·split at hs
   ·cases hs
   ·rename_i hb
    obtain ⟨n, hn, rfl⟩ := List.mem_map.1 hs;unfold allA at hn
    split at hn
    ·rename_i h7; subst h7
     obtain ⟨hne, hall⟩ := mem_names.1 hn;refine ⟨.field (SV t q) n p, mk_ce hO hq hC rfl (fun i hi h3 h8 => ⟨h1 i hi h3 h8, fun k hk => ?_⟩) (fun i hi h3 h8 hd => ?_)⟩
     ·exact hp.1 _ (mem_cs.2 (mem_parts.2 ⟨i, mem_ofK.2 ⟨hi, h1 i hi h3 h8⟩, hk⟩))
     ·have hi2 := mem_ofK.2 ⟨hi, hd.1⟩
      cases hq2 : atN (nd t i) n with
      | none => exact hall i hi2 hq2
      | some k => exact hp.2 _ (mem_cs.2 (mem_parts.2 ⟨i, hi2, hq2⟩)) (hd.2 k hq2)
    ·split at hn
     ·rename_i h8; subst h8
      obtain ⟨hne, hall⟩ := mem_names.1 hn;refine ⟨.case (SV t q) n p, mk_ce hO hq hC rfl (fun i hi h3 h8 => ⟨h1 i hi h3 h8, ?_⟩) (fun i hi h3 h8 hd => ?_)⟩
      ·have hi2 := mem_ofK.2 ⟨hi, h1 i hi h3 h8⟩
       cases hq2 : atN (nd t i) n with
       | none => exact absurd hq2 (hall i hi2)
       | some k => exact ⟨k, rfl, hp.1 _ (mem_cs.2 (mem_parts.2 ⟨i, hi2, hq2⟩))⟩
      ·obtain ⟨k, hk2, hk3⟩ := hd.2
       exact hp.2 _ (mem_cs.2 (mem_parts.2 ⟨i, mem_ofK.2 ⟨hi, hd.1⟩, hk2⟩)) hk3
     ·cases hn
theorem mk_closed {t : ApiType} {q : BelowSequent} (h1 : ¬ endA t q = true) (h2 : openA t q = none) (h3 : ¬ shareA t q = true) : Closed t q := by
 unfold endA at h1;unfold openA at h2;unfold shareA at h3;rw [Bool.or_eq_true, List.any_eq_true, List.any_eq_true] at h1;simp only [List.any_eq_true, Bool.and_eq_true, decide_eq_true_eq] at h1 h3
 have hL : latA t q.left = none := by
  cases hq : latA t q.left with
  | none => rfl
  | some x => rw [hq] at h2; cases h2
 have hR : latA t q.right = none := by
  cases hq : latA t q.right with
  | none => rfl
  | some x => rw [hL, hq] at h2; cases h2
 exact ⟨fun i hi h => h1 (.inl ⟨i, hi, h⟩), fun i hi h => h1 (.inr ⟨i, hi, h⟩), latA_none hL, latA_none hR, fun i hi j hj h4 h5 h6 => h3 ⟨i, hi, j, hj, ⟨h4, h5⟩, h6⟩⟩
theorem lead_bad {t : ApiType} {q : BelowSequent} (hO : OkT t) (hq : InQ t q) (h : (leadsA t q).1 = true) : ∃ p, CE t p q := by
 unfold leadsA at h
 split at h
 ·cases h
 ·rename_i h1
  split at h
  ·cases h
  ·rename_i h2
   split at h
   ·cases h
   ·rename_i h3
    have hC := mk_closed h1 h2 h3
    unfold closedA at h
    split at h
    ·rename_i hk
     exact ⟨.tag (SV t q) 0, mk_ce hO hq hC rfl (fun i hi h3 h8 => (kinds_nil hk i hi h3 h8).elim) (fun i hi h3 h8 hd => by have := hd.1; omega)⟩
    ·rename_i k hk
     exact heads_bad hO hq hC hk h
    ·cases h
theorem open_up {t : ApiType} {q s : BelowSequent} {l : List BelowSequent} {p : Pt} (h : openA t q = some l) (hs : s ∈ l) (hp : CE t p s) : CE t p q := by
 unfold openA at h
 split at h
 ·rename_i n rest hl
  obtain ⟨i, rfl, hk, hpm⟩ := latA_some hl
  cases h
  have key : Sat t p i -> (∀ j ∈ rest, Sat t p j) -> (∀ j ∈ q.right, ¬ Sat t p j) -> CE t p q := fun h1 h2 h3 => ⟨fun j hj => by rcases List.mem_cons.1 (hpm.mem_iff.1 hj) with rfl | h; exact h1; exact h2 j h, h3⟩
  split at hs
  ·rename_i h10
   simp only [List.mem_singleton] at hs; subst hs
   exact key ((la_meet h10).2 ⟨hp.1 _ (mem_cs.2 (by simp)), hp.1 _ (mem_cs.2 (by simp))⟩) (fun j hj => hp.1 _ (mem_cs.2 (by simp [hj]))) hp.2
  ·rename_i h10
   have h9 : (nd t i).kind = 9 := (lat_yes hk).resolve_right h10
   simp only [List.mem_cons, List.not_mem_nil, or_false] at hs
   rcases hs with rfl | rfl
   ·exact key ((la_join h9).2 (.inl (hp.1 _ (mem_cs.2 (by simp))))) (fun j hj => hp.1 _ (mem_cs.2 (by simp [hj]))) hp.2
   ·exact key ((la_join h9).2 (.inr (hp.1 _ (mem_cs.2 (by simp))))) (fun j hj => hp.1 _ (mem_cs.2 (by simp [hj]))) hp.2
 ·split at h
  ·rename_i n rest hl
   obtain ⟨i, rfl, hk, hpm⟩ := latA_some hl
   cases h
   have key : ¬ Sat t p i -> (∀ j ∈ rest, ¬ Sat t p j) -> (∀ j ∈ q.left, Sat t p j) -> CE t p q := fun h1 h2 h3 => ⟨h3, fun j hj => by rcases List.mem_cons.1 (hpm.mem_iff.1 hj) with rfl | h; exact h1; exact h2 j h⟩
   split at hs
   ·rename_i h9
    simp only [List.mem_singleton] at hs; subst hs
    exact key (fun h => ((la_join h9).1 h).elim (hp.2 _ (mem_cs.2 (by simp))) (hp.2 _ (mem_cs.2 (by simp)))) (fun j hj => hp.2 _ (mem_cs.2 (by simp [hj]))) hp.1
   ·rename_i h9
    have h10 : (nd t i).kind = 10 := (lat_yes hk).resolve_left h9
    simp only [List.mem_cons, List.not_mem_nil, or_false] at hs
    rcases hs with rfl | rfl
    ·exact key (fun h => hp.2 _ (mem_cs.2 (by simp)) ((la_meet h10).1 h).1) (fun j hj => hp.2 _ (mem_cs.2 (by simp [hj]))) hp.1
    ·exact key (fun h => hp.2 _ (mem_cs.2 (by simp)) ((la_meet h10).1 h).2) (fun j hj => hp.2 _ (mem_cs.2 (by simp [hj]))) hp.1
  ·cases h
theorem lead_up {t : ApiType} {q s : BelowSequent} {p : Pt} (hO : OkT t) (hq : InQ t q) (hs : s ∈ (leadsA t q).2) (hp : CE t p s) : ∃ p, CE t p q := by
 unfold leadsA at hs
 split at hs
 ·cases hs
 ·rename_i h1
  split at hs
  ·rename_i l h2
   exact ⟨p, open_up h2 hs hp⟩
  ·rename_i h2
   split at hs
   ·cases hs
   ·rename_i h3
    have hC := mk_closed h1 h2 h3
    unfold closedA at hs
    split at hs
    ·cases hs
    ·rename_i k hk
     exact heads_up hO hq hC hk hs hp
    ·cases hs
def wq (w : Int -> Nat) (q : BelowSequent) : Nat := wsum w q.left + wsum w q.right
theorem open_down {t : ApiType} {q : BelowSequent} {l : List BelowSequent} {p : Pt} {w : Int -> Nat} (hw : ∀ i, In t i -> latB (nd t i).kind = true -> w (nd t i).a + w (nd t i).b < w i) (hq : InQ t q) (h : openA t q = some l) (hp : CE t p q) : ∃ s ∈ l, CE t p s /\ wq w s < wq w q := by
 unfold openA at h
 split at h
 ·rename_i n rest hl
  obtain ⟨i, rfl, hk, hpm⟩ := latA_some hl
  cases h
  have hi : i ∈ q.left := hpm.mem_iff.2 (by simp)
  have hrest : ∀ j ∈ rest, Sat t p j := fun j hj => hp.1 j (hpm.mem_iff.2 (by simp [hj]))
  have hwi := hw i (hq.1 i hi) hk
  have hwl : wsum w q.left = w i + wsum w rest := by rw [wsum_perm hpm]; rfl
  have h2 : ∀ m : List Int, (∀ j ∈ m, Sat t p j) -> wsum w m < w i -> CE t p ⟨cs (rest ++ m), q.right⟩ /\ wq w ⟨cs (rest ++ m), q.right⟩ < wq w q := by
   intro m hm hwm
   refine ⟨⟨fun j hj => ?_, hp.2⟩, ?_⟩
   ·rcases List.mem_append.1 (mem_cs.1 hj) with h | h
    ·exact hrest j h
    ·exact hm j h
   ·have := wsum_cs w (rest ++ m)
    rw [wsum_app] at this;simp only [wq]
    omega
  split
  ·rename_i h10
   have hs := (la_meet h10).1 (hp.1 i hi)
   have := h2 [(nd t i).a, (nd t i).b] (fun j hj => by simp at hj; rcases hj with rfl | rfl; exact hs.1; exact hs.2) (by simp only [wsum]; omega)
   exact ⟨_, by simp, this⟩
  ·rename_i h10
   have h9 : (nd t i).kind = 9 := (lat_yes hk).resolve_right h10
   rcases (la_join h9).1 (hp.1 i hi) with hs | hs
   ·have := h2 [(nd t i).a] (fun j hj => by simp at hj; subst hj; exact hs) (by simp only [wsum]; omega)
    exact ⟨_, by simp, this⟩
   ·have := h2 [(nd t i).b] (fun j hj => by simp at hj; subst hj; exact hs) (by simp only [wsum]; omega)
    exact ⟨⟨cs (rest ++ [(nd t i).b]), q.right⟩, by simp, this⟩
 ·split at h
  ·rename_i n rest hl
   obtain ⟨i, rfl, hk, hpm⟩ := latA_some hl
   cases h
   have hi : i ∈ q.right := hpm.mem_iff.2 (by simp)
   have hrest : ∀ j ∈ rest, ¬ Sat t p j := fun j hj => hp.2 j (hpm.mem_iff.2 (by simp [hj]))
   have hwi := hw i (hq.2 i hi) hk
   have hwl : wsum w q.right = w i + wsum w rest := by rw [wsum_perm hpm]; rfl
   have h2 : ∀ m : List Int, (∀ j ∈ m, ¬ Sat t p j) -> wsum w m < w i -> CE t p ⟨q.left, cs (rest ++ m)⟩ /\ wq w ⟨q.left, cs (rest ++ m)⟩ < wq w q := by
    intro m hm hwm
    refine ⟨⟨hp.1, fun j hj => ?_⟩, ?_⟩
    ·rcases List.mem_append.1 (mem_cs.1 hj) with h | h
     ·exact hrest j h
     ·exact hm j h
    ·have := wsum_cs w (rest ++ m)
     rw [wsum_app] at this;simp only [wq]
     omega
   have hs := hp.2 i hi
   split
   ·rename_i h9
    have := h2 [(nd t i).a, (nd t i).b] (fun j hj => by
     simp at hj
     rcases hj with rfl | rfl
     ·exact fun h => hs ((la_join h9).2 (.inl h))
     ·exact fun h => hs ((la_join h9).2 (.inr h))) (by simp only [wsum]; omega)
    exact ⟨_, by simp, this⟩
   ·rename_i h9
    have h10 : (nd t i).kind = 10 := (lat_yes hk).resolve_left h9
    by_cases ha : Sat t p (nd t i).a
    ·have := h2 [(nd t i).b] (fun j hj => by simp at hj; subst hj; exact fun h => hs ((la_meet h10).2 ⟨ha, h⟩)) (by simp only [wsum]; omega)
     exact ⟨⟨q.left, cs (rest ++ [(nd t i).b])⟩, by simp, this⟩
    ·have := h2 [(nd t i).a] (fun j hj => by simp at hj; subst hj; exact ha) (by simp only [wsum]; omega)
     exact ⟨_, by simp, this⟩
  ·cases h
theorem head_sat {t : ApiType} {q : BelowSequent} {p : Pt} {k : Int} (hk : kindsA t q.left = [k]) (hp : CE t p q) : k = p.kind /\ (3 <= k /\ k <= 8) /\ (∃ i, i ∈ ofK t q.left k) /\ (∀ i ∈ ofK t q.left k, hdP t p (nd t i)) /\ ∀ i ∈ ofK t q.right k, ¬ hdP t p (nd t i) := by
 obtain ⟨h0, ⟨i0, hi0, hk0⟩, h1⟩ := kinds_one hk
 have hd : ∀ i ∈ ofK t q.left k, hdP t p (nd t i) := fun i hi => by
  obtain ⟨h2, h3⟩ := mem_ofK.1 hi;exact (la_head (by omega) (by omega)).1 (hp.1 i h2)
 refine ⟨?_, h0, ⟨i0, mem_ofK.2 ⟨hi0, hk0⟩⟩, hd, fun i hi hh => ?_⟩
 ·rw [<- hdP_kind (hd i0 (mem_ofK.2 ⟨hi0, hk0⟩)), hk0]
 ·obtain ⟨h2, h3⟩ := mem_ofK.1 hi
  exact hp.2 i h2 ((la_head (by omega) (by omega)).2 hh)
theorem heads_down {t : ApiType} {p : Pt} {l r : List Int} (h0 : 3 <= p.kind /\ p.kind <= 8) (hne : ∃ i, i ∈ l) (hK : ∀ i ∈ r, (nd t i).kind = p.kind) (hL : ∀ i ∈ l, hdP t p (nd t i)) (hR : ∀ i ∈ r, ¬ hdP t p (nd t i)) :
  (headsA t p.kind l r).1 = true \/ ∃ s ∈ (headsA t p.kind l r).2, ∃ p', CE t p' s /\ p'.size < p.size := by
 by_cases hr : p.kind ≠ 8 /\ r = []
 ·left; unfold headsA; rw [if_pos hr]
 have hnil : p.kind ≠ 8 -> r ≠ [] := fun h h2 => hr ⟨h, h2⟩
 cases p with
 | tag S k =>
  exfalso
  by_cases h8 : k = 8
  ·obtain ⟨i, hi⟩ := hne
   exact (hL i hi).2 h8
  ·cases r with
   | nil => exact hnil h8 rfl
   | cons j m => exact hR j (by simp) ⟨hK j (by simp), h8⟩
 | dom S p =>
  right
  refine ⟨⟨cs (r.map fun i => (nd t i).a), cs (l.map fun i => (nd t i).a)⟩, by unfold headsA; rw [if_neg hr]; simp [Pt.kind], p, ⟨fun x hx => ?_, fun x hx => ?_⟩, by simp [Pt.size]⟩
  ·obtain ⟨i, hi, rfl⟩ := List.mem_map.1 (mem_cs.1 hx)
   exact Classical.byContradiction fun h => hR i hi ⟨hK i hi, h⟩
  ·obtain ⟨i, hi, rfl⟩ := List.mem_map.1 (mem_cs.1 hx)
   exact (hL i hi).2
 | cod S p =>
  right
  refine ⟨⟨cs (l.map fun i => (nd t i).b), cs (r.map fun i => (nd t i).b)⟩, by unfold headsA; rw [if_neg hr]; simp [Pt.kind], p, ⟨fun x hx => ?_, fun x hx => ?_⟩, by simp [Pt.size]⟩
  ·obtain ⟨i, hi, rfl⟩ := List.mem_map.1 (mem_cs.1 hx)
   exact (hL i hi).2
  ·obtain ⟨i, hi, rfl⟩ := List.mem_map.1 (mem_cs.1 hx)
   exact fun h => hR i hi ⟨hK i hi, h⟩
 | absent S s =>
  left
  have hs : s ∈ namesA t r := mem_names.2 ⟨hnil (by simp [Pt.kind]), fun i hi h => hR i hi ⟨hK i hi, h⟩⟩
  unfold headsA;rw [if_neg hr, if_neg (by simp [Pt.kind]), if_pos (List.any_eq_true.2 ⟨s, by simp [allA, Pt.kind, hs], bad_of (.inl fun i hi => (hL i hi).2)⟩)]
 | field S s p =>
  have hex : ∀ i ∈ r, ∃ k, atN (nd t i) s = some k /\ ¬ Sat t p k := fun i hi => Classical.byContradiction fun h => hR i hi ⟨hK i hi, fun k hk => Classical.byContradiction fun h2 => h ⟨k, hk, h2⟩⟩
  have hs : s ∈ namesA t r := mem_names.2 ⟨hnil (by simp [Pt.kind]), fun i hi h => by obtain ⟨k, hk, _⟩ := hex i hi; rw [h] at hk; cases hk⟩
  by_cases hb : (allA t (Pt.field S s p).kind l r).any (badA t l r) = true
  ·left; unfold headsA; rw [if_neg hr, if_neg (by simp [Pt.kind]), if_pos hb]
  ·right
   refine ⟨⟨cs (partsA t l s), cs (partsA t r s)⟩, ?_, p, ⟨fun x hx => ?_, fun x hx => ?_⟩, by simp [Pt.size]⟩
   ·unfold headsA; rw [if_neg hr, if_neg (by simp [Pt.kind]), if_neg hb]
    exact List.mem_map.2 ⟨s, by simp [allA, Pt.kind, hs], rfl⟩
   ·obtain ⟨i, hi, hk⟩ := mem_parts.1 (mem_cs.1 hx)
    exact (hL i hi).2 x hk
   ·obtain ⟨i, hi, hk⟩ := mem_parts.1 (mem_cs.1 hx)
    obtain ⟨k, hk2, hk3⟩ := hex i hi;rw [hk] at hk2; cases hk2
    exact hk3
 | hasc S s =>
  left
  obtain ⟨i0, hi0⟩ := hne
  have hs : s ∈ namesA t l := mem_names.2 ⟨fun e => (by rw [e] at hi0; cases hi0), fun i hi => (hL i hi).2⟩
  have hn : ∀ i ∈ r, atN (nd t i) s = none := fun i hi => by
   cases hq : atN (nd t i) s with
   | none => rfl
   | some k => exact absurd ⟨hK i hi, by rw [hq]; simp⟩ (hR i hi)
  unfold headsA;rw [if_neg hr, if_neg (by simp [Pt.kind]), if_pos (List.any_eq_true.2 ⟨s, by simp [allA, Pt.kind, hs], bad_of (.inr hn)⟩)]
 | case S s p =>
  obtain ⟨i0, hi0⟩ := hne
  have hs : s ∈ namesA t l := mem_names.2 ⟨fun e => (by rw [e] at hi0; cases hi0), fun i hi h => by obtain ⟨k, hk, _⟩ := (hL i hi).2; rw [h] at hk; cases hk⟩
  by_cases hb : (allA t (Pt.case S s p).kind l r).any (badA t l r) = true
  ·left; unfold headsA; rw [if_neg hr, if_neg (by simp [Pt.kind]), if_pos hb]
  ·right
   refine ⟨⟨cs (partsA t l s), cs (partsA t r s)⟩, ?_, p, ⟨fun x hx => ?_, fun x hx => ?_⟩, by simp [Pt.size]⟩
   ·unfold headsA; rw [if_neg hr, if_neg (by simp [Pt.kind]), if_neg hb]
    exact List.mem_map.2 ⟨s, by simp [allA, Pt.kind, hs], rfl⟩
   ·obtain ⟨i, hi, hk⟩ := mem_parts.1 (mem_cs.1 hx)
    obtain ⟨k, hk2, hk3⟩ := (hL i hi).2;rw [hk] at hk2; cases hk2
    exact hk3
   ·obtain ⟨i, hi, hk⟩ := mem_parts.1 (mem_cs.1 hx)
    exact fun h => hR i hi ⟨hK i hi, x, hk, h⟩
theorem lead_down {t : ApiType} {q : BelowSequent} {p : Pt} {w : Int -> Nat} (hO : OkT t) (hw : ∀ i, In t i -> latB (nd t i).kind = true -> w (nd t i).a + w (nd t i).b < w i) (hq : InQ t q) (hp : CE t p q) :
  (leadsA t q).1 = true \/ ∃ s ∈ (leadsA t q).2, ∃ p', CE t p' s /\ (p'.size < p.size \/ (p'.size = p.size /\ wq w s < wq w q)) := by
 have h1 : ¬ endA t q = true := by
  unfold endA;rw [Bool.or_eq_true, List.any_eq_true, List.any_eq_true];rintro (⟨i, hi, h⟩ | ⟨i, hi, h⟩)
  ·exact la_bot (of_decide_eq_true h) (hp.1 i hi)
  ·exact hp.2 i hi (la_top (of_decide_eq_true h))
 unfold leadsA;rw [if_neg h1]
 cases h2 : openA t q with
 | some l =>
  right
  obtain ⟨s, hs, h3, h4⟩ := open_down hw hq h2 hp;exact ⟨s, hs, p, h3, .inr ⟨rfl, h4⟩⟩
 | none =>
  have h3 : ¬ shareA t q = true := by
   unfold shareA;simp only [List.any_eq_true, Bool.and_eq_true, decide_eq_true_eq];rintro ⟨i, hi, j, hj, ⟨h4, h5⟩, h6⟩
   have := (la_var h4).1 (hp.1 i hi)
   rw [h6] at this;exact hp.2 j hj ((la_var h5).2 this)
  simp only [if_neg h3];unfold closedA
  cases hk : kindsA t q.left with
  | nil => left; rfl
  | cons k m =>
   cases m with
   | nil =>
    obtain ⟨rfl, h5, h6, h7, h8⟩ := head_sat hk hp
    rcases heads_down h5 h6 (fun i hi => (mem_ofK.1 hi).2) h7 h8 with h | ⟨s, hs, p', h9, h10⟩
    ·left; exact h
    ·right; exact ⟨s, hs, p', h9, .inl h10⟩
   | cons b m =>
    exfalso
    obtain ⟨i, hi, j, hj, h5, h6, h7⟩ := kinds_two hk
    have e1 := hdP_kind ((la_head h5.1 h5.2).1 (hp.1 i hi))
    have e2 := hdP_kind ((la_head h6.1 h6.2).1 (hp.1 j hj))
    exact h7 (e1.trans e2.symm)
structure Kept (t : ApiType) (A : Int -> Prop) : Prop where
 inn : ∀ i, A i -> In t i
 pair : ∀ i, A i -> (nd t i).kind = 6 \/ (nd t i).kind = 9 \/ (nd t i).kind = 10 -> A (nd t i).a /\ A (nd t i).b
 fld : ∀ i, A i -> ∀ f ∈ (nd t i).l, A f.at_
theorem Kept.all {t : ApiType} (hO : OkT t) : Kept t (In t) := ⟨fun _ h => h, fun _ h hk => hO.pair h hk, fun _ h _ hf => hO.at_ h hf⟩
def InAB (A B : Int -> Prop) (q : BelowSequent) : Prop := (∀ i ∈ q.left, A i) /\ ∀ i ∈ q.right, B i
theorem Kept.parts {t : ApiType} {A : Int -> Prop} (hA : Kept t A) {l : List Int} (h : ∀ i ∈ l, A i) (s : List UInt8) : ∀ i ∈ cs (partsA t l s), A i := fun k hk => by
 obtain ⟨i, hi, h2⟩ := mem_parts.1 (mem_cs.1 hk);obtain ⟨f, hf, _, rfl⟩ := atN_mem h2;exact hA.fld i (h i hi) f hf
theorem lead_in {t : ApiType} {A B : Int -> Prop} (hA : Kept t A) (hB : Kept t B) {q s : BelowSequent} (hq : InAB A B q) (hs : s ∈ (leadsA t q).2) : InAB A B s \/ InAB B A s := by
 unfold leadsA at hs
 split at hs
 ·cases hs
 ·split at hs
  ·rename_i l h2
   left
   unfold openA at h2
   split at h2
   ·rename_i n rest hl
    obtain ⟨i, rfl, hk, hpm⟩ := latA_some hl
    cases h2
    have hi : A i := hq.1 i (hpm.mem_iff.2 (by simp))
    have hp := hA.pair i hi (.inr (lat_yes hk))
    have hrest : ∀ j ∈ rest, A j := fun j hj => hq.1 j (hpm.mem_iff.2 (by simp [hj]))
    have h2 : ∀ m : List Int, (∀ j ∈ m, A j) -> InAB A B ⟨cs (rest ++ m), q.right⟩ := fun m hm => ⟨fun j hj => by
     rcases List.mem_append.1 (mem_cs.1 hj) with h | h
     ·exact hrest j h
     ·exact hm j h, hq.2⟩
    split at hs
    ·simp only [List.mem_singleton] at hs; subst hs
     exact h2 _ (fun j hj => by simp at hj; rcases hj with rfl | rfl; exact hp.1; exact hp.2)
    ·simp only [List.mem_cons, List.not_mem_nil, or_false] at hs
     rcases hs with rfl | rfl
     ·exact h2 _ (fun j hj => by simp at hj; subst hj; exact hp.1)
     ·exact h2 _ (fun j hj => by simp at hj; subst hj; exact hp.2)
   ·split at h2
    ·rename_i n rest hl
     obtain ⟨i, rfl, hk, hpm⟩ := latA_some hl
     cases h2
     have hi : B i := hq.2 i (hpm.mem_iff.2 (by simp))
     have hp := hB.pair i hi (.inr (lat_yes hk))
     have hrest : ∀ j ∈ rest, B j := fun j hj => hq.2 j (hpm.mem_iff.2 (by simp [hj]))
     have h2 : ∀ m : List Int, (∀ j ∈ m, B j) -> InAB A B ⟨q.left, cs (rest ++ m)⟩ := fun m hm => ⟨hq.1, fun j hj => by
      rcases List.mem_append.1 (mem_cs.1 hj) with h | h
      ·exact hrest j h
      ·exact hm j h⟩
     split at hs
     ·simp only [List.mem_singleton] at hs; subst hs
      exact h2 _ (fun j hj => by simp at hj; rcases hj with rfl | rfl; exact hp.1; exact hp.2)
     ·simp only [List.mem_cons, List.not_mem_nil, or_false] at hs
      rcases hs with rfl | rfl
      ·exact h2 _ (fun j hj => by simp at hj; subst hj; exact hp.1)
      ·exact h2 _ (fun j hj => by simp at hj; subst hj; exact hp.2)
    ·cases h2
  ·split at hs
   ·cases hs
   ·unfold closedA at hs
    split at hs
    ·cases hs
    ·rename_i k hk
     have hL : ∀ i ∈ ofK t q.left k, A i := fun i hi => hq.1 i (mem_ofK.1 hi).1
     have hR : ∀ i ∈ ofK t q.right k, B i := fun i hi => hq.2 i (mem_ofK.1 hi).1
     unfold headsA at hs
     split at hs
     ·cases hs
     ·split at hs
      ·rename_i h6; subst h6
       simp only [List.mem_cons, List.not_mem_nil, or_false] at hs
       rcases hs with rfl | rfl
       ·right
        refine ⟨fun x hx => ?_, fun x hx => ?_⟩ <;> obtain ⟨i, hi, rfl⟩ := List.mem_map.1 (mem_cs.1 hx)
        ·exact (hB.pair i (hR i hi) (.inl (mem_ofK.1 hi).2)).1
        ·exact (hA.pair i (hL i hi) (.inl (mem_ofK.1 hi).2)).1
       ·left
        refine ⟨fun x hx => ?_, fun x hx => ?_⟩ <;> obtain ⟨i, hi, rfl⟩ := List.mem_map.1 (mem_cs.1 hx)
        ·exact (hA.pair i (hL i hi) (.inl (mem_ofK.1 hi).2)).2
        ·exact (hB.pair i (hR i hi) (.inl (mem_ofK.1 hi).2)).2
      ·split at hs
       ·cases hs
       ·obtain ⟨n, hn, rfl⟩ := List.mem_map.1 hs
        left
        exact ⟨hA.parts hL n, hB.parts hR n⟩
    ·cases hs
inductive Rch (t : ApiType) (q : BelowSequent) : BelowSequent -> Prop
 | refl : Rch t q q
 | step {s s' : BelowSequent} : Rch t q s -> s' ∈ (leadsA t s).2 -> Rch t q s'
theorem Rch.head {t : ApiType} {q s s' : BelowSequent} (h1 : s ∈ (leadsA t q).2) (h : Rch t s s') : Rch t q s' := by
 induction h with
 | refl => exact .step .refl h1
 | step _ h2 ih => exact .step ih h2
theorem lead_inQ {t : ApiType} (hO : OkT t) {q s : BelowSequent} (hq : InQ t q) (hs : s ∈ (leadsA t q).2) : InQ t s := (lead_in (Kept.all hO) (Kept.all hO) hq hs).elim id id
theorem Rch.inQ {t : ApiType} (hO : OkT t) {q s : BelowSequent} (hq : InQ t q) (h : Rch t q s) : InQ t s := by
 induction h with
 | refl => exact hq
 | step _ h2 ih => exact lead_inQ hO ih h2
theorem ce_fails {t : ApiType} (hO : OkT t) {w : Int -> Nat} (hw : ∀ i, In t i -> latB (nd t i).kind = true -> w (nd t i).a + w (nd t i).b < w i) : ∀ (n m : Nat) (q : BelowSequent) (p : Pt), p.size <= n -> wq w q <= m -> InQ t q -> CE t p q -> ∃ s, Rch t q s /\ (leadsA t s).1 = true := by
 intro n
 induction n with
 | zero =>
  intro m
  induction m with
  | zero =>
   intro q p h1 h2 hq hp
   rcases lead_down hO hw hq hp with h | ⟨s, _, p', _, h⟩
   ·exact ⟨q, .refl, h⟩
   ·omega
  | succ m ih =>
   intro q p h1 h2 hq hp
   rcases lead_down hO hw hq hp with h | ⟨s, hs, p', hp', h⟩
   ·exact ⟨q, .refl, h⟩
   ·obtain ⟨s', h3, h4⟩ := ih s p' (by omega) (by omega) (lead_inQ hO hq hs) hp'
    exact ⟨s', h3.head hs, h4⟩
 | succ n ihn =>
  intro m
  induction m with
  | zero =>
   intro q p h1 h2 hq hp
   rcases lead_down hO hw hq hp with h | ⟨s, hs, p', hp', h⟩
   ·exact ⟨q, .refl, h⟩
   ·obtain ⟨s', h3, h4⟩ := ihn (wq w s) s p' (by omega) (Nat.le_refl _) (lead_inQ hO hq hs) hp'
    exact ⟨s', h3.head hs, h4⟩
  | succ m ih =>
   intro q p h1 h2 hq hp
   rcases lead_down hO hw hq hp with h | ⟨s, hs, p', hp', h⟩
   ·exact ⟨q, .refl, h⟩
   ·by_cases h5 : p'.size <= n
    ·obtain ⟨s', h3, h4⟩ := ihn (wq w s) s p' h5 (Nat.le_refl _) (lead_inQ hO hq hs) hp'
     exact ⟨s', h3.head hs, h4⟩
    ·obtain ⟨s', h3, h4⟩ := ih s p' (by omega) (by omega) (lead_inQ hO hq hs) hp'
     exact ⟨s', h3.head hs, h4⟩
theorem fails_ce {t : ApiType} (hO : OkT t) {q s : BelowSequent} (h : Rch t q s) (hq : InQ t q) (hs : ∃ p, CE t p s) : ∃ p, CE t p q := by
 induction h with
 | refl => exact hs
 | step h1 h2 ih =>
  obtain ⟨p, hp⟩ := hs;exact ih (lead_up hO (h1.inQ hO hq) h2 hp)
def Valid (t : ApiType) (q : BelowSequent) : Prop := ∀ p, ¬ CE t p q
theorem valid_iff {t : ApiType} (hO : OkT t) {q : BelowSequent} (hq : InQ t q) : (∀ s, Rch t q s -> (leadsA t s).1 = false) ↔ Valid t q := by
 obtain ⟨w, hw⟩ := hO.weight
 constructor
 ·intro h p hp
  obtain ⟨s, h1, h2⟩ := ce_fails hO hw p.size (wq w q) q p (Nat.le_refl _) (Nat.le_refl _) hq hp;rw [h s h1] at h2; cases h2
 ·intro h s hs
  cases h1 : (leadsA t s).1 with
  | false => rfl
  | true =>
   obtain ⟨p, hp⟩ := fails_ce hO hs hq (lead_bad hO (hs.inQ hO hq) h1);exact absurd hp (h p)
end Go.Proofs.YtkfnogdccpcmhaaGreatDoor
namespace Go.Proofs.YtkfnogdccpcmhaaGreatDoor
open Go.V
open Classical
theorem takeS {α : Type} {l : List α} {i : Nat} {x : α} (h : l[i]? = some x) : l.take (i + 1) = l.take i ++ [x] := by
 have hi := (List.getElem?_eq_some_iff.1 h).1
 rw [List.take_succ_eq_append_getElem hi];rw [List.getElem?_eq_getElem hi] at h;rw [Option.some.inj h]
theorem getN {t : ApiType} {i : Int} (h : In t i) : idx t.l i = some (nd t i) := by unfold idx; rw [if_pos h.1, nd_get h]
theorem kind_eq {t : ApiType} {i : Int} (h : In t i) : m_below_search_kind t i = some (nd t i).kind := by unfold m_below_search_kind; rw [getN h]; rfl
theorem index_eq (l : List Int) (f : Int -> Option Bool) (g : Int -> Bool) (h : ∀ x ∈ l, f x = some (g x)) (hl : l.length <= 1000000) : m_ixI l f = some (match l.findIdx? g with | some i => (i : Int) | none => -1) := by
 unfold m_ixI;rw [loop_find (φ := m_ixI_l1 l f) (l := l) (fun i => (i : Int)) g ?_ ?_ (by rw [FUv]; omega)]
 ·rw [Option.bind_some]
  cases hf : l.findIdx? g with
  | none => rfl
  | some i => rfl
 ·intro n i x hx hi
  simp only [m_ixI_l1];rw [decide_eq_true (show (i : Int) < l.length by omega), cond_true, getI hx, Option.bind_some, h x (List.mem_of_getElem? hx), Option.bind_some];exact ⟨fun hq => by rw [hq, cond_false, grd_pos (by omega)], fun hq => by rw [hq, cond_true]⟩
 ·intro n
  simp only [m_ixI_l1];rw [decide_eq_false (by omega), cond_false]
theorem contains_eq (l : List Int) (f : Int -> Option Bool) (g : Int -> Bool) (h : ∀ x ∈ l, f x = some (g x)) (hl : l.length <= 1000000) : m_cnI l f = some (l.any g) := by
 unfold m_cnI;rw [index_eq l f g h hl, Option.bind_some]
 cases hf : l.findIdx? g with
 | none =>
  have : l.any g = false := by
   rw [List.any_eq_false]
   intro x hx
   have := List.findIdx?_eq_none_iff.1 hf x hx
   simp [this]
  rw [this]; rfl
 | some i =>
  obtain ⟨hi, h1, _⟩ := List.findIdx?_eq_some_iff_getElem.1 hf
  have : l.any g = true := List.any_eq_true.2 ⟨l[i], List.getElem_mem hi, h1⟩
  rw [this]
  show some (decide (0 <= (i : Int))) = some true
  rw [decide_eq_true (by omega)]
theorem has_eq {t : ApiType} {l : List Int} (h : ∀ i ∈ l, In t i) (hl : l.length <= 1000) (k : Int) : m_below_search_has t l k = some (l.any fun i => decide ((nd t i).kind = k)) := by
 unfold m_below_search_has;rw [contains_eq l _ (fun i => decide ((nd t i).kind = k)) (fun x hx => by unfold m_below_search_has_1; rw [kind_eq (h x hx)]; rfl) (by omega)]
 rfl
theorem lattice_eq {t : ApiType} {l : List Int} (h : ∀ i ∈ l, In t i) (hl : l.length <= 1000) : m_below_search_lattice t l = some (match latA t l with | some (n, rest) => (n, rest, true) | none => (⟨0, 0, 0, []⟩, [], false)) := by
 unfold m_below_search_lattice;rw [index_eq l _ (fun i => latB (nd t i).kind) (fun x hx => by
  unfold m_below_search_lattice_1;rw [kind_eq (h x hx), Option.bind_some];unfold latB
  cases decide ((nd t x).kind = 9) <;> rfl) (by omega), Option.bind_some]
 unfold latA
 cases hf : l.findIdx? (fun i => latB (nd t i).kind) with
 | none => rfl
 | some i =>
  obtain ⟨hi, h1, _⟩ := List.findIdx?_eq_some_iff_getElem.1 hf
  have hx : l[i]? = some l[i] := List.getElem?_eq_getElem hi
  have e : l.getD i 0 = l[i] := by rw [List.getD_eq_getElem?_getD, hx]; rfl
  simp only [Option.map_some];rw [decide_eq_false (by omega), cond_false, getI hx, Option.bind_some, getN (h _ (List.getElem_mem hi)), Option.bind_some, grd_pos (by omega), grd_pos (by constructor <;> omega), grd_pos (by omega), grd_pos (by omega), grd_pos (by omega), grd_pos (by rintro rfl; cases hi), e]
  congr 3
theorem concat_eq (ls : List (List Int)) (h : ls.length <= 3) (h2 : ∀ l ∈ ls, l.length <= 2000) : m_ccI ls = some ls.flatten := by
 have hm : ∀ {i : Nat} {x : List Int}, ls[i]? = some x -> x.length <= 2000 := fun hx => h2 _ (List.mem_of_getElem? hx)
 unfold m_ccI
 have e1 := loop_fold (φ := fun n i s => m_ccI_l1 ls n (s, i)) (l := ls) (fun i s => 0 <= s /\ s <= 2000 * i) (fun _ s x => s + (x.length : Int)) id (by
  intro n i x s hx hi hI
  have hm := hm hx
  simp only [m_ccI_l1];rw [decide_eq_true (by omega), cond_true, getI hx, Option.bind_some, grd_pos (by omega), decide_eq_false (by omega), cond_false, grd_pos (by omega)];exact ⟨rfl, by omega⟩) (by
  intro n s hI
  simp only [m_ccI_l1];rw [decide_eq_false (by omega), cond_false]; rfl) (by rw [FUv]; omega) (fun _ t s => t.foldl (fun s x => s + (x.length : Int)) s) (fun _ _ => rfl) (fun _ _ _ _ => rfl) 0 (by omega)
 have e2 := loop_fold (φ := fun n i s => m_ccI_l2 ls n (i, s)) (l := ls) (fun i s => s.length <= 2000 * i) (fun _ s x => s ++ x) id (by
  intro n i x s hx hi hI
  have hm := hm hx
  simp only [m_ccI_l2];rw [decide_eq_true (by omega), cond_true, getI hx, Option.bind_some, grd_pos (by omega), grd_pos (by omega)];exact ⟨rfl, by simp; omega⟩) (by
  intro n s hI
  simp only [m_ccI_l2];rw [decide_eq_false (by omega), cond_false]; rfl) (by rw [FUv]; omega) (fun _ t s => s ++ t.flatten) (by simp) (by simp) [] (by simp)
 rw [e1.1, Option.bind_some]
 have e3 := e1.2
 rw [id, grd_pos (by omega), grd_pos (by omega)];rw [e2.1]; rfl
theorem set_eq {l : List Int} (h : l.length <= 1000000) : m_below_set l = some (cs l) := by
 unfold m_below_set;rw [grd_pos (by omega), grd_pos (by omega)]; rfl
theorem plus_eq {l m : List Int} (h : l.length <= 1000) (h2 : m.length <= 1000) : m_below_plus l m = some (cs (l ++ m)) := by
 unfold m_below_plus;rw [concat_eq [l, m] (by simp) (by simp; omega), Option.bind_some, set_eq (by simp; omega)]
 simp
theorem latA_len {t : ApiType} {l rest : List Int} {n : ApiTNode} (h : latA t l = some (n, rest)) : rest.length <= l.length := by
 obtain ⟨i, _, _, hp⟩ := latA_some h
 have := hp.length_eq
 simp at this; omega
theorem opened_eq {t : ApiType} {q : BelowSequent} (hq : InQ t q) (h1 : q.left.length <= 500) (h2 : q.right.length <= 500) : m_below_search_opened t q = some (match openA t q with | some l => (⟨l, false⟩, true) | none => (⟨[], false⟩, false)) := by
 unfold m_below_search_opened openA;rw [lattice_eq hq.1 (by omega), Option.bind_some]
 cases hl : latA t q.left with
 | some x =>
  obtain ⟨n, rest⟩ := x
  have := latA_len hl
  simp only [cond_true]
  by_cases h10 : n.kind = 10
  ·rw [decide_eq_true h10, cond_true, plus_eq (by omega) (by simp), if_pos h10]; rfl
  ·rw [decide_eq_false h10, cond_false, plus_eq (by omega) (by simp), Option.bind_some, plus_eq (by omega) (by simp), if_neg h10]; rfl
 | none =>
  simp only [cond_false];rw [lattice_eq hq.2 (by omega), Option.bind_some]
  cases hr : latA t q.right with
  | some x =>
   obtain ⟨n, rest⟩ := x
   have := latA_len hr
   simp only [cond_true]
   by_cases h9 : n.kind = 9
   ·rw [decide_eq_true h9, cond_true, plus_eq (by omega) (by simp), if_pos h9]; rfl
   ·rw [decide_eq_false h9, cond_false, plus_eq (by omega) (by simp), Option.bind_some, plus_eq (by omega) (by simp), if_neg h9]; rfl
  | none => simp only [cond_false]
theorem shared_eq {t : ApiType} {q : BelowSequent} (hq : InQ t q) (h1 : q.left.length <= 500) (h2 : q.right.length <= 500) : m_below_search_shared t q = some (shareA t q) := by
 unfold m_below_search_shared;obtain ⟨o, e1, e2⟩ := loop_rng (φ := fun n i s => m_below_search_shared_l1 t q n (i, s)) (l := q.left) (fun i s => ∀ v, (mget s v).getD false = (q.left.take i).any fun j => decide ((nd t j).kind = 11) && decide ((nd t j).a = v)) (fun o => ∀ v, (mget o v).getD false = q.left.any fun j => decide ((nd t j).kind = 11) && decide ((nd t j).a = v))
  (by
   intro n i x s hx hi hI
   left
   simp only [m_below_search_shared_l1];rw [decide_eq_true (show (i : Int) < (q.left.length : Int) by omega), cond_true, getI hx, Option.bind_some, getN (hq.1 _ (List.mem_of_getElem? hx)), Option.bind_some]
   by_cases h11 : (nd t x).kind = 11
   ·rw [decide_eq_true h11, cond_true, grd_pos (by constructor <;> omega)]
    refine ⟨_, rfl, fun v => ?_⟩;rw [takeS hx, List.any_append, mget_set, <- hI v]
    by_cases hv : v = (nd t x).a
    ·subst hv; simp [h11]
    ·rw [if_neg hv]; simp [h11, show ¬ (nd t x).a = v from fun e => hv e.symm]
   ·rw [decide_eq_false h11, cond_false, grd_pos (by constructor <;> omega)]
    refine ⟨_, rfl, fun v => ?_⟩;rw [takeS hx, List.any_append, <- hI v]
    simp [h11])
  (by
   intro n s hI
   simp only [m_below_search_shared_l1];rw [decide_eq_false (by omega), cond_false];exact ⟨s, rfl, by simpa using hI⟩) (by rw [FUv]; omega) [] (by intro v; simp [mget])
 rw [e1, Option.bind_some];rw [contains_eq q.right _ (fun j => decide ((nd t j).kind = 11) && (mget o (nd t j).a).getD false) (fun x hx => by
  unfold m_below_search_shared_1;rw [getN (hq.2 _ hx)]; rfl) (by omega), Option.bind_some]
 congr 1
 unfold shareA;rw [Bool.eq_iff_iff];simp only [List.any_eq_true, Bool.and_eq_true, decide_eq_true_eq, e2]
 constructor
 ·rintro ⟨j, hj, h3, i, hi, h4, h5⟩; exact ⟨i, hi, j, hj, ⟨h4, h3⟩, h5⟩
 ·rintro ⟨i, hi, j, hj, ⟨h4, h3⟩, h5⟩; exact ⟨j, hj, h3, i, hi, h4, h5⟩
theorem nodup_one {l : List Int} {k : Int} (hn : l.Nodup) (h : ∀ x, x ∈ l ↔ x = k) : l = [k] := by
 cases l with
 | nil => have := (h k).2 rfl; cases this
 | cons a m =>
  have ha := (h a).1 (by simp)
  subst ha
  cases m with
  | nil => rfl
  | cons b m =>
   have hb := (h b).1 (by simp)
   subst hb;exact absurd (List.nodup_cons.1 hn).1 (by simp)
def headsI (t : ApiType) (l : List Int) (k : Int) : Prop := (k = 0 /\ ∀ i ∈ l, 3 <= (nd t i).kind -> (nd t i).kind <= 8 -> False) \/ ((3 <= k /\ k <= 8) /\ (∃ i ∈ l, (nd t i).kind = k) /\ ∀ i ∈ l, 3 <= (nd t i).kind -> (nd t i).kind <= 8 -> (nd t i).kind = k)
theorem heads_kinds {t : ApiType} {l : List Int} {k : Int} (h : headsI t l k) : (k = 0 /\ kindsA t l = []) \/ (3 <= k /\ kindsA t l = [k]) := by
 rcases h with ⟨h1, h2⟩ | ⟨h1, h2, h3⟩
 ·left
  refine ⟨h1, ?_⟩;rw [List.eq_nil_iff_forall_not_mem]
  intro x hx
  obtain ⟨h4, i, hi, rfl⟩ := mem_kinds.1 hx;exact h2 i hi h4.1 h4.2
 ·right
  refine ⟨h1.1, nodup_one (kinds_nodup t l) (fun x => ⟨fun hx => ?_, fun hx => ?_⟩)⟩
  ·obtain ⟨h4, i, hi, rfl⟩ := mem_kinds.1 hx
   exact h3 i hi h4.1 h4.2
  ·subst hx; exact mem_kinds.2 ⟨h1, h2⟩
theorem heads_eq {t : ApiType} {l : List Int} (hO : OkT t) (h : ∀ i ∈ l, In t i) (hb : ∀ i ∈ l, (nd t i).kind ≠ 2) (hla : ∀ i ∈ l, latB (nd t i).kind = false) (hl : l.length <= 500) :
  ∃ k more, m_below_search_heads t l = some (k, more) /\ (more = true -> ∃ a b m, kindsA t l = a :: b :: m) /\ (more = false -> (k = 0 /\ kindsA t l = []) \/ (3 <= k /\ kindsA t l = [k])) := by
 unfold m_below_search_heads;obtain ⟨o, e1, e2⟩ := loop_rng (φ := fun n i s => m_below_search_heads_l1 t l n (s, i)) (l := l) (fun i k => headsI t (l.take i) k) (fun o => (∃ k, o = Out.go k /\ headsI t l k) \/ (∃ k a b m, o = Out.ret (k, true) /\ kindsA t l = a :: b :: m))
  (by
   intro n i x k hx hi hI
   have hxm := List.mem_of_getElem? hx
   have hk := hO.kind (h x hxm)
   have h2 := hb x hxm
   have h3 := lat_no (hla x hxm)
   simp only [m_below_search_heads_l1];rw [decide_eq_true (show (i : Int) < (l.length : Int) by omega), cond_true, getI hx, Option.bind_some, kind_eq (h x hxm), Option.bind_some]
   by_cases hv : (nd t x).kind = 11 \/ (nd t x).kind = 1
   ·left
    rw [show (decide ((nd t x).kind = 11) || decide ((nd t x).kind = 1)) = true by simpa using hv, cond_true, grd_pos (by constructor <;> omega)];refine ⟨_, rfl, ?_⟩;rw [takeS hx]
    rcases hI with ⟨h4, h5⟩ | ⟨h4, ⟨j, hj, h5⟩, h6⟩
    ·left
     refine ⟨h4, fun j hj h6 h7 => ?_⟩
     rcases List.mem_append.1 hj with hj | hj
     ·exact h5 j hj h6 h7
     ·simp at hj; subst hj; omega
    ·right
     refine ⟨h4, ⟨j, by simp [hj], h5⟩, fun j hj h7 h8 => ?_⟩
     rcases List.mem_append.1 hj with hj | hj
     ·exact h6 j hj h7 h8
     ·simp at hj; subst hj; omega
   ·rw [show (decide ((nd t x).kind = 11) || decide ((nd t x).kind = 1)) = false by simpa using hv, cond_false]
    have hx38 : 3 <= (nd t x).kind /\ (nd t x).kind <= 8 := by omega
    by_cases hc : k ≠ 0 /\ (nd t x).kind ≠ k
    ·right
     rw [show ((!decide (k = 0)) && (!decide ((nd t x).kind = k))) = true by simpa using hc, cond_true];refine ⟨_, rfl, .inr ?_⟩
     rcases hI with ⟨h4, _⟩ | ⟨h4, ⟨j, hj, h5⟩, _⟩
     ·exact absurd h4 hc.1
     ·cases hkk : kindsA t l with
      | nil => exact (kinds_nil hkk x hxm hx38.1 hx38.2).elim
      | cons a m =>
       cases m with
       | nil =>
        obtain ⟨_, _, h7⟩ := kinds_one hkk
        have e1 := h7 x hxm hx38.1 hx38.2
        have e2 := h7 j (List.mem_of_mem_take hj) (by omega) (by omega)
        omega
       | cons b m => exact ⟨k, a, b, m, rfl, rfl⟩
    ·left
     rw [show ((!decide (k = 0)) && (!decide ((nd t x).kind = k))) = false by
      by_cases h0 : k = 0
      ·simp [h0]
      ·simp [h0]; exact Classical.byContradiction fun h => hc ⟨h0, h⟩, cond_false, grd_pos (by constructor <;> omega)]
     refine ⟨_, rfl, .inr ⟨hx38, ⟨x, by rw [takeS hx]; simp, rfl⟩, fun j hj h7 h8 => ?_⟩⟩;rw [takeS hx] at hj
     rcases List.mem_append.1 hj with hj | hj
     ·rcases hI with ⟨h4, h5⟩ | ⟨h4, _, h6⟩
      ·exact (h5 j hj h7 h8).elim
      ·have := h6 j hj h7 h8
       have : k = (nd t x).kind := Classical.byContradiction fun h => hc ⟨by omega, fun e => h e.symm⟩
       omega
     ·simp at hj; subst hj; rfl)
  (by
   intro n k hI
   simp only [m_below_search_heads_l1];rw [decide_eq_false (by omega), cond_false];exact ⟨_, rfl, .inl ⟨k, rfl, by simpa using hI⟩⟩) (by rw [FUv]; omega) 0 (.inl ⟨rfl, by simp⟩)
 rw [e1, Option.bind_some]
 rcases e2 with ⟨k, rfl, h4⟩ | ⟨k, a, b, m, rfl, h4⟩
 ·exact ⟨k, false, rfl, fun h => (by cases h), fun _ => heads_kinds h4⟩
 ·exact ⟨k, true, rfl, fun _ => ⟨a, b, m, h4⟩, fun h => (by cases h)⟩
theorem kAt_nd (t : ApiType) (x : Int) : kAt t x = (nd t x).kind := by
 unfold kAt nd
 cases t.l[x.toNat]? <;> rfl
theorem only_eq {t : ApiType} {l : List Int} (h : ∀ i ∈ l, In t i) (hl : l.length <= 500) (k : Int) : m_below_search_only t l k = some (ofK t l k) := by
 unfold m_below_search_only;rw [grd_pos (by omega), grd_pos (show ∀ x ∈ l, 0 <= x /\ x < (t.l.length : Int) from h)]
 congr 1
 unfold keepK ofK
 congr 1
 funext x
 rw [kAt_nd, Bool.not_not]
theorem arrows_eq {t : ApiType} {l r : List Int} (hq : InQ t ⟨l, r⟩) (h1 : l.length <= 500) (h2 : r.length <= 500) (hr : r ≠ []) :
  m_below_search_arrows t ⟨l, r⟩ = some ⟨[⟨cs (r.map fun i => (nd t i).a), cs (l.map fun i => (nd t i).a)⟩, ⟨cs (l.map fun i => (nd t i).b), cs (r.map fun i => (nd t i).b)⟩], false⟩ := by
 unfold m_below_search_arrows;rw [decide_eq_false (by have := List.length_pos_iff.2 hr; simp only; omega), cond_false];obtain ⟨o, e1, e2⟩ := loop_rng (φ := fun n i s => m_below_search_arrows_l1 t ⟨l, r⟩ n (i, s)) (l := l) (fun i s => s = ([], (l.take i).map (fun i => (nd t i).b), (l.take i).map (fun i => (nd t i).a), [])) (fun o => o = ([], l.map (fun i => (nd t i).b), l.map (fun i => (nd t i).a), []))
  (by
   rintro n i x s hx hi rfl
   left
   have hxm := List.mem_of_getElem? hx
   have hti : (l.take i).length <= 500 := by rw [List.length_take]; omega
   simp only [m_below_search_arrows_l1];rw [decide_eq_true (show (i : Int) < (l.length : Int) by omega), cond_true, getI hx, Option.bind_some, getN (hq.1 x hxm), Option.bind_some, grd_pos (by simp only [List.length_map, List.length_cons, List.length_nil]; omega), Option.bind_some, grd_pos (by simp only [List.length_map, List.length_cons, List.length_nil]; omega), grd_pos (by constructor <;> omega)];refine ⟨_, rfl, ?_⟩;rw [takeS hx]; simp)
  (by
   rintro n s rfl;simp only [m_below_search_arrows_l1];rw [decide_eq_false (by omega), cond_false];exact ⟨_, rfl, by simp⟩) (by rw [FUv]; omega) ([], [], [], []) (by simp)
 rw [e1, Option.bind_some, e2];obtain ⟨o, e3, e4⟩ := loop_rng (φ := fun n i s => m_below_search_arrows_l2 t ⟨l, r⟩ n (i, s)) (l := r) (fun i s => s = ((r.take i).map (fun i => (nd t i).b), l.map (fun i => (nd t i).b), l.map (fun i => (nd t i).a), (r.take i).map (fun i => (nd t i).a))) (fun o => o = (r.map (fun i => (nd t i).b), l.map (fun i => (nd t i).b), l.map (fun i => (nd t i).a), r.map (fun i => (nd t i).a)))
  (by
   rintro n i x s hx hi rfl
   left
   have hxm := List.mem_of_getElem? hx
   have hti : (r.take i).length <= 500 := by rw [List.length_take]; omega
   simp only [m_below_search_arrows_l2];rw [decide_eq_true (show (i : Int) < (r.length : Int) by omega), cond_true, getI hx, Option.bind_some, getN (hq.2 x hxm), Option.bind_some, grd_pos (by simp only [List.length_map, List.length_cons, List.length_nil]; omega), Option.bind_some, grd_pos (by simp only [List.length_map, List.length_cons, List.length_nil]; omega), grd_pos (by constructor <;> omega)];refine ⟨_, rfl, ?_⟩;rw [takeS hx]; simp)
  (by
   rintro n s rfl;simp only [m_below_search_arrows_l2];rw [decide_eq_false (by omega), cond_false];exact ⟨_, rfl, by simp⟩) (by rw [FUv]; omega) ([], l.map (fun i => (nd t i).b), l.map (fun i => (nd t i).a), []) (by simp)
 simp only
 rw [e3, Option.bind_some, e4]
 simp only
 rw [set_eq (by simp; omega), Option.bind_some, set_eq (by simp; omega), Option.bind_some, set_eq (by simp; omega), Option.bind_some, set_eq (by simp; omega), Option.bind_some]
end Go.Proofs.YtkfnogdccpcmhaaGreatDoor
namespace Go.Proofs.YtkfnogdccpcmhaaGreatDoor
open Go.V
open Classical
theorem mset_keys {α β : Type} [DecidableEq α] {l : List (α × β)} {k : α} {v : β} : (mset l k v).map (·.1) = if k ∈ l.map (·.1) then l.map (·.1) else l.map (·.1) ++ [k] := by
 induction l with
 | nil => simp [mset]
 | cons p l ih =>
  obtain ⟨a, b⟩ := p;simp only [mset]
  by_cases h : k = a
  ·subst h; simp
  ·rw [if_neg h]
   simp only [List.map_cons, ih, List.mem_cons, h, false_or]
   split <;> simp
theorem mset_nodup {α β : Type} [DecidableEq α] {l : List (α × β)} {k : α} {v : β} (h : (l.map (·.1)).Nodup) : ((mset l k v).map (·.1)).Nodup := by
 rw [mset_keys]
 split
 ·exact h
 ·rename_i hk
  rw [List.nodup_append];exact ⟨h, by simp, fun a ha b hb e => by simp at hb; subst hb e; exact hk ha⟩
theorem mset_len {α β : Type} [DecidableEq α] {l : List (α × β)} {k : α} {v : β} : (mset l k v).length <= l.length + 1 := by
 have := congrArg List.length (mset_keys (l := l) (k := k) (v := v))
 rw [List.length_map] at this;rw [this]
 split <;> simp
theorem mget_mem {α β : Type} [DecidableEq α] {l : List (α × β)} (h : (l.map (·.1)).Nodup) {k : α} {v : β} : (k, v) ∈ l ↔ mget l k = some v := by
 induction l with
 | nil => simp [mget]
 | cons p l ih =>
  obtain ⟨a, b⟩ := p;simp only [List.map_cons, List.nodup_cons] at h
  have ih := ih h.2
  simp only [mget, List.mem_cons]
  by_cases hk : k = a
  ·subst hk
   rw [if_pos rfl]
   constructor
   ·rintro (e | e)
    ·rw [(Prod.mk.inj e).2]
    ·exact absurd (List.mem_map.2 ⟨_, e, rfl⟩) h.1
   ·intro e; left; rw [Option.some.inj e]
  ·rw [if_neg hk, <- ih]
   constructor
   ·rintro (e | e)
    ·exact absurd (Prod.mk.inj e).1 hk
    ·exact e
   ·exact .inr
theorem less_irrefl : ∀ x : List UInt8, Op.bytesLess x x = false
 | [] => rfl
 | a :: x => by
  unfold Op.bytesLess;rw [less_irrefl x]
  have : ¬ a < a := by intro h; exact absurd (UInt8.lt_iff_toNat_lt.1 h) (Nat.lt_irrefl _)
  simp [this]
theorem less_trans : ∀ x y z : List UInt8, Op.bytesLess x y = true -> Op.bytesLess y z = true -> Op.bytesLess x z = true
 | x, y, [], _, h => by cases y <;> cases h
 | [], _, _ :: _, _, _ => rfl
 | a :: x, [], c :: z, h, _ => by cases h
 | a :: x, b :: y, c :: z, h1, h2 => by
  unfold Op.bytesLess at h1 h2 ⊢;simp only [Bool.or_eq_true, Bool.and_eq_true, decide_eq_true_eq, beq_iff_eq, UInt8.lt_iff_toNat_lt] at h1 h2 ⊢
  rcases h1 with h1 | ⟨rfl, h1⟩
  ·rcases h2 with h2 | ⟨rfl, h2⟩
   ·left; omega
   ·left; exact h1
  ·rcases h2 with h2 | ⟨rfl, h2⟩
   ·left; exact h2
   ·right; exact ⟨rfl, less_trans x y z h1 h2⟩
theorem named_lt {n : ApiTNode} (h : namedP n) : ∀ (j i : Nat) (x y : ApiTField), i < j -> n.l[i]? = some x -> n.l[j]? = some y -> Op.bytesLess x.name y.name = true := by
 intro j
 induction j with
 | zero => intro i x y h1; omega
 | succ j ih =>
  intro i x y h1 hx hy
  have hj : j < n.l.length := by have := (List.getElem?_eq_some_iff.1 hy).1; omega
  have h3 := (h (j + 1) y hy).2 (by omega) n.l[j] (by rw [Nat.add_sub_cancel]; exact List.getElem?_eq_getElem hj)
  by_cases h4 : i = j
  ·subst h4
   rw [List.getElem?_eq_getElem hj] at hx;rw [<- Option.some.inj hx]; exact h3
  ·exact less_trans _ _ _ (ih i x _ (by omega) hx (List.getElem?_eq_getElem hj)) h3
theorem named_nodup {n : ApiTNode} (h : namedP n) : (n.l.map (·.name)).Nodup := by
 unfold List.Nodup;rw [List.pairwise_iff_getElem]
 intro i j hi hj hij e
 rw [List.length_map] at hi hj
 have := named_lt h j i n.l[i] n.l[j] hij (List.getElem?_eq_getElem hi) (List.getElem?_eq_getElem hj)
 rw [List.getElem_map, List.getElem_map] at e;rw [e, less_irrefl] at this
 cases this
theorem right_named {n : ApiTNode} {all : Int} (h : rightB n all = true) : namedP n := by
 unfold rightB at h;simp only [Bool.and_eq_true, decide_eq_true_eq] at h;exact h.2.2.2.2.1.1
def fld (L : List ApiTField) (s : List UInt8) : List Int := (L.filter fun f => decide (f.name = s)).map (·.at_)
theorem fld_one {s : List UInt8} : ∀ L : List ApiTField, (L.map (·.name)).Nodup -> fld L s = ((L.find? fun f => decide (f.name = s)).map (·.at_)).toList
 | [], _ => rfl
 | f :: L, h => by
  rw [List.map_cons, List.nodup_cons] at h;unfold fld
  by_cases hf : f.name = s
  ·rw [List.filter_cons_of_pos (by simpa using hf), List.find?_cons_of_pos (by simpa using hf)]
   have : L.filter (fun f => decide (f.name = s)) = [] := by
    rw [List.filter_eq_nil_iff]
    intro g hg hgs
    exact h.1 (List.mem_map.2 ⟨g, hg, by rw [hf]; simpa using hgs⟩)
   rw [this]; rfl
  ·rw [List.filter_cons_of_neg (by simpa using hf), List.find?_cons_of_neg (by simpa using hf)]
   exact fld_one L h.2
def FP (t : ApiType) (l : List Int) (s : List UInt8) : List Int := l.flatMap fun i => fld (nd t i).l s
theorem FP_eq {t : ApiType} (hO : OkT t) (s : List UInt8) : ∀ l : List Int, (∀ i ∈ l, In t i) -> FP t l s = partsA t l s
 | [], _ => rfl
 | i :: l, h => by
  have h1 := FP_eq hO s l (fun j hj => h j (by simp [hj]))
  have h2 := fld_one (s := s) _ (named_nodup (right_named (hO.right _ (nd_mem (h i (by simp))))))
  unfold FP partsA at h1 ⊢;rw [List.flatMap_cons, h1, h2, List.filterMap_cons];unfold atN
  cases ((nd t i).l.find? fun f => decide (f.name = s)).map (·.at_) <;> rfl
structure MI (M : List (List UInt8 × List Int)) (f : List UInt8 -> List Int) (n : Nat) : Prop where
 nodup : (M.map (·.1)).Nodup
 get : ∀ s, mget M s = if f s = [] then none else some (f s)
 len : M.length <= n
 flen : ∀ s, (f s).length <= n
theorem MI.getD {M : List (List UInt8 × List Int)} {f : List UInt8 -> List Int} {n : Nat} (h : MI M f n) (s : List UInt8) : (mget M s).getD [] = f s := by
 rw [h.get s]
 by_cases hs : f s = []
 ·rw [if_pos hs, hs]; rfl
 ·rw [if_neg hs]; rfl
theorem parts_l2_eq {x : ApiTNode} (hx : NB x) {M : List (List UInt8 × List Int)} {f : List UInt8 -> List Int} {n : Nat} (hn : n <= 1000000) (h : MI M f n) : ∃ M', m_parts_l2 x FU (0, M) = some M' /\ MI M' (fun s => f s ++ fld x.l s) (n + x.l.length) := by
 have hx40 : x.l.length <= 40 := hx
 obtain ⟨o, e1, e2⟩ := loop_rng (φ := fun n i s => m_parts_l2 x n (i, s)) (l := x.l) (fun i M => MI M (fun s => f s ++ fld (x.l.take i) s) (n + i)) (fun M => MI M (fun s => f s ++ fld x.l s) (n + x.l.length))
  (by
   intro m i y M hy hi hI
   left
   have hl := hI.flen y.name
   simp only [m_parts_l2];rw [decide_eq_true (show (i : Int) < (x.l.length : Int) by omega), cond_true, getI hy, Option.bind_some, hI.getD, grd_pos (by simp only [List.length_cons, List.length_nil]; omega), grd_pos (by constructor <;> omega)];refine ⟨_, rfl, ⟨mset_nodup hI.nodup, fun s => ?_, ?_, fun s => ?_⟩⟩
   ·rw [mget_set]
    by_cases hs : s = y.name
    ·subst hs
     rw [if_pos rfl, takeS hy]
     have e : fld (x.l.take i ++ [y]) y.name = fld (x.l.take i) y.name ++ [y.at_] := by unfold fld; rw [List.filter_append, List.map_append]; simp
     rw [e, <- List.append_assoc, if_neg (by simp)]
    ·rw [if_neg hs, hI.get s, takeS hy]
     have e : fld (x.l.take i ++ [y]) s = fld (x.l.take i) s := by unfold fld; rw [List.filter_append, List.map_append]; simp [show ¬ y.name = s from fun e => hs e.symm]
     rw [e]
   ·have := mset_len (l := M) (k := y.name) (v := (f y.name ++ fld (x.l.take i) y.name) ++ [y.at_])
    have := hI.len
    omega
   ·have h2 : (fld (x.l.take (i + 1)) s).length <= (fld (x.l.take i) s).length + 1 := by
     rw [takeS hy]; unfold fld; rw [List.filter_append, List.map_append, List.length_append, List.length_map, List.length_map]
     have := List.length_filter_le (fun f => decide (f.name = s)) [y]
     simp only [List.length_cons, List.length_nil] at this
     omega
    have := hI.flen s
    simp only [List.length_append] at this ⊢
    omega)
  (by
   intro m M hI
   simp only [m_parts_l2];rw [decide_eq_false (by omega), cond_false];exact ⟨M, rfl, by simpa using hI⟩) (by rw [FUv]; omega) M (by simpa [fld] using h)
 exact ⟨o, e1, e2⟩
theorem parts_eq {t : ApiType} (hN : ∀ n ∈ t.l, NB n) {l : List Int} (h : ∀ i ∈ l, In t i) (hl : l.length <= 500) : ∃ M, m_parts t l = some M /\ MI M (FP t l) 20000 := by
 unfold m_parts;obtain ⟨o, e1, e2⟩ := loop_rng (φ := fun n i s => m_parts_l1 t l n (i, s)) (l := l) (fun i M => MI M (FP t (l.take i)) (40 * i)) (fun M => MI M (FP t l) 20000)
  (by
   intro m i x M hx hi hI
   left
   have hxi := h x (List.mem_of_getElem? hx)
   obtain ⟨M', h1, h2⟩ := parts_l2_eq (hN _ (nd_mem hxi)) (by omega) hI;simp only [m_parts_l1];rw [decide_eq_true (show (i : Int) < (l.length : Int) by omega), cond_true, getI hx, Option.bind_some, getN hxi, Option.bind_some, h1, Option.bind_some, grd_pos (by constructor <;> omega)];refine ⟨_, rfl, ?_⟩
   have h40 : (nd t x).l.length <= 40 := hN _ (nd_mem hxi)
   have e : FP t (l.take (i + 1)) = fun s => FP t (l.take i) s ++ fld (nd t x).l s := by
    funext s; rw [takeS hx]; unfold FP; rw [List.flatMap_append]; simp
   rw [e];exact ⟨h2.nodup, h2.get, by have := h2.len; omega, fun s => by have := h2.flen s; omega⟩)
  (by
   intro m M hI
   simp only [m_parts_l1];rw [decide_eq_false (by omega), cond_false];rw [List.take_length] at hI;exact ⟨M, rfl, hI.nodup, hI.get, by have := hI.len; omega, fun s => by have := hI.flen s; omega⟩) (by rw [FUv]; omega) [] ⟨by simp, fun s => by simp [mget, FP], by simp, fun s => by simp [FP]⟩
 exact ⟨o, by rw [e1]; rfl, e2⟩
theorem wide_eq {Ml Mr Ma : List (List UInt8 × List Int)} {fl fr fa : List UInt8 -> List Int} (hl : MI Ml fl 20000) (hr : MI Mr fr 20000) (ha : MI Ma fa 20000) (n : Nat) (hn : 0 < n) :
  ∃ r, m_wide Ml Mr Ma (n : Int) = some r /\ (r.fails = true ↔ ∃ s, n <= (fa s).length /\ (fl s = [] \/ fr s = [])) /\ (r.fails = true -> r.to_ = []) /\ (r.fails = false -> ∀ q, q ∈ r.to_ ↔ ∃ s, n <= (fa s).length /\ q = ⟨cs (fl s), cs (fr s)⟩) := by
 have hmem : ∀ e, e ∈ Ma ↔ (e.2 = fa e.1 /\ fa e.1 ≠ []) := by
  rintro ⟨s, v⟩;rw [mget_mem ha.nodup, ha.get s]
  by_cases hs : fa s = []
  ·rw [if_pos hs]; simp [hs]
  ·rw [if_neg hs]; simp only [Option.some.injEq]; exact ⟨fun e => ⟨e.symm, hs⟩, fun e => e.1.symm⟩
 have hE : ∀ e ∈ Ma, wideE Ml Mr (n : Int) e = if (fa e.1).length < n then some none else if fl e.1 = [] \/ fr e.1 = [] then some (some none) else some (some (some ⟨cs (fl e.1), cs (fr e.1)⟩)) := by
  intro e he
  obtain ⟨h1, h2⟩ := (hmem e).1 he;unfold wideE;rw [hl.getD, hr.getD, h1]
  have h3 := hl.flen e.1
  have h4 := hr.flen e.1
  by_cases hc : (fa e.1).length < n
  ·rw [if_pos (by omega), if_pos hc]
  ·rw [if_neg (by omega), if_neg hc]
   by_cases hd : fl e.1 = [] \/ fr e.1 = []
   ·rw [if_pos (by rw [List.length_eq_zero_iff, List.length_eq_zero_iff]; exact hd), if_pos hd]
   ·rw [if_neg (by rw [List.length_eq_zero_iff, List.length_eq_zero_iff]; exact hd), if_neg hd, set_eq (by omega), Option.bind_some, set_eq (by omega), Option.bind_some]
 have hlen := ha.len
 unfold m_wide;rw [if_pos ⟨by omega, fun e he => by rw [hE e he]; split; rfl; split <;> rfl⟩]
 have hbad : (∃ e ∈ Ma, wideE Ml Mr (n : Int) e = some (some none)) ↔ ∃ s, n <= (fa s).length /\ (fl s = [] \/ fr s = []) := by
  constructor
  ·rintro ⟨e, he, h1⟩
   rw [hE e he] at h1
   by_cases hc : (fa e.1).length < n
   ·rw [if_pos hc] at h1; cases h1
   ·rw [if_neg hc] at h1
    by_cases hd : fl e.1 = [] \/ fr e.1 = []
    ·exact ⟨e.1, by omega, hd⟩
    ·rw [if_neg hd] at h1; cases h1
  ·rintro ⟨s, h1, h2⟩
   have hne : fa s ≠ [] := fun e => by rw [e] at h1; simp at h1; omega
   have he : (s, fa s) ∈ Ma := (hmem _).2 ⟨rfl, hne⟩
   refine ⟨_, he, ?_⟩;rw [hE _ he, if_neg (by simp only; omega), if_pos h2]
 by_cases hb : ∃ e ∈ Ma, wideE Ml Mr (n : Int) e = some (some none)
 ·rw [if_pos hb]
  exact ⟨_, rfl, ⟨fun _ => hbad.1 hb, fun _ => rfl⟩, fun _ => rfl, fun h => (by cases h)⟩
 ·rw [if_neg hb]
  refine ⟨_, rfl, ⟨fun h => (by cases h), fun h => absurd (hbad.2 h) hb⟩, fun h => (by cases h), fun _ q => ?_⟩;simp only [List.mem_filterMap]
  constructor
  ·rintro ⟨e, he, h1⟩
   unfold wideQ at h1;rw [hE e he] at h1
   by_cases hc : (fa e.1).length < n
   ·rw [if_pos hc] at h1; cases h1
   ·rw [if_neg hc] at h1
    by_cases hd : fl e.1 = [] \/ fr e.1 = []
    ·rw [if_pos hd] at h1; cases h1
    ·rw [if_neg hd] at h1
     exact ⟨e.1, by omega, (Option.some.inj h1).symm⟩
  ·rintro ⟨s, h1, rfl⟩
   have hne : fa s ≠ [] := fun e => by rw [e] at h1; simp at h1; omega
   have he : (s, fa s) ∈ Ma := (hmem _).2 ⟨rfl, hne⟩
   refine ⟨_, he, ?_⟩;unfold wideQ;rw [hE _ he, if_neg (by simp only; omega), if_neg (fun h => hb (hbad.2 ⟨s, h1, h⟩))]
theorem fm_len {f : Int -> Option Int} : ∀ l : List Int, (l.filterMap f).length <= l.length /\ (l.length <= (l.filterMap f).length ↔ ∀ i ∈ l, f i ≠ none)
 | [] => by simp
 | i :: l => by
  obtain ⟨h1, h2⟩ := fm_len (f := f) l;rw [List.filterMap_cons]
  cases hi : f i with
  | none => simp only [List.length_cons, List.mem_cons, forall_eq_or_imp, hi]; exact ⟨by omega, ⟨fun h => by omega, fun h => absurd rfl h.1⟩⟩
  | some k =>
   simp only [List.length_cons, List.mem_cons, forall_eq_or_imp, hi];exact ⟨by omega, by rw [<- h2]; simp⟩
theorem names_len {t : ApiType} {l : List Int} (hne : l ≠ []) {s : List UInt8} : l.length <= (partsA t l s).length ↔ s ∈ namesA t l := by
 rw [mem_names];unfold partsA;rw [(fm_len l).2]
 simp [hne]
theorem bad_iff {t : ApiType} {l r : List Int} {s : List UInt8} : badA t l r s = true ↔ partsA t l s = [] \/ partsA t r s = [] := by
 unfold badA;rw [Bool.or_eq_true, List.isEmpty_iff, List.isEmpty_iff]
theorem closed_eq {t : ApiType} {q : BelowSequent} (hO : OkT t) (hN : ∀ n ∈ t.l, NB n) (hq : InQ t q) (h1 : q.left.length <= 500) (h2 : q.right.length <= 500) (hb : ∀ i ∈ q.left, (nd t i).kind ≠ 2) (hla : ∀ i ∈ q.left, latB (nd t i).kind = false) :
  ∃ r, m_below_search_closed t q = some r /\ r.fails = (closedA t q).1 /\ ∀ s, s ∈ r.to_ ↔ s ∈ (closedA t q).2 := by
 unfold m_below_search_closed;obtain ⟨k, more, e1, e2, e3⟩ := heads_eq hO hq.1 hb hla h1;rw [e1, Option.bind_some]
 simp only
 cases more with
 | true =>
  obtain ⟨a, b, m, e4⟩ := e2 rfl;rw [cond_true];refine ⟨_, rfl, ?_⟩;unfold closedA; rw [e4]; simp
 | false =>
  rw [cond_false]
  rcases e3 rfl with ⟨hk, e4⟩ | ⟨hk, e4⟩
  ·rw [decide_eq_true hk, cond_true]
   refine ⟨_, rfl, ?_⟩;unfold closedA; rw [e4]; simp
  ·rw [decide_eq_false (by omega), cond_false]
   have hL : ∀ i ∈ ofK t q.left k, In t i := fun i hi => hq.1 i (mem_ofK.1 hi).1
   have hR : ∀ i ∈ ofK t q.right k, In t i := fun i hi => hq.2 i (mem_ofK.1 hi).1
   have hll : (ofK t q.left k).length <= 500 := Nat.le_trans (List.length_filter_le _ _) h1
   have hrl : (ofK t q.right k).length <= 500 := Nat.le_trans (List.length_filter_le _ _) h2
   rw [only_eq hq.1 h1, Option.bind_some, only_eq hq.2 h2, Option.bind_some];obtain ⟨Ml, e5, e6⟩ := parts_eq hN hL hll;obtain ⟨Mr, e7, e8⟩ := parts_eq hN hR hrl;rw [e5, Option.bind_some, e7, Option.bind_some];rw [show FP t (ofK t q.left k) = partsA t (ofK t q.left k) from funext (fun s => FP_eq hO s _ hL)] at e6;rw [show FP t (ofK t q.right k) = partsA t (ofK t q.right k) from funext (fun s => FP_eq hO s _ hR)] at e8
   have hcl : closedA t q = headsA t k (ofK t q.left k) (ofK t q.right k) := by unfold closedA; rw [e4]
   rw [hcl];obtain ⟨_, ⟨i0, hi0, hk0⟩, _⟩ := kinds_one e4
   have hlne : ofK t q.left k ≠ [] := fun e => by have := mem_ofK.2 ⟨hi0, hk0⟩; rw [e] at this; cases this
   generalize ofK t q.left k = l at *
   generalize ofK t q.right k = r at *
   unfold headsA
   by_cases h6 : k = 6
   ·subst h6
    rw [decide_eq_true rfl, cond_true]
    by_cases hr : r = []
    ·rw [if_pos ⟨by omega, hr⟩]
     unfold m_below_search_arrows;rw [hr, decide_eq_true (by simp), cond_true];exact ⟨_, rfl, rfl, fun s => Iff.rfl⟩
    ·rw [if_neg (fun h => hr h.2), if_pos rfl, arrows_eq ⟨hL, hR⟩ hll hrl hr]
     exact ⟨_, rfl, rfl, fun s => Iff.rfl⟩
   ·rw [decide_eq_false h6, cond_false]
    by_cases h7 : k = 7
    ·subst h7
     rw [decide_eq_true rfl, cond_true]
     by_cases hr : r = []
     ·rw [if_pos ⟨by omega, hr⟩, hr, decide_eq_true (by simp), cond_true]
      exact ⟨_, rfl, rfl, fun s => Iff.rfl⟩
     ·rw [if_neg (fun h => hr h.2), if_neg (by omega), decide_eq_false (by have := List.length_pos_iff.2 hr; omega), cond_false]
      obtain ⟨a, e9, e10, e11, e12⟩ := wide_eq e6 e8 e8 r.length (List.length_pos_iff.2 hr);rw [e9, Option.bind_some];refine ⟨a, rfl, ?_⟩
      have hall : allA t 7 l r = namesA t r := by unfold allA; simp
      rw [hall]
      have hbb : (namesA t r).any (badA t l r) = a.fails := by
       rw [Bool.eq_iff_iff, e10, List.any_eq_true];simp only [bad_iff, names_len hr]
      cases hf : a.fails with
      | true => rw [if_pos (by rw [hbb, hf]), e11 hf]; exact ⟨rfl, fun s => Iff.rfl⟩
      | false =>
       rw [if_neg (by rw [hbb, hf]; simp)];refine ⟨rfl, fun s => ?_⟩;rw [e12 hf, List.mem_map];simp only [names_len hr];exact ⟨fun ⟨n, hn, e⟩ => ⟨n, hn, e.symm⟩, fun ⟨n, hn, e⟩ => ⟨n, hn, e.symm⟩⟩
    ·rw [decide_eq_false h7, cond_false]
     by_cases h8 : k = 8
     ·subst h8
      rw [decide_eq_true rfl, cond_true, if_neg (fun h => h.1 rfl), if_neg (by omega)];obtain ⟨a, e9, e10, e11, e12⟩ := wide_eq e6 e8 e6 l.length (List.length_pos_iff.2 hlne);rw [e9, Option.bind_some];refine ⟨a, rfl, ?_⟩
      have hall : allA t 8 l r = namesA t l := by unfold allA; simp
      rw [hall]
      have hbb : (namesA t l).any (badA t l r) = a.fails := by
       rw [Bool.eq_iff_iff, e10, List.any_eq_true];simp only [bad_iff, names_len hlne]
      cases hf : a.fails with
      | true => rw [if_pos (by rw [hbb, hf]), e11 hf]; exact ⟨rfl, fun s => Iff.rfl⟩
      | false =>
       rw [if_neg (by rw [hbb, hf]; simp)];refine ⟨rfl, fun s => ?_⟩;rw [e12 hf, List.mem_map];simp only [names_len hlne];exact ⟨fun ⟨n, hn, e⟩ => ⟨n, hn, e.symm⟩, fun ⟨n, hn, e⟩ => ⟨n, hn, e.symm⟩⟩
     ·rw [decide_eq_false h8, cond_false]
      refine ⟨_, rfl, ?_⟩
      have hall : allA t k l r = [] := by unfold allA; rw [if_neg h7, if_neg h8]
      by_cases hr : r = []
      ·rw [if_pos ⟨h8, hr⟩, hr]; exact ⟨rfl, fun s => Iff.rfl⟩
      ·rw [if_neg (fun h => hr h.2), if_neg h6, hall]
       refine ⟨?_, fun s => Iff.rfl⟩
       simp [hr]
theorem leads_eq {t : ApiType} {q : BelowSequent} (hO : OkT t) (hN : ∀ n ∈ t.l, NB n) (hq : InQ t q) (h1 : q.left.length <= 500) (h2 : q.right.length <= 500) :
  ∃ r, m_below_search_leads t q = some r /\ r.fails = (leadsA t q).1 /\ ∀ s, s ∈ r.to_ ↔ s ∈ (leadsA t q).2 := by
 unfold m_below_search_leads;rw [has_eq hq.1 (by omega), Option.bind_some, has_eq hq.2 (by omega)]
 have he : (bif (q.left.any fun i => decide ((nd t i).kind = 2)) then (some true) else ((some (q.right.any fun i => decide ((nd t i).kind = 1))).bind fun x2 => some x2)) = some (endA t q) := by
  unfold endA
  cases q.left.any fun i => decide ((nd t i).kind = 2) <;> rfl
 rw [he, Option.bind_some];unfold leadsA
 cases h3 : endA t q with
 | true => rw [cond_true, if_pos rfl]; exact ⟨_, rfl, rfl, fun s => Iff.rfl⟩
 | false =>
  rw [cond_false, if_neg (by simp), opened_eq hq h1 h2, Option.bind_some]
  cases h4 : openA t q with
  | some l => simp only [cond_true]; exact ⟨_, rfl, rfl, fun s => Iff.rfl⟩
  | none =>
   simp only [cond_false];rw [shared_eq hq h1 h2, Option.bind_some]
   cases h5 : shareA t q with
   | true => rw [cond_true, if_pos rfl]; exact ⟨_, rfl, rfl, fun s => Iff.rfl⟩
   | false =>
    rw [cond_false, if_neg (by simp)]
    have hC := mk_closed (t := t) (q := q) (by rw [h3]; simp) h4 (by rw [h5]; simp)
    obtain ⟨r, e1, e2, e3⟩ := closed_eq hO hN hq h1 h2 hC.bot hC.latL;rw [e1, Option.bind_some];exact ⟨r, rfl, e2, e3⟩
end Go.Proofs.YtkfnogdccpcmhaaGreatDoor
namespace Go.Proofs.YtkfnogdccpcmhaaGreatDoor
open Go.V
open Classical
def dd (x : Int) : List UInt8 := Lib.decDigits x.toNat
theorem ofN_inj {a b : Nat} (ha : a < 256) (hb : b < 256) (h : UInt8.ofNat a = UInt8.ofNat b) : a = b := by
 have := congrArg UInt8.toNat h
 rw [UInt8.toNat_ofNat', UInt8.toNat_ofNat'] at this
 omega
theorem dd_eq {u : Nat} (h : u < 100) : Lib.decDigits u = if u < 10 then [UInt8.ofNat (48 + u)] else [UInt8.ofNat (48 + u / 10), UInt8.ofNat (48 + u % 10)] := by
 rw [Lib.decDigits]
 by_cases h1 : u < 10
 ·rw [dif_pos h1, if_pos h1]
 ·rw [dif_neg h1, if_neg h1, Lib.decDigits, dif_pos (by omega)]; rfl
theorem dd_inj {x y : Int} (hx : 0 <= x /\ x < 100) (hy : 0 <= y /\ y < 100) (h : dd x = dd y) : x = y := by
 unfold dd at h;rw [dd_eq (by omega), dd_eq (by omega)] at h
 have key : x.toNat = y.toNat := by
  split at h
  ·split at h
   ·have := ofN_inj (by omega) (by omega) (List.cons.inj h).1; omega
   ·cases (List.cons.inj h).2
  ·split at h
   ·cases (List.cons.inj h).2
   ·have h1 := ofN_inj (by omega) (by omega) (List.cons.inj h).1
    have h2 := ofN_inj (by omega) (by omega) (List.cons.inj (List.cons.inj h).2).1
    omega
 omega
theorem dd_ne {x : Int} (hx : 0 <= x /\ x < 100) : dd x ≠ [] /\ (dd x).length <= 2 /\ ∀ c ∈ dd x, c ≠ 32 /\ c ≠ 124 := by
 have key : ∀ n : Nat, 48 <= n -> n < 58 -> UInt8.ofNat n ≠ 32 /\ UInt8.ofNat n ≠ 124 := by
  intro n h1 h2
  constructor <;> intro e <;> have := congrArg UInt8.toNat e <;> rw [UInt8.toNat_ofNat'] at this
  ·change n % 256 = 32 at this; omega
  ·change n % 256 = 124 at this; omega
 unfold dd;rw [dd_eq (by omega)]
 split
 ·exact ⟨by simp, by simp, fun c hc => by rw [List.mem_singleton] at hc; subst hc; exact key _ (by omega) (by omega)⟩
 ·refine ⟨by simp, by simp, fun c hc => ?_⟩
  simp only [List.mem_cons, List.not_mem_nil, or_false] at hc
  rcases hc with rfl | rfl
  ·exact key _ (by omega) (by omega)
  ·exact key _ (by omega) (by omega)
theorem sep_inj {c : UInt8} : ∀ (a b x y : List UInt8), c ∉ a -> c ∉ b -> a ++ c :: x = b ++ c :: y -> a = b /\ x = y
 | [], [], x, y, _, _, h => ⟨rfl, (List.cons.inj h).2⟩
 | [], d :: b, x, y, _, hb, h => absurd (List.cons.inj h).1 (fun e => hb (by simp [e]))
 | d :: a, [], x, y, ha, _, h => absurd (List.cons.inj h).1 (fun e => ha (by simp [e]))
 | d :: a, e :: b, x, y, ha, hb, h => by
  obtain ⟨h1, h2⟩ := List.cons.inj h;obtain ⟨h3, h4⟩ := sep_inj a b x y (fun h => ha (by simp [h])) (fun h => hb (by simp [h])) h2;exact ⟨by rw [h1, h3], h4⟩
def tl (l : List Int) : List UInt8 := l.flatMap fun y => 32 :: dd y
def tx : List Int -> List UInt8
 | [] => []
 | x :: l => dd x ++ tl l
theorem join_tx : ∀ l : List Int, Lib.join (l.map dd) [32] = tx l
 | [] => Lib.join_nil _
 | x :: l => by
  rw [List.map_cons, Lib.join_cons]
  show _ = dd x ++ List.flatMap (fun y => 32 :: dd y) l
  unfold Lib.joinTail;rw [List.flatMap_def, List.map_map]
  rfl
def Low (l : List Int) : Prop := ∀ x ∈ l, 0 <= x /\ x < 100
theorem tl_inj : ∀ l m : List Int, Low l -> Low m -> tl l = tl m -> l = m
 | [], [], _, _, _ => rfl
 | [], y :: m, _, _, h => by cases h
 | x :: l, [], _, _, h => by cases h
 | x :: l, y :: m, hl, hm, h => by
  have hx := dd_ne (hl x (by simp))
  have hy := dd_ne (hm y (by simp))
  have h1 : dd x ++ tl l = dd y ++ tl m := by
   unfold tl at h ⊢;rw [List.flatMap_cons, List.flatMap_cons, List.cons_append, List.cons_append] at h;exact (List.cons.inj h).2
  have h2 : dd x ++ (tl l ++ [32]) = dd y ++ (tl m ++ [32]) := by rw [<- List.append_assoc, <- List.append_assoc, h1]
  have hc : ∀ l : List Int, ∃ z, tl l ++ [32] = 32 :: z := by
   intro l
   cases l with
   | nil => exact ⟨[], rfl⟩
   | cons a l => exact ⟨dd a ++ tl l ++ [32], by unfold tl; rw [List.flatMap_cons]; rfl⟩
  obtain ⟨z1, e1⟩ := hc l;obtain ⟨z2, e2⟩ := hc m;rw [e1, e2] at h2;obtain ⟨h3, h4⟩ := sep_inj _ _ _ _ (fun h => (hx.2.2 _ h).1 rfl) (fun h => (hy.2.2 _ h).1 rfl) h2
  have hxy := dd_inj (hl x (by simp)) (hm y (by simp)) h3
  subst hxy;rw [tl_inj l m (fun z hz => hl z (by simp [hz])) (fun z hz => hm z (by simp [hz])) (List.append_cancel_left h1)]
theorem tx_inj {l m : List Int} (hl : Low l) (hm : Low m) (h : tx l = tx m) : l = m := by
 refine tl_inj l m hl hm ?_
 cases l with
 | nil =>
  cases m with
  | nil => rfl
  | cons y m =>
   have := (dd_ne (hm y (by simp))).1
   unfold tx at h;exact absurd (List.append_eq_nil_iff.1 h.symm).1 this
 | cons x l =>
  cases m with
  | nil =>
   have := (dd_ne (hl x (by simp))).1
   unfold tx at h;exact absurd (List.append_eq_nil_iff.1 h).1 this
  | cons y m =>
   change dd x ++ tl l = dd y ++ tl m at h
   unfold tl at h ⊢;rw [List.flatMap_cons, List.flatMap_cons, List.cons_append, List.cons_append, h]
theorem tl_facts : ∀ l : List Int, Low l -> (tl l).length <= 3 * l.length /\ (124 : UInt8) ∉ tl l
 | [], _ => by simp [tl]
 | x :: l, h => by
  obtain ⟨h1, h2⟩ := tl_facts l (fun z hz => h z (by simp [hz]));obtain ⟨_, h3, h4⟩ := dd_ne (h x (by simp))
  have e : tl (x :: l) = 32 :: (dd x ++ tl l) := by unfold tl; rw [List.flatMap_cons]; rfl
  rw [e];refine ⟨by simp only [List.length_cons, List.length_append]; omega, ?_⟩;simp only [List.mem_cons, List.mem_append, not_or];exact ⟨by decide, fun h => (h4 _ h).2 rfl, h2⟩
theorem tx_facts {l : List Int} (h : Low l) : (tx l).length <= 3 * l.length /\ (124 : UInt8) ∉ tx l := by
 cases l with
 | nil => simp [tx]
 | cons x l =>
  obtain ⟨h1, h2⟩ := tl_facts l (fun z hz => h z (by simp [hz]));obtain ⟨_, h3, h4⟩ := dd_ne (h x (by simp));unfold tx;refine ⟨by simp only [List.length_cons, List.length_append]; omega, ?_⟩;simp only [List.mem_append, not_or];exact ⟨fun h => (h4 _ h).2 rfl, h2⟩
theorem text_eq {l : List Int} (h : Low l) (hl : l.length <= 1000) : m_below_text l = some (tx l) := by
 unfold m_below_text;rw [grd_pos (by omega), grd_pos (by omega)];obtain ⟨o, e1, e2⟩ := loop_rng (φ := fun n i s => m_below_text_l1 l n (i, s)) (l := l) (fun i s => s.length = l.length /\ ∀ j, j < i -> s[j]? = (l[j]?).map dd) (fun o => o = l.map dd)
  (by
   intro n i x s hx hi hI
   left
   have h3 : s[i]? = some (s[i]'(by omega)) := List.getElem?_eq_getElem (by omega)
   simp only [m_below_text_l1];rw [decide_eq_true (show (i : Int) < (l.length : Int) by omega), cond_true, getI hx, Option.bind_some, grd_pos (h x (List.mem_of_getElem? hx)), getI h3, Option.bind_some, grd_pos (by constructor <;> omega)];refine ⟨_, rfl, by rw [List.length_set]; exact hI.1, fun j hj => ?_⟩;rw [Int.toNat_natCast]
   by_cases hji : j = i
   ·subst hji
    rw [List.getElem?_set_self (by omega), hx]; rfl
   ·rw [List.getElem?_set_ne (by omega)]
    exact hI.2 j (by omega))
  (by
   intro n s hI
   simp only [m_below_text_l1];rw [decide_eq_false (by omega), cond_false];refine ⟨s, rfl, List.ext_getElem? fun j => ?_⟩;rw [List.getElem?_map]
   by_cases hj : j < l.length
   ·exact hI.2 j hj
   ·rw [List.getElem?_eq_none (by omega), List.getElem?_eq_none (by omega)]; rfl) (by rw [FUv]; omega) (List.replicate ((l.length : Int)).toNat []) ⟨by simp, fun j hj => by omega⟩
 have hf := tx_facts h
 rw [e1, Option.bind_some, e2, join_tx, grd_pos (by rw [List.length_map]; omega), grd_pos (by omega)]
def keyS (q : BelowSequent) : List UInt8 := (tx q.left ++ [124]) ++ tx q.right
theorem key_eq {q : BelowSequent} (h1 : Low q.left) (h2 : Low q.right) (h3 : q.left.length <= 1000) (h4 : q.right.length <= 1000) : m_below_sequent_key q = some (keyS q) := by
 have f1 := tx_facts h1
 have f2 := tx_facts h2
 unfold m_below_sequent_key;rw [text_eq h1 h3, Option.bind_some, grd_pos (by simp only [List.length_cons, List.length_nil]; omega), text_eq h2 h4, Option.bind_some, grd_pos (by simp only [List.length_append, List.length_cons, List.length_nil]; omega)]
 rfl
theorem key_inj {q s : BelowSequent} (h1 : Low q.left) (h2 : Low q.right) (h3 : Low s.left) (h4 : Low s.right) (h : keyS q = keyS s) : q = s := by
 unfold keyS at h;rw [List.append_assoc, List.append_assoc] at h;obtain ⟨a, b⟩ := sep_inj _ _ _ _ (tx_facts h1).2 (tx_facts h3).2 h;obtain ⟨l, r⟩ := q;obtain ⟨l', r'⟩ := s
 have e1 := tx_inj h1 h3 a
 have e2 := tx_inj h2 h4 b
 simp only at e1 e2
 rw [e1, e2]
def subs : List Int -> List (List Int)
 | [] => [[]]
 | x :: l => subs l ++ (subs l).map (x :: ·)
theorem subs_len : ∀ l : List Int, (subs l).length = 2 ^ l.length
 | [] => rfl
 | x :: l => by
  unfold subs;rw [List.length_append, List.length_map, subs_len l, List.length_cons, Nat.pow_succ]; omega
theorem subs_sub : ∀ (l s : List Int), s ∈ subs l -> s.Sublist l
 | [], s, h => by simp [subs] at h; subst h; exact List.Sublist.slnil
 | x :: l, s, h => by
  unfold subs at h
  rcases List.mem_append.1 h with h | h
  ·exact (subs_sub l s h).cons x
  ·obtain ⟨s', h', rfl⟩ := List.mem_map.1 h
   exact (subs_sub l s' h').cons_cons x
theorem mem_subs : ∀ (P s : List Int), P.Pairwise (· < ·) -> s.Pairwise (· < ·) -> (∀ x ∈ s, x ∈ P) -> s ∈ subs P
 | [], s, _, _, h => by
  cases s with
  | nil => simp [subs]
  | cons x s => exact absurd (h x (by simp)) (by simp)
 | x :: P, [], hP, hs, h => by
  unfold subs;exact List.mem_append_left _ (mem_subs P [] (List.pairwise_cons.1 hP).2 List.Pairwise.nil (by simp))
 | x :: P, y :: s, hP, hs, h => by
  obtain ⟨p1, p2⟩ := List.pairwise_cons.1 hP;obtain ⟨s1, s2⟩ := List.pairwise_cons.1 hs;unfold subs
  by_cases hxy : y = x
  ·subst hxy
   refine List.mem_append_right _ (List.mem_map.2 ⟨s, mem_subs P s p2 s2 (fun z hz => ?_), rfl⟩)
   rcases List.mem_cons.1 (h z (by simp [hz])) with e | e
   ·have := s1 z hz; omega
   ·exact e
  ·have hyP : y ∈ P := (List.mem_cons.1 (h y (by simp))).resolve_left hxy
   have hxy2 := p1 y hyP
   refine List.mem_append_left _ (mem_subs P (y :: s) p2 hs (fun z hz => ?_))
   rcases List.mem_cons.1 (h z hz) with e | e
   ·exfalso
    rcases List.mem_cons.1 hz with e2 | e2
    ·omega
    ·have := s1 z e2; omega
   ·exact e
def UAB (A B : List Int) : List BelowSequent := (subs A).flatMap fun l => (subs B).map fun r => ⟨l, r⟩
theorem sum_const (c : Nat) : ∀ l : List Nat, (∀ x ∈ l, x = c) -> l.sum = l.length * c
 | [], _ => by simp
 | x :: l, h => by
  rw [List.sum_cons, sum_const c l (fun y hy => h y (by simp [hy])), h x (by simp), List.length_cons, Nat.succ_mul]; omega
theorem UAB_len (A B : List Int) : (UAB A B).length = 2 ^ (A.length + B.length) := by
 unfold UAB;rw [List.length_flatMap, sum_const (2 ^ B.length), List.length_map, subs_len, Nat.pow_add]
 intro x hx
 obtain ⟨l, _, rfl⟩ := List.mem_map.1 hx;rw [List.length_map, subs_len]
def Srt (q : BelowSequent) : Prop := q.left.Pairwise (· < ·) /\ q.right.Pairwise (· < ·)
theorem mem_UAB {A B : List Int} (hA : A.Pairwise (· < ·)) (hB : B.Pairwise (· < ·)) {q : BelowSequent} : q ∈ UAB A B ↔ Srt q /\ InAB (· ∈ A) (· ∈ B) q := by
 unfold UAB;rw [List.mem_flatMap]
 constructor
 ·rintro ⟨l, hl, h⟩
  obtain ⟨r, hr, rfl⟩ := List.mem_map.1 h
  have h1 := subs_sub A l hl
  have h2 := subs_sub B r hr
  exact ⟨⟨hA.sublist h1, hB.sublist h2⟩, fun i hi => h1.subset hi, fun i hi => h2.subset hi⟩
 ·rintro ⟨⟨h1, h2⟩, h3, h4⟩
  exact ⟨q.left, mem_subs A _ hA h1 h3, List.mem_map.2 ⟨q.right, mem_subs B _ hB h2 h4, rfl⟩⟩
theorem lead_srt {t : ApiType} {q s : BelowSequent} (hq : Srt q) (hs : s ∈ (leadsA t q).2) : Srt s := by
 unfold leadsA at hs
 split at hs
 ·cases hs
 ·split at hs
  ·rename_i l h2
   unfold openA at h2
   split at h2
   ·cases h2
    split at hs
    ·simp only [List.mem_singleton] at hs; subst hs; exact ⟨cs_sorted _, hq.2⟩
    ·simp only [List.mem_cons, List.not_mem_nil, or_false] at hs
     rcases hs with rfl | rfl
     ·exact ⟨cs_sorted _, hq.2⟩
     ·exact ⟨cs_sorted _, hq.2⟩
   ·split at h2
    ·cases h2
     split at hs
     ·simp only [List.mem_singleton] at hs; subst hs; exact ⟨hq.1, cs_sorted _⟩
     ·simp only [List.mem_cons, List.not_mem_nil, or_false] at hs
      rcases hs with rfl | rfl
      ·exact ⟨hq.1, cs_sorted _⟩
      ·exact ⟨hq.1, cs_sorted _⟩
    ·cases h2
  ·split at hs
   ·cases hs
   ·unfold closedA at hs
    split at hs
    ·cases hs
    ·unfold headsA at hs
     split at hs
     ·cases hs
     ·split at hs
      ·simp only [List.mem_cons, List.not_mem_nil, or_false] at hs
       rcases hs with rfl | rfl
       ·exact ⟨cs_sorted _, cs_sorted _⟩
       ·exact ⟨cs_sorted _, cs_sorted _⟩
      ·split at hs
       ·cases hs
       ·obtain ⟨n, _, rfl⟩ := List.mem_map.1 hs
        exact ⟨cs_sorted _, cs_sorted _⟩
    ·cases hs
theorem srt_len {t : ApiType} {l : List Int} (h : l.Pairwise (· < ·)) (hi : ∀ i ∈ l, In t i) : l.length <= t.l.length := nodup_bound _ l (h.imp (fun h => by omega)) hi
structure UOk (t : ApiType) (q : BelowSequent) (U : List BelowSequent) : Prop where
 mem : q ∈ U
 srt : ∀ s ∈ U, Srt s
 inn : ∀ s ∈ U, InQ t s
 clo : ∀ s ∈ U, ∀ s' ∈ (leadsA t s).2, s' ∈ U
 len : U.length <= 1000000000000
theorem UOk.rch {t : ApiType} {q : BelowSequent} {U : List BelowSequent} (h : UOk t q U) {s : BelowSequent} (hs : Rch t q s) : s ∈ U := by
 induction hs with
 | refl => exact h.mem
 | step _ h2 ih => exact h.clo _ ih _ h2
open Classical in
theorem holds_eq {t : ApiType} {q : BelowSequent} {U : List BelowSequent} (hO : OkT t) (hN : ∀ n ∈ t.l, NB n) (ht : t.l.length <= 99) (hU : UOk t q U) : m_holds t q = some (decide (Valid t q)) := by
 have hlen : ∀ s ∈ U, s.left.length <= 99 /\ s.right.length <= 99 := fun s hs => ⟨Nat.le_trans (srt_len (hU.srt s hs).1 (hU.inn s hs).1) ht, Nat.le_trans (srt_len (hU.srt s hs).2 (hU.inn s hs).2) ht⟩
 have hlow : ∀ s ∈ U, Low s.left /\ Low s.right := fun s hs => ⟨fun x hx => by have := (hU.inn s hs).1 x hx; exact ⟨this.1, by have := this.2; omega⟩, fun x hx => by have := (hU.inn s hs).2 x hx; exact ⟨this.1, by have := this.2; omega⟩⟩
 have hkey : ∀ s ∈ U, m_below_sequent_key s = some (keyS s) := fun s hs => key_eq (hlow s hs).1 (hlow s hs).2 (by have := (hlen s hs).1; omega) (by have := (hlen s hs).2; omega)
 have hlead : ∀ s ∈ U, ∃ r, m_below_search_leads t s = some r /\ r.fails = (leadsA t s).1 /\ ∀ x, x ∈ r.to_ ↔ x ∈ (leadsA t s).2 := fun s hs => leads_eq hO hN (hU.inn s hs) (by have := (hlen s hs).1; omega) (by have := (hlen s hs).2; omega)
 refine holds_of ⟨U, hU.mem, hU.len, fun s hs => ⟨_, hkey s hs⟩, fun s hs s' hs' h => ?_, fun s hs => ?_, ?_⟩
 ·rw [hkey s hs, hkey s' hs'] at h
  exact key_inj (hlow s hs).1 (hlow s hs).2 (hlow s' hs').1 (hlow s' hs').2 (Option.some.inj h)
 ·obtain ⟨r, h1, _, h3⟩ := hlead s hs
  exact ⟨r, h1, fun s' hs' => hU.clo s hs s' ((h3 s').1 hs')⟩
 ·rw [decide_eq_true_eq, <- valid_iff hO (hU.inn q hU.mem)]
  have hto : ∀ s, Reach t q s -> Rch t q s := by
   intro s hs
   induction hs with
   | refl => exact .refl
   | step _ h2 h3 ih =>
    obtain ⟨r, h4, _, h5⟩ := hlead _ (hU.rch ih);rw [h2] at h4; cases h4
    exact .step ih ((h5 _).1 h3)
  have hof : ∀ s, Rch t q s -> Reach t q s := by
   intro s hs
   induction hs with
   | refl => exact .refl
   | step h1 h2 ih =>
    obtain ⟨r, h4, _, h5⟩ := hlead _ (hU.rch h1);exact .step ih h4 ((h5 _).2 h2)
  constructor
  ·intro h s hs r hr
   obtain ⟨r', h4, h5, _⟩ := hlead s (hU.rch (hto s hs));rw [hr] at h4; cases h4
   rw [h5]; exact h s (hto s hs)
  ·intro h s hs
   obtain ⟨r, h4, h5, _⟩ := hlead s (hU.rch hs);rw [<- h5]; exact h s (hof s hs) r h4
theorem kept_U {t : ApiType} {A B : List Int} (hA : A.Pairwise (· < ·)) (hB : B.Pairwise (· < ·)) (kA : Kept t (· ∈ A)) (kB : Kept t (· ∈ B)) (hl : A.length + B.length <= 38) {q : BelowSequent} (hs : Srt q) (hq : InAB (· ∈ A) (· ∈ B) q) : UOk t q (UAB A B ++ UAB B A) := by
 refine ⟨List.mem_append_left _ ((mem_UAB hA hB).2 ⟨hs, hq⟩), fun s h => ?_, fun s h => ?_, fun s h s' h' => ?_, ?_⟩
 ·rcases List.mem_append.1 h with h | h
  ·exact ((mem_UAB hA hB).1 h).1
  ·exact ((mem_UAB hB hA).1 h).1
 ·rcases List.mem_append.1 h with h | h
  ·have := ((mem_UAB hA hB).1 h).2
   exact ⟨fun i hi => kA.inn i (this.1 i hi), fun i hi => kB.inn i (this.2 i hi)⟩
  ·have := ((mem_UAB hB hA).1 h).2
   exact ⟨fun i hi => kB.inn i (this.1 i hi), fun i hi => kA.inn i (this.2 i hi)⟩
 ·rcases List.mem_append.1 h with h | h
  ·obtain ⟨h1, h2⟩ := (mem_UAB hA hB).1 h
   rcases lead_in kA kB h2 h' with h3 | h3
   ·exact List.mem_append_left _ ((mem_UAB hA hB).2 ⟨lead_srt h1 h', h3⟩)
   ·exact List.mem_append_right _ ((mem_UAB hB hA).2 ⟨lead_srt h1 h', h3⟩)
  ·obtain ⟨h1, h2⟩ := (mem_UAB hB hA).1 h
   rcases lead_in kB kA h2 h' with h3 | h3
   ·exact List.mem_append_right _ ((mem_UAB hB hA).2 ⟨lead_srt h1 h', h3⟩)
   ·exact List.mem_append_left _ ((mem_UAB hA hB).2 ⟨lead_srt h1 h', h3⟩)
 ·rw [List.length_append, UAB_len, UAB_len, Nat.add_comm B.length]
  have := Nat.pow_le_pow_right (show 0 < 2 by omega) hl
  have : (2 : Nat) ^ 38 = 274877906944 := by decide
  omega
def rngI (n : Nat) : List Int := (List.range n).map fun k : Nat => (k : Int)
theorem mem_rngI {n : Nat} {x : Int} : x ∈ rngI n ↔ 0 <= x /\ x < (n : Int) := by
 unfold rngI;rw [List.mem_map]
 constructor
 ·rintro ⟨k, hk, rfl⟩
  have := List.mem_range.1 hk
  omega
 ·rintro ⟨h1, h2⟩
  exact ⟨x.toNat, List.mem_range.2 (by omega), by omega⟩
theorem rngI_sorted (n : Nat) : (rngI n).Pairwise (· < ·) := by
 unfold rngI;rw [List.pairwise_map];exact (range_lt n).imp (fun h => by omega)
theorem rngI_len (n : Nat) : (rngI n).length = n := by unfold rngI; rw [List.length_map, List.length_range]
end Go.Proofs.YtkfnogdccpcmhaaGreatDoor
namespace Go.Proofs.YtkfnogdccpcmhaaGreatDoor
open Go.V
open Classical
structure Emb (s t : ApiType) (f : Int -> Int) : Prop where
 node : ∀ i, In s i -> nd t (f i) = movedN f (nd s i)
theorem movedN_kind (f : Int -> Int) (n : ApiTNode) : (movedN f n).kind = n.kind := rfl
theorem movedN_ab {f : Int -> Int} {n : ApiTNode} (h : n.kind = 6 \/ n.kind = 9 \/ n.kind = 10) : (movedN f n).a = f n.a /\ (movedN f n).b = f n.b := by
 unfold movedN pB
 rcases h with h | h | h <;> rw [h] <;> exact ⟨rfl, rfl⟩
theorem movedN_var {f : Int -> Int} {n : ApiTNode} (h : n.kind = 11) : (movedN f n).a = n.a := by
 unfold movedN pB;rw [h]; rfl
theorem movedN_atN (f : Int -> Int) (n : ApiTNode) (s : List UInt8) : atN (movedN f n) s = (atN n s).map f := by
 unfold atN movedN;rw [List.find?_map]
 show Option.map _ (Option.map _ (n.l.find? fun x => decide (x.name = s))) = _
 rw [Option.map_map, Option.map_map]; rfl
theorem la_emb {s t : ApiType} {f : Int -> Int} {S : Int -> Prop} {D D' : ApiTNode -> Prop} (hO : OkT s) (h : Emb s t f) (hD : ∀ i, In s i -> 3 <= (nd s i).kind -> (nd s i).kind <= 8 -> (D' (nd t (f i)) ↔ D (nd s i))) :
  ∀ i, In s i -> (La t S D' (f i) ↔ La s S D i) := by
 intro i hi
 constructor
 ·intro hla
  generalize hj : f i = j at hla
  induction hla generalizing i with
  | top h1 => subst hj; rw [h.node i hi] at h1; exact .top h1
  | inl h1 _ ih =>
   subst hj; rw [h.node i hi] at h1 ih
   have h1 : (nd s i).kind = 9 := h1
   exact .inl h1 (ih _ (hO.pair hi (.inr (.inl h1))).1 (movedN_ab (.inr (.inl h1))).1.symm)
  | inr h1 _ ih =>
   subst hj; rw [h.node i hi] at h1 ih
   have h1 : (nd s i).kind = 9 := h1
   exact .inr h1 (ih _ (hO.pair hi (.inr (.inl h1))).2 (movedN_ab (.inr (.inl h1))).2.symm)
  | both h1 _ _ ih1 ih2 =>
   subst hj; rw [h.node i hi] at h1 ih1 ih2
   have h1 : (nd s i).kind = 10 := h1
   exact .both h1 (ih1 _ (hO.pair hi (.inr (.inr h1))).1 (movedN_ab (.inr (.inr h1))).1.symm) (ih2 _ (hO.pair hi (.inr (.inr h1))).2 (movedN_ab (.inr (.inr h1))).2.symm)
  | var h1 h2 =>
   subst hj; rw [h.node i hi] at h1 h2
   have h1 : (nd s i).kind = 11 := h1
   rw [movedN_var h1] at h2;exact .var h1 h2
  | head h1 h2 h3 =>
   subst hj
   have h4 := h.node i hi
   rw [h4] at h1 h2;exact .head h1 h2 ((hD i hi h1 h2).1 h3)
 ·intro hla
  induction hla with
  | top h1 => exact .top (by rw [h.node _ hi]; exact h1)
  | @inl i h1 _ ih =>
   have h4 := h.node i hi
   refine .inl (by rw [h4]; exact h1) ?_;rw [h4, (movedN_ab (.inr (.inl h1))).1];exact ih (hO.pair hi (.inr (.inl h1))).1
  | @inr i h1 _ ih =>
   have h4 := h.node i hi
   refine .inr (by rw [h4]; exact h1) ?_;rw [h4, (movedN_ab (.inr (.inl h1))).2];exact ih (hO.pair hi (.inr (.inl h1))).2
  | @both i h1 _ _ ih1 ih2 =>
   have h4 := h.node i hi
   refine .both (by rw [h4]; exact h1) ?_ ?_
   ·rw [h4, (movedN_ab (.inr (.inr h1))).1]
    exact ih1 (hO.pair hi (.inr (.inr h1))).1
   ·rw [h4, (movedN_ab (.inr (.inr h1))).2]
    exact ih2 (hO.pair hi (.inr (.inr h1))).2
  | @var i h1 h2 =>
   have h4 := h.node i hi
   refine .var (by rw [h4]; exact h1) ?_;rw [h4, movedN_var h1]; exact h2
  | @head i h1 h2 h3 =>
   have h4 := h.node i hi
   exact .head (by rw [h4]; exact h1) (by rw [h4]; exact h2) ((hD i hi h1 h2).2 h3)
theorem atN_in {t : ApiType} (hO : OkT t) {i k : Int} {s : List UInt8} (hi : In t i) (h : atN (nd t i) s = some k) : In t k := by
 obtain ⟨f, hf, _, rfl⟩ := atN_mem h;exact hO.at_ hi hf
theorem sat_emb {s t : ApiType} {f : Int -> Int} (hO : OkT s) (h : Emb s t f) : ∀ (p : Pt) (i : Int), In s i -> (Sat t p (f i) ↔ Sat s p i) := by
 intro p
 induction p with
 | tag S k =>
  refine la_emb hO h fun i hi h1 h2 => ?_;rw [h.node i hi]; exact Iff.rfl
 | dom S q ih =>
  refine la_emb hO h fun i hi h1 h2 => ?_;rw [h.node i hi]
  show ((nd s i).kind = 6 /\ ¬ Sat t q (movedN f (nd s i)).a) ↔ ((nd s i).kind = 6 /\ ¬ Sat s q (nd s i).a)
  refine and_congr_right fun h6 => ?_;rw [(movedN_ab (.inl h6)).1, ih _ (hO.pair hi (.inl h6)).1]
 | cod S q ih =>
  refine la_emb hO h fun i hi h1 h2 => ?_;rw [h.node i hi]
  show ((nd s i).kind = 6 /\ Sat t q (movedN f (nd s i)).b) ↔ ((nd s i).kind = 6 /\ Sat s q (nd s i).b)
  refine and_congr_right fun h6 => ?_;rw [(movedN_ab (.inl h6)).2, ih _ (hO.pair hi (.inl h6)).2]
 | absent S n =>
  refine la_emb hO h fun i hi h1 h2 => ?_;rw [h.node i hi]
  show ((nd s i).kind = 7 /\ atN (movedN f (nd s i)) n = none) ↔ ((nd s i).kind = 7 /\ atN (nd s i) n = none)
  rw [movedN_atN, Option.map_eq_none_iff]
 | field S n q ih =>
  refine la_emb hO h fun i hi h1 h2 => ?_;rw [h.node i hi]
  show ((nd s i).kind = 7 /\ ∀ k, atN (movedN f (nd s i)) n = some k -> Sat t q k) ↔ ((nd s i).kind = 7 /\ ∀ k, atN (nd s i) n = some k -> Sat s q k)
  rw [movedN_atN]
  cases hq : atN (nd s i) n with
  | none => simp
  | some k =>
   simp only [Option.map_some, Option.some.injEq, forall_eq'];rw [ih k (atN_in hO hi hq)]
 | hasc S n =>
  refine la_emb hO h fun i hi h1 h2 => ?_;rw [h.node i hi]
  show ((nd s i).kind = 8 /\ atN (movedN f (nd s i)) n ≠ none) ↔ ((nd s i).kind = 8 /\ atN (nd s i) n ≠ none)
  rw [movedN_atN, ne_eq, Option.map_eq_none_iff]
 | case S n q ih =>
  refine la_emb hO h fun i hi h1 h2 => ?_;rw [h.node i hi]
  show ((nd s i).kind = 8 /\ ∃ k, atN (movedN f (nd s i)) n = some k /\ Sat t q k) ↔ ((nd s i).kind = 8 /\ ∃ k, atN (nd s i) n = some k /\ Sat s q k)
  rw [movedN_atN]
  cases hq : atN (nd s i) n with
  | none => simp
  | some k =>
   simp only [Option.map_some, Option.some.injEq, exists_eq_left'];rw [ih k (atN_in hO hi hq)]
theorem inB_mono {all all' : Int} (hle : all <= all') {l : List Int} (h : ¬ ∃ k ∈ l, inB all k = true) : ¬ ∃ k ∈ l, inB all' k = true := by
 rintro ⟨k, hk, h2⟩;refine h ⟨k, hk, ?_⟩;unfold inB at h2 ⊢;simp only [Bool.or_eq_true, decide_eq_true_eq] at h2 ⊢
 omega
theorem right_mono {n : ApiTNode} {all all' : Int} (h : rightB n all = true) (hle : all <= all') : rightB n all' = true := by
 unfold rightB at h ⊢;rw [Bool.and_eq_true, Bool.and_eq_true, Bool.and_eq_true, Bool.and_eq_true, Bool.and_eq_true] at h ⊢;obtain ⟨h1, h2, h3, h4, h5, h6⟩ := h;refine ⟨h1, h2, h3, h4, h5, ?_⟩;rw [Bool.not_eq_true', decide_eq_false_iff_not] at h6 ⊢;exact inB_mono hle h6
theorem named_moved {n : ApiTNode} {f : Int -> Int} (h : namedP n) : namedP (movedN f n) := by
 intro i x hx
 have hx : (n.l.map fun x => (⟨x.name, f x.at_⟩ : ApiTField))[i]? = some x := hx
 rw [List.getElem?_map] at hx
 cases hq : n.l[i]? with
 | none => rw [hq] at hx; cases hx
 | some z =>
  rw [hq] at hx; cases hx
  obtain ⟨h1, h2⟩ := h i z hq;refine ⟨h1, fun h0 y hy => ?_⟩
  have hy : (n.l.map fun x => (⟨x.name, f x.at_⟩ : ApiTField))[i - 1]? = some y := hy
  rw [List.getElem?_map] at hy
  cases hq2 : n.l[i - 1]? with
  | none => rw [hq2] at hy; cases hy
  | some z2 => rw [hq2] at hy; cases hy; exact h2 h0 z2 hq2
theorem kids_moved {n : ApiTNode} {f : Int -> Int} : kidsL (movedN f n) = (kidsL n).map f := by
 unfold kidsL;rw [movedN_kind]
 cases hp : pB n.kind
 ·cases wB n.kind
  ·rfl
  ·unfold movedN; simp only [cond_false, cond_true, List.map_map]; rfl
 ·unfold movedN; simp only [cond_true, hp, List.map_cons, List.map_nil]
theorem right_moved {n : ApiTNode} {all all' : Int} {f : Int -> Int} (h : rightB n all = true) (hf : ∀ k, 0 <= k -> k < all -> 0 <= f k /\ f k < all') : rightB (movedN f n) all' = true := by
 have hk := right_in h
 unfold rightB at h ⊢;rw [Bool.and_eq_true, Bool.and_eq_true, Bool.and_eq_true, Bool.and_eq_true, Bool.and_eq_true] at h ⊢;obtain ⟨h1, h2, h3, h4, h5, h6⟩ := h;refine ⟨h1, ?_, ?_, ?_, ?_, ?_⟩
 ·rw [movedN_kind]
  cases hp : pB n.kind with
  | true => rfl
  | false =>
   rw [hp] at h2;unfold movedN; rw [hp]; exact h2
 ·rw [movedN_kind]
  by_cases h11 : n.kind = 11
  ·rw [movedN_var h11]; exact h3
  ·rw [decide_eq_false h11]; rfl
 ·unfold movedN; simp only [List.length_map]; exact h4
 ·rw [Bool.and_eq_true, decide_eq_true_eq] at h5 ⊢
  exact ⟨named_moved h5.1, by unfold movedN; simp only [List.length_map]; exact h5.2⟩
 ·rw [Bool.not_eq_true', decide_eq_false_iff_not, kids_moved]
  rintro ⟨k, hk1, hk2⟩;obtain ⟨k0, hk0, rfl⟩ := List.mem_map.1 hk1
  have := hk k0 hk0
  have := hf k0 this.1 this.2
  unfold inB at hk2;simp only [Bool.or_eq_true, decide_eq_true_eq] at hk2
  omega
theorem endk_left {A B : List ApiTNode} (hA : InL A) : ∀ (k i : Nat), i < A.length -> endk A k i = true -> endk (A ++ B) k i = true
 | 0, _, _, h => by cases h
 | k + 1, i, hi, h => by
  unfold endk at h ⊢;rw [List.getElem?_append_left hi]
  have hx : A[i]? = some A[i] := List.getElem?_eq_getElem hi
  rw [hx] at h ⊢
  simp only at h ⊢
  cases hl : latB A[i].kind with
  | false => rfl
  | true =>
   rw [hl] at h
   have hk := lat_kids hl
   have h1 := hA _ (List.getElem_mem hi) A[i].a (by rw [hk]; simp)
   have h2 := hA _ (List.getElem_mem hi) A[i].b (by rw [hk]; simp)
   simp only [Bool.not_true, Bool.false_or, Bool.and_eq_true] at h ⊢;exact ⟨endk_left hA k _ (by omega) h.1, endk_left hA k _ (by omega) h.2⟩
theorem endk_right {A B : List ApiTNode} (hB : InL B) : ∀ (k i : Nat), i < B.length -> endk B k i = true -> endk (A ++ B.map (movedN (· + (A.length : Int)))) k (i + A.length) = true
 | 0, _, _, h => by cases h
 | k + 1, i, hi, h => by
  unfold endk at h ⊢;rw [List.getElem?_append_right (by omega), Nat.add_sub_cancel, List.getElem?_map]
  have hx : B[i]? = some B[i] := List.getElem?_eq_getElem hi
  rw [hx] at h ⊢;simp only [Option.map_some, movedN_kind] at h ⊢
  cases hl : latB B[i].kind with
  | false => rfl
  | true =>
   rw [hl] at h
   have hk := lat_kids hl
   have h1 := hB _ (List.getElem_mem hi) B[i].a (by rw [hk]; simp)
   have h2 := hB _ (List.getElem_mem hi) B[i].b (by rw [hk]; simp)
   have hab := movedN_ab (f := (· + (A.length : Int))) (n := B[i]) (.inr (lat_yes hl))
   simp only [Bool.not_true, Bool.false_or, Bool.and_eq_true] at h ⊢;rw [hab.1, hab.2, show (B[i].a + (A.length : Int)).toNat = B[i].a.toNat + A.length by omega, show (B[i].b + (A.length : Int)).toNat = B[i].b.toNat + A.length by omega];exact ⟨endk_right hB k _ (by omega) h.1, endk_right hB k _ (by omega) h.2⟩
end Go.Proofs.YtkfnogdccpcmhaaGreatDoor
namespace Go.Proofs.YtkfnogdccpcmhaaGreatDoor
open Go.V
open Classical
theorem movedN_id (n : ApiTNode) : movedN (fun k => k) n = n := by
 unfold movedN;rw [Bool.cond_self, Bool.cond_self]
 have : n.l.map (fun x => (⟨x.name, x.at_⟩ : ApiTField)) = n.l := by
  conv => rhs; rw [<- List.map_id n.l]
  rfl
 rw [this]
theorem emb_left {a t : ApiType} {X : List ApiTNode} (h : t.l = a.l ++ X) : Emb a t (fun k => k) := ⟨fun i hi => by
 rw [movedN_id]
 have hil : i.toNat < a.l.length := by have := hi.1; have := hi.2; omega
 unfold nd;rw [h, List.getElem?_append_left hil]⟩
theorem emb_right {a b t : ApiType} {X : List ApiTNode} (h : t.l = a.l ++ b.l.map (movedN (fun k => k + (a.l.length : Int))) ++ X) : Emb b t (fun k => k + (a.l.length : Int)) := ⟨fun i hi => by
 have hil : i.toNat < b.l.length := by have := hi.1; have := hi.2; omega
 have h1 := nd_get hi
 have e : (i + (a.l.length : Int)).toNat = a.l.length + i.toNat := by have := hi.1; omega
 show (t.l[(i + (a.l.length : Int)).toNat]?).getD ⟨0, 0, 0, []⟩ = _
 rw [h, e, List.getElem?_append_left (by rw [List.length_append, List.length_map]; omega), List.getElem?_append_right (by omega), Nat.add_sub_cancel_left, List.getElem?_map, h1]
 rfl⟩
theorem kept_emb {s t : ApiType} {f : Int -> Int} (hO : OkT s) (h : Emb s t f) (hin : ∀ i, In s i -> In t (f i)) : Kept t (fun x => ∃ i, In s i /\ f i = x) := by
 refine ⟨?_, ?_, ?_⟩
 ·rintro _ ⟨i, hi, rfl⟩; exact hin i hi
 ·rintro _ ⟨i, hi, rfl⟩ hk
  rw [h.node i hi] at hk ⊢;obtain ⟨e1, e2⟩ := movedN_ab (f := f) (n := nd s i) hk;rw [e1, e2];obtain ⟨h1, h2⟩ := hO.pair hi hk;exact ⟨⟨_, h1, rfl⟩, ⟨_, h2, rfl⟩⟩
 ·rintro _ ⟨i, hi, rfl⟩ g hg
  rw [h.node i hi] at hg;obtain ⟨g0, hg0, rfl⟩ := List.mem_map.1 hg;exact ⟨_, hO.at_ hi hg0, rfl⟩
theorem Kept.congr {t : ApiType} {A B : Int -> Prop} (h : Kept t A) (he : ∀ x, A x ↔ B x) : Kept t B := by
 have : A = B := funext fun x => propext (he x)
 rw [<- this]; exact h
theorem graft_len (a b : ApiType) : (graftT a b).l.length = a.l.length + b.l.length := by unfold graftT; rw [List.length_append, List.length_map]
theorem graft_ok {a b : ApiType} (ha : OkT a) (hb : OkT b) : OkT (graftT a b) := by
 refine ⟨fun n hn => ?_, fun i hi => ?_⟩
 ·rw [graft_len]
  unfold graftT at hn
  rcases List.mem_append.1 hn with hn | hn
  ·exact right_mono (ha.right n hn) (by omega)
  ·obtain ⟨m, hm, rfl⟩ := List.mem_map.1 hn
   exact right_moved (hb.right m hm) (fun k h1 h2 => by omega)
 ·rw [graft_len] at hi
  by_cases h : i < a.l.length
  ·obtain ⟨k, hk⟩ := ha.ends i h
   exact ⟨k, endk_left (allRight_in ha.right) k i h hk⟩
  ·obtain ⟨k, hk⟩ := hb.ends (i - a.l.length) (by omega)
   have := endk_right (A := a.l) (allRight_in hb.right) k (i - a.l.length) (by omega) hk
   rw [Nat.sub_add_cancel (by omega)] at this;exact ⟨k, this⟩
def Sub (a b : ApiType) : Prop := ∀ p, Sat a p a.root -> Sat b p b.root
structure MayO (a : ApiType) : Prop where
 may : mayT a.l a.root = 0
 nb : ∀ n ∈ a.l, NB n
theorem MayO.ok {a : ApiType} (h : MayO a) : OkT a := ⟨(mayT_ok h.may).2.2.2.2.1, (mayT_ok h.may).2.2.2.2.2⟩
theorem MayO.root {a : ApiType} (h : MayO a) : In a a.root := ⟨(mayT_ok h.may).2.2.1, (mayT_ok h.may).2.2.2.1⟩
theorem graft_inL {a b : ApiType} {i : Int} (h : In a i) : In (graftT a b) i := ⟨h.1, by rw [graft_len]; have := h.2; omega⟩
theorem graft_inR {a b : ApiType} {i : Int} (h : In b i) : In (graftT a b) (i + (a.l.length : Int)) := ⟨by have := h.1; omega, by rw [graft_len]; have := h.2; omega⟩
theorem graft_eL (a b : ApiType) : Emb a (graftT a b) (fun k => k) := emb_left (X := b.l.map (movedN (fun k => k + (a.l.length : Int)))) rfl
theorem graft_eR (a b : ApiType) : Emb b (graftT a b) (fun k => k + (a.l.length : Int)) := emb_right (X := []) (by rw [List.append_nil]; rfl)
theorem valid_graft {a b : ApiType} (ha : MayO a) (hb : MayO b) : Valid (graftT a b) ⟨[a.root], [b.root + (a.l.length : Int)]⟩ ↔ Sub a b := by
 have h1 : ∀ p, Sat (graftT a b) p a.root ↔ Sat a p a.root := fun p => sat_emb ha.ok (graft_eL a b) p a.root ha.root
 have h2 : ∀ p, Sat (graftT a b) p (b.root + (a.l.length : Int)) ↔ Sat b p b.root := fun p => sat_emb hb.ok (graft_eR a b) p b.root hb.root
 constructor
 ·intro h p hp
  refine Classical.byContradiction fun hn => h p ⟨fun i hi => ?_, fun i hi => ?_⟩
  ·rw [List.mem_singleton] at hi; subst hi; exact (h1 p).2 hp
  ·rw [List.mem_singleton] at hi; subst hi; exact fun h3 => hn ((h2 p).1 h3)
 ·intro h p hp
  exact hp.2 _ (by simp) ((h2 p).2 (h p ((h1 p).1 (hp.1 _ (by simp)))))
theorem shiftI_sorted (n m : Nat) : ((rngI n).map (fun k => k + (m : Int))).Pairwise (· < ·) := by
 rw [List.pairwise_map];exact (rngI_sorted n).imp (fun h => by omega)
theorem graft_nb {a b : ApiType} (ha : ∀ n ∈ a.l, NB n) (hb : ∀ n ∈ b.l, NB n) : ∀ n ∈ (graftT a b).l, NB n := graftT_nb ha hb
theorem graft_U {a b : ApiType} (ha : MayO a) (hb : MayO b) (hl : a.l.length + b.l.length <= 38) : ∃ U, UOk (graftT a b) ⟨[a.root], [b.root + (a.l.length : Int)]⟩ U := by
 have kA : Kept (graftT a b) (· ∈ rngI a.l.length) := (kept_emb ha.ok (graft_eL a b) (fun i hi => graft_inL hi)).congr (fun x => by
  rw [mem_rngI]
  constructor
  ·rintro ⟨i, hi, rfl⟩; exact hi
  ·intro h; exact ⟨x, h, rfl⟩)
 have kB : Kept (graftT a b) (· ∈ (rngI b.l.length).map (fun k => k + (a.l.length : Int))) := (kept_emb hb.ok (graft_eR a b) (fun i hi => graft_inR hi)).congr (fun x => by
  rw [List.mem_map]
  constructor
  ·rintro ⟨i, hi, rfl⟩; exact ⟨i, mem_rngI.2 hi, rfl⟩
  ·rintro ⟨i, hi, rfl⟩; exact ⟨i, mem_rngI.1 hi, rfl⟩)
 refine ⟨_, kept_U (rngI_sorted _) (shiftI_sorted _ _) kA kB (by rw [List.length_map, rngI_len, rngI_len]; exact hl) ⟨by simp, by simp⟩ ⟨fun i hi => ?_, fun i hi => ?_⟩⟩
 ·rw [List.mem_singleton] at hi; subst hi; exact mem_rngI.2 ha.root
 ·rw [List.mem_singleton] at hi; subst hi; exact List.mem_map.2 ⟨b.root, mem_rngI.2 hb.root, rfl⟩
theorem below_of {a b : ApiType} {U : List BelowSequent} (ha : MayO a) (hb : MayO b) (hl : a.l.length + b.l.length <= 99) (hU : UOk (graftT a b) ⟨[a.root], [b.root + (a.l.length : Int)]⟩ U) : m_below_below a b = some (decide (Sub a b)) := by
 unfold m_below_below
 have hr := hb.root
 rw [graft_eq a b (by omega) (by omega) hb.nb hb.ok.right, Option.bind_some]
 simp only
 rw [grd_pos (by have := hr.1; have := hr.2; constructor <;> omega)];rw [show (⟨(graftT a b).l, (graftT a b).root⟩ : ApiType) = graftT a b from rfl, holds_eq (graft_ok ha.ok hb.ok) (graft_nb ha.nb hb.nb) (by rw [graft_len]; exact hl) hU, Option.bind_some]
 congr 1
 exact decide_eq_decide.2 (valid_graft ha hb)
theorem below_eq {a b : ApiType} (ha : MayO a) (hb : MayO b) (hl : a.l.length + b.l.length <= 38) : m_below_below a b = some (decide (Sub a b)) := by
 obtain ⟨U, hU⟩ := graft_U ha hb hl;exact below_of ha hb (by omega) hU
theorem bmay_eq {a b : ApiType} (ha : a.l.length <= 2001) (hb : b.l.length <= 2001) (hNa : ∀ n ∈ a.l, NB n) (hNb : ∀ n ∈ b.l, NB n) : m_below_may a b = some (if mayT a.l a.root = 0 then mayT b.l b.root else mayT a.l a.root) := by
 unfold m_below_may;rw [may_eq a ha hNa, Option.bind_some]
 by_cases h : mayT a.l a.root = 0
 ·rw [decide_eq_true h, Bool.not_true, cond_false, may_eq b hb hNb, if_pos h]; rfl
 ·rw [decide_eq_false h, Bool.not_false, cond_true, if_neg h]
theorem Below_eq {a b : ApiType} (ha : a.l.length <= 2001) (hb : b.l.length <= 2001) (hNa : ∀ n ∈ a.l, NB n) (hNb : ∀ n ∈ b.l, NB n) (hl : mayT a.l a.root = 0 -> mayT b.l b.root = 0 -> a.l.length + b.l.length <= 38) :
  m_below_Below a b = some (if mayT a.l a.root = 0 then if mayT b.l b.root = 0 then (decide (Sub a b), 0) else (false, mayT b.l b.root) else (false, mayT a.l a.root)) := by
 unfold m_below_Below;rw [bmay_eq ha hb hNa hNb, Option.bind_some]
 by_cases h : mayT a.l a.root = 0
 ·rw [if_pos h, if_pos h]
  by_cases h2 : mayT b.l b.root = 0
  ·rw [decide_eq_true h2, Bool.not_true, cond_false, below_eq ⟨h, hNa⟩ ⟨h2, hNb⟩ (hl h h2), Option.bind_some, if_pos h2]
  ·rw [decide_eq_false h2, Bool.not_false, cond_true, if_neg h2]
 ·rw [if_neg h, if_neg h, decide_eq_false h, Bool.not_false, cond_true]
theorem is_eq {a b : ApiType} (ha : a.l.length <= 2001) (hb : b.l.length <= 2001) (hNa : ∀ n ∈ a.l, NB n) (hNb : ∀ n ∈ b.l, NB n) (hl : mayT a.l a.root = 0 -> mayT b.l b.root = 0 -> a.l.length + b.l.length <= 38) :
  m_lb_is a b = some (decide (mayT a.l a.root = 0 /\ mayT b.l b.root = 0 /\ Sub a b)) := by
 unfold m_lb_is;rw [Below_eq ha hb hNa hNb hl, Option.bind_some]
 by_cases h : mayT a.l a.root = 0
 ·by_cases h2 : mayT b.l b.root = 0
  ·simp [h, h2]
  ·simp [h, h2]
 ·simp [h]
def isTag (p : Pt) (k : Int) : Prop := match p with
 | .tag _ k' => k = k'
 | _ => False
theorem hd_leaf {t : ApiType} {p : Pt} {x : ApiTNode} {k : Int} (hx : x.kind = k) (hk : 3 <= k /\ k <= 5) : hdP t p x ↔ isTag p k := by
 cases p with
 | tag S k' =>
  show (x.kind = k' /\ k' ≠ 8) ↔ k = k'
  rw [hx];exact ⟨fun h => h.1, fun h => ⟨h, by omega⟩⟩
 | dom S q => exact ⟨fun h => by have := h.1; omega, fun h => h.elim⟩
 | cod S q => exact ⟨fun h => by have := h.1; omega, fun h => h.elim⟩
 | absent S q => exact ⟨fun h => by have := h.1; omega, fun h => h.elim⟩
 | field S s q => exact ⟨fun h => by have := h.1; omega, fun h => h.elim⟩
 | hasc S q => exact ⟨fun h => by have := h.1; omega, fun h => h.elim⟩
 | case S s q => exact ⟨fun h => by have := h.1; omega, fun h => h.elim⟩
theorem sat_leaf {t : ApiType} {p : Pt} {i k : Int} (hx : (nd t i).kind = k) (hk : 3 <= k /\ k <= 5) : Sat t p i ↔ isTag p k := (la_head (by omega) (by omega)).trans (hd_leaf hx hk)
theorem hd_arrow {t : ApiType} {p : Pt} {x : ApiTNode} (hx : x.kind = 6) : hdP t p x ↔ (match p with
  | .tag _ k => k = 6
  | .dom _ q => ¬ Sat t q x.a
  | .cod _ q => Sat t q x.b
  | _ => False) := by
 cases p with
 | tag S k =>
  show (x.kind = k /\ k ≠ 8) ↔ k = 6
  rw [hx];exact ⟨fun h => h.1.symm, fun h => ⟨h.symm, by omega⟩⟩
 | dom S q => exact ⟨fun h => h.2, fun h => ⟨hx, h⟩⟩
 | cod S q => exact ⟨fun h => h.2, fun h => ⟨hx, h⟩⟩
 | absent S q => exact ⟨fun h => by have := h.1; omega, fun h => h.elim⟩
 | field S s q => exact ⟨fun h => by have := h.1; omega, fun h => h.elim⟩
 | hasc S q => exact ⟨fun h => by have := h.1; omega, fun h => h.elim⟩
 | case S s q => exact ⟨fun h => by have := h.1; omega, fun h => h.elim⟩
def exA : ApiType := ⟨[⟨3, 0, 0, []⟩, ⟨6, 0, 0, []⟩], 1⟩
def exB : ApiType := ⟨[⟨3, 0, 0, []⟩, ⟨4, 0, 0, []⟩, ⟨10, 0, 1, []⟩, ⟨1, 0, 0, []⟩, ⟨6, 2, 3, []⟩], 4⟩
def leafT (k : Int) : ApiType := ⟨[⟨k, 0, 0, []⟩], 0⟩
theorem may_of {t : ApiType} (hlen : t.l.length <= 2001) (hN : ∀ n ∈ t.l, NB n) (h : m_graph_May t = some 0) : MayO t := ⟨by rw [may_eq t hlen hN] at h; exact Option.some.inj h, hN⟩
theorem exA_may : MayO exA := may_of (by decide) (by intro n hn; simp [exA] at hn; rcases hn with rfl | rfl <;> simp [NB]) (by rfl)
theorem exB_may : MayO exB := may_of (by decide) (by intro n hn; simp [exB] at hn; rcases hn with rfl | rfl | rfl | rfl | rfl <;> simp [NB]) (by rfl)
theorem bot_may : MayO (leafT 2) := may_of (by decide) (by intro n hn; simp [leafT] at hn; subst hn; simp [NB]) (by rfl)
theorem exAB : Sub exA exB := by
 intro p hp
 have h1 := (la_head (t := exA) (i := 1) (by decide) (by decide)).1 hp
 refine (la_head (t := exB) (i := 4) (by decide) (by decide)).2 ?_;rw [hd_arrow (by decide)] at h1 ⊢
 cases p with
 | tag S k => exact h1
 | dom S q =>
  refine fun h2 => h1 ?_
  have h3 := (la_meet (t := exB) (i := 2) (by decide)).1 h2
  exact (sat_leaf (t := exA) (i := 0) (k := 3) (by decide) (by decide)).2 ((sat_leaf (t := exB) (i := 0) (k := 3) (by decide) (by decide)).1 h3.1)
 | cod S q => exact la_top (t := exB) (i := 3) (by decide)
 | absent S q => exact h1.elim
 | field S s q => exact h1.elim
 | hasc S q => exact h1.elim
 | case S s q => exact h1.elim
theorem exBA : ¬ Sub exB exA := by
 intro h
 have h1 := h (.cod (fun _ => False) (.tag (fun _ => False) 0)) ((la_head (t := exB) (i := 4) (by decide) (by decide)).2 ((hd_arrow (by decide)).2 (la_top (t := exB) (i := 3) (by decide))))
 have h2 := (hd_arrow (by decide)).1 ((la_head (t := exA) (i := 1) (by decide) (by decide)).1 h1)
 have h3 : isTag (.tag (fun _ => False) 0) 3 := (sat_leaf (t := exA) (i := 0) (k := 3) (by decide) (by decide)).1 h2
 exact absurd (show (3 : Int) = 0 from h3) (by decide)
theorem exA_bot : ¬ Sub exA (leafT 2) := by
 intro h
 have h1 := h (.tag (fun _ => False) 6) ((la_head (t := exA) (i := 1) (by decide) (by decide)).2 ((hd_arrow (by decide)).2 rfl))
 exact la_bot (t := leafT 2) (i := 0) (by decide) h1
theorem least_eq {a : ApiType} (ha : a.l.length <= 2001) (hNa : ∀ n ∈ a.l, NB n) (hl : mayT a.l a.root = 0 -> a.l.length <= 37) : m_below_Least a = some (decide (mayT a.l a.root = 0 /\ Sub a (leafT 2))) := by
 unfold m_below_Least;rw [show m_graph_Leaf 2 = some (leafT 2) from rfl, Option.bind_some, Below_eq ha (by decide) hNa bot_may.nb (fun h _ => by have := hl h; show _ + 1 <= _; omega), Option.bind_some]
 by_cases h : mayT a.l a.root = 0
 ·simp [h, bot_may.may]
 ·simp [h]
theorem works_eq : m_lb_works = some true := by
 unfold m_lb_works
 change ((m_below_Below exA exB).bind _) = _
 rw [Below_eq (by decide) (by decide) exA_may.nb exB_may.nb (fun _ _ => by decide), Option.bind_some, if_pos exA_may.may, if_pos exB_may.may, decide_eq_true exAB]
 change ((m_below_Below exB exA).bind _) = _
 rw [Below_eq (by decide) (by decide) exB_may.nb exA_may.nb (fun _ _ => by decide), Option.bind_some, if_pos exB_may.may, if_pos exA_may.may, decide_eq_false exBA]
 have e1 : m_below_Least (leafT 2) = some true := by rw [least_eq (by decide) bot_may.nb (fun _ => by decide), decide_eq_true ⟨bot_may.may, fun p hp => hp⟩]
 have e2 : m_below_Least (⟨[⟨3, 0, 0, []⟩, ⟨6, 0, 0, []⟩], 1⟩ : ApiType) = some false := by
  change m_below_Least exA = _
  rw [least_eq (by decide) exA_may.nb (fun _ => by decide), decide_eq_false (fun h => exA_bot h.2)]
 simp only [decide_true, Bool.and_true, Bool.true_and, Bool.not_false, cond_true];rw [show m_graph_Leaf 2 = some (leafT 2) from rfl, Option.bind_some, e1, Option.bind_some, Option.bind_some, cond_true, e2]
 rfl
theorem law_BelowOrder (a b c : ApiType) : m_lb_BelowOrder a b c = some true := by
 have hfew : ∀ t : ApiType, m_lb_few (⟨t.l, t.root⟩ : ApiType) = some (fewT 10 t) := fun t => by
  unfold m_lb_few;rw [few_eq _ 10 10 rfl (by omega)]; rfl
 unfold m_lb_BelowOrder;rw [works_eq, Option.bind_some, Bool.not_true, cond_false, hfew, Option.bind_some, hfew, Option.bind_some, hfew, Option.bind_some]
 have hl : ∀ t, (fewT 10 t).l.length <= 2001 := fun t => fewT_len 10 (by omega) t
 have hN : ∀ t, ∀ n ∈ (fewT 10 t).l, NB n := fun t => fewT_nb 10 t
 have hs : ∀ t, mayT (fewT 10 t).l (fewT 10 t).root = 0 -> (fewT 10 t).l.length <= 10 := fun t h => fewT_small 10 t (mayT_ok h).2.1
 have his : ∀ s t : ApiType, m_lb_is (⟨(fewT 10 s).l, (fewT 10 s).root⟩ : ApiType) (⟨(fewT 10 t).l, (fewT 10 t).root⟩ : ApiType) = some (decide (mayT (fewT 10 s).l (fewT 10 s).root = 0 /\ mayT (fewT 10 t).l (fewT 10 t).root = 0 /\ Sub (fewT 10 s) (fewT 10 t))) := fun s t => is_eq (hl s) (hl t) (hN s) (hN t) (fun h1 h2 => by have := hs s h1; have := hs t h2; show (fewT 10 s).l.length + (fewT 10 t).l.length <= 38; omega)
 obtain ⟨ga, ea, _⟩ := ground_ok (fewT 10 a) (hl a) (hN a);obtain ⟨gb, eb, _⟩ := ground_ok (fewT 10 b) (hl b) (hN b);obtain ⟨gc, ec, _⟩ := ground_ok (fewT 10 c) (hl c) (hN c)
 have ea : m_graph_Ground (⟨(fewT 10 a).l, (fewT 10 a).root⟩ : ApiType) = some ga := ea
 have eb : m_graph_Ground (⟨(fewT 10 b).l, (fewT 10 b).root⟩ : ApiType) = some gb := eb
 have ec : m_graph_Ground (⟨(fewT 10 c).l, (fewT 10 c).root⟩ : ApiType) = some gc := ec
 rw [show m_rg_May (⟨(fewT 10 a).l, (fewT 10 a).root⟩ : ApiType) = some (mayT (fewT 10 a).l (fewT 10 a).root) from rmay_eq _ (hl a) (hN a), Option.bind_some]
 by_cases h : mayT (fewT 10 a).l (fewT 10 a).root = 0
 ·rw [decide_eq_true h, Bool.not_true, cond_false, his, decide_eq_true ⟨h, h, fun p hp => hp⟩, Option.bind_some, Bool.not_true, cond_false, ea, Option.bind_some]
  cases ga with
  | false => rfl
  | true =>
   simp only [Bool.not_true, cond_false];rw [eb]
   cases gb with
   | false => rfl
   | true =>
    simp only [Bool.not_true, cond_false, Option.bind_some];rw [ec]
    cases gc with
    | false => rfl
    | true =>
     simp only [Bool.not_true, cond_false, Option.bind_some];rw [his, his, his];simp only [Option.bind_some]
     by_cases h1 : mayT (fewT 10 a).l (fewT 10 a).root = 0 /\ mayT (fewT 10 b).l (fewT 10 b).root = 0 /\ Sub (fewT 10 a) (fewT 10 b)
     ·rw [decide_eq_true h1]
      by_cases h2 : mayT (fewT 10 b).l (fewT 10 b).root = 0 /\ mayT (fewT 10 c).l (fewT 10 c).root = 0 /\ Sub (fewT 10 b) (fewT 10 c)
      ·rw [decide_eq_true h2, decide_eq_true ⟨h, h2.2.1, fun p hp => h2.2.2 p (h1.2.2 p hp)⟩]; rfl
      ·rw [decide_eq_false h2]; rfl
     ·rw [decide_eq_false h1]; rfl
 ·rw [decide_eq_false h, Bool.not_false, cond_true, his, decide_eq_false (fun h2 => h h2.1)]; rfl
end Go.Proofs.YtkfnogdccpcmhaaGreatDoor
