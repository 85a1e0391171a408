/- Part C24d of the proof: contracts of the functions that are walked, and what they compute; no condition. -/
import Derived.Test.YtfcifodaohhcbaaC24c
import Derived.Test.YtfcifodaohhcbaaV36
set_option linter.unusedVariables false
set_option linter.unusedSimpArgs false
set_option maxRecDepth 100000
namespace Go.Proofs.Ytfcifodaohhcbaa
open Go.V
open Classical
/-! Same -/
theorem lenNe {α β : Type} (a : List α) (b : List β) : (!decide ((a.length : Int) = (b.length : Int))) = !decide (a.length = b.length) := by
  congr 1; exact decide_eq_decide.2 (by omega)
theorem eqInt_eq (a b : List Int) (h : a.length ≤ 3000) : m_slices_Equal_int_int a b = some (decide (a = b)) := by
  unfold m_slices_Equal_int_int
  rw [lenNe]
  by_cases hl : a.length = b.length
  · rw [decide_eq_true hl, Bool.not_true, cond_false]
    refine bnd (loop_same (φ := m_slices_Equal_int_int_l1 a b) (l := a) (m := b) false hl ?_ ?_ (by rw [FUv]; omega)) ?_
    · intro n i x y hx hy hi
      simp only [m_slices_Equal_int_int_l1]
      rw [decide_eq_true (show (i : Int) < a.length by omega), cond_true, getI hx, Option.bind_some, getI hy, Option.bind_some]
      exact ⟨fun hq => by rw [decide_eq_true hq, Bool.not_true, cond_false, grd_pos (by omega)], fun hq => by rw [decide_eq_false hq, Bool.not_false, cond_true]⟩
    · intro n
      simp only [m_slices_Equal_int_int_l1]
      rw [decide_eq_false (by omega), cond_false]
    · by_cases hab : a = b
      · rw [if_pos hab, decide_eq_true hab]; rfl
      · rw [if_neg hab, decide_eq_false hab]; rfl
  · rw [decide_eq_false hl, decide_eq_false (p := a = b) (fun h => hl (by rw [h]))]; rfl
theorem edge_eqv (x y : AutoEdge) : AutoEdge.eqv x y = decide (x = y) := by
  unfold AutoEdge.eqv
  rw [Bool.eq_iff_iff]
  simp only [Bool.and_true, Bool.and_eq_true, beq_iff_eq, decide_eq_true_eq]
  cases x; cases y; simp
theorem eqEdge_eq (a b : List AutoEdge) (h : a.length ≤ 3000) : m_slices_Equal_auto_Edge_auto_Edge a b = some (decide (a = b)) := by
  unfold m_slices_Equal_auto_Edge_auto_Edge
  rw [lenNe]
  by_cases hl : a.length = b.length
  · rw [decide_eq_true hl, Bool.not_true, cond_false]
    refine bnd (loop_same (φ := m_slices_Equal_auto_Edge_auto_Edge_l1 a b) (l := a) (m := b) false hl ?_ ?_ (by rw [FUv]; omega)) ?_
    · intro n i x y hx hy hi
      simp only [m_slices_Equal_auto_Edge_auto_Edge_l1]
      rw [decide_eq_true (show (i : Int) < a.length by omega), cond_true, getI hx, Option.bind_some, getI hy, Option.bind_some, edge_eqv]
      exact ⟨fun hq => by rw [decide_eq_true hq, Bool.not_true, cond_false, grd_pos (by omega)], fun hq => by rw [decide_eq_false hq, Bool.not_false, cond_true]⟩
    · intro n
      simp only [m_slices_Equal_auto_Edge_auto_Edge_l1]
      rw [decide_eq_false (by omega), cond_false]
    · by_cases hab : a = b
      · rw [if_pos hab, decide_eq_true hab]; rfl
      · rw [if_neg hab, decide_eq_false hab]; rfl
  · rw [decide_eq_false hl, decide_eq_false (p := a = b) (fun h => hl (by rw [h]))]; rfl
theorem rEdges_eq (a b : List AutoEdge) (h : a.length ≤ 3000) : m_syntagmaref24_sameEdges a b = some (decide (a = b)) := by
  unfold m_syntagmaref24_sameEdges
  rw [lenNe]
  by_cases hl : a.length = b.length
  · rw [decide_eq_true hl, Bool.not_true, cond_false]
    refine bnd (loop_same (φ := m_syntagmaref24_sameEdges_l1 a b) (l := a) (m := b) false hl ?_ ?_ (by rw [FUv]; omega)) ?_
    · intro n i x y hx hy hi
      simp only [m_syntagmaref24_sameEdges_l1]
      rw [decide_eq_true (show (i : Int) < a.length by omega), cond_true, getI hx, Option.bind_some, getI hy, Option.bind_some, edge_eqv]
      exact ⟨fun hq => by rw [decide_eq_true hq, Bool.not_true, cond_false, grd_pos (by omega)], fun hq => by rw [decide_eq_false hq, Bool.not_false, cond_true]⟩
    · intro n
      simp only [m_syntagmaref24_sameEdges_l1]
      rw [decide_eq_false (by omega), cond_false]
    · by_cases hab : a = b
      · rw [if_pos hab, decide_eq_true hab]; rfl
      · rw [if_neg hab, decide_eq_false hab]; rfl
  · rw [decide_eq_false hl, decide_eq_false (p := a = b) (fun h => hl (by rw [h]))]; rfl
theorem state_iff (a b : AutoState) : a = b ↔ a.plus = b.plus ∧ a.all = b.all ∧ a.int = b.int ∧ a.bool = b.bool ∧ a.str = b.str ∧ a.arrow = b.arrow ∧ a.rec_ = b.rec_ ∧ a.tag = b.tag ∧ a.vars = b.vars ∧ a.dom = b.dom ∧ a.cod = b.cod ∧ a.fields = b.fields ∧ a.tags = b.tags := by
  cases a; cases b; simp
theorem sameState_eq (a b : AutoState) (h : SB a) : m_auto_sameState a b = some (decide (a = b)) := by
  obtain ⟨h1, h2, h3⟩ := h
  unfold m_auto_sameState
  rw [eqInt_eq _ _ (by omega), eqEdge_eq _ _ (by omega), eqEdge_eq _ _ (by omega)]
  by_cases c1 : a.vars = b.vars
  · by_cases c2 : a.fields = b.fields
    · by_cases c3 : a.tags = b.tags
      · rw [decide_eq_true c1, decide_eq_true c2, decide_eq_true c3]
        simp only [Option.bind_some, Bool.not_true, cond_false]
        rw [show ∀ x y : Bool, (bif x then some false else some y) = some (!x && y) from fun x y => by cases x <;> rfl]
        congr 1
        rw [Bool.eq_iff_iff, decide_eq_true_eq, state_iff]
        simp only [Bool.and_eq_true, Bool.not_eq_true', Bool.or_eq_false_iff, Bool.not_eq_false', beq_iff_eq, decide_eq_true_eq, c1, c2, c3]
        simp [and_assoc]
      · rw [decide_eq_true c1, decide_eq_true c2, decide_eq_false c3, decide_eq_false (p := a = b) (fun h => c3 (by rw [h]))]; rfl
    · rw [decide_eq_true c1, decide_eq_false c2, decide_eq_false (p := a = b) (fun h => c2 (by rw [h]))]; rfl
  · rw [decide_eq_false c1, decide_eq_false (p := a = b) (fun h => c1 (by rw [h]))]; rfl
theorem rsameState_eq (a b : AutoState) (h : SB a) : m_syntagmaref24_SameState a b = some (decide (a = b)) := by
  obtain ⟨h1, h2, h3⟩ := h
  unfold m_syntagmaref24_SameState
  rw [sameInts_eq _ _ (by omega), rEdges_eq _ _ (by omega), rEdges_eq _ _ (by omega)]
  simp only [Option.bind_some, bf]
  congr 1
  rw [Bool.eq_iff_iff, decide_eq_true_eq, state_iff]
  simp only [Bool.and_eq_true, beq_iff_eq, decide_eq_true_eq]
  constructor
  · rintro ⟨⟨⟨⟨⟨⟨⟨⟨⟨⟨⟨⟨h1, h2⟩, h3⟩, h4⟩, h5⟩, h6⟩, h7⟩, h8⟩, h9⟩, h10⟩, h11⟩, h12⟩, h13⟩
    exact ⟨h1, h2, h3, h4, h5, h6, h7, h8, h11, h9, h10, h12, h13⟩
  · rintro ⟨h1, h2, h3, h4, h5, h6, h7, h8, h11, h9, h10, h12, h13⟩
    exact ⟨⟨⟨⟨⟨⟨⟨⟨⟨⟨⟨⟨h1, h2⟩, h3⟩, h4⟩, h5⟩, h6⟩, h7⟩, h8⟩, h9⟩, h10⟩, h11⟩, h12⟩, h13⟩
theorem eqStates_eq (a b : List AutoState) (h : a.length ≤ 3000) (hs : ∀ s ∈ a, SB s) : m_slices_EqualFunc_auto_State_auto_State_auto_State_auto_State a b (fun y0 y1 => m_auto_sameState y0 y1) = some (decide (a = b)) := by
  unfold m_slices_EqualFunc_auto_State_auto_State_auto_State_auto_State
  rw [lenNe]
  by_cases hl : a.length = b.length
  · rw [decide_eq_true hl, Bool.not_true, cond_false]
    refine bnd (loop_same (φ := m_slices_EqualFunc_auto_State_auto_State_auto_State_auto_State_l1 a b (fun y0 y1 => m_auto_sameState y0 y1)) (l := a) (m := b) false hl ?_ ?_ (by rw [FUv]; omega)) ?_
    · intro n i x y hx hy hi
      simp only [m_slices_EqualFunc_auto_State_auto_State_auto_State_auto_State_l1]
      rw [decide_eq_true (show (i : Int) < a.length by omega), cond_true, getI hx, Option.bind_some, getI hy, Option.bind_some, sameState_eq _ _ (hs x (List.mem_of_getElem? hx)), Option.bind_some]
      exact ⟨fun hq => by rw [decide_eq_true hq, Bool.not_true, cond_false, grd_pos (by omega)], fun hq => by rw [decide_eq_false hq, Bool.not_false, cond_true]⟩
    · intro n
      simp only [m_slices_EqualFunc_auto_State_auto_State_auto_State_auto_State_l1]
      rw [decide_eq_false (by omega), cond_false]
    · by_cases hab : a = b
      · rw [if_pos hab, decide_eq_true hab]; rfl
      · rw [if_neg hab, decide_eq_false hab]; rfl
  · rw [decide_eq_false hl, decide_eq_false (p := a = b) (fun h => hl (by rw [h]))]; rfl
theorem auto_iff (a b : AutoAuto) : a = b ↔ a.l = b.l ∧ a.start = b.start := by cases a; cases b; simp
theorem sameList_eq (a b : AutoAuto) (h : AB a) : m_syntagmaref24_SameList a b = some (decide (a = b)) := by
  obtain ⟨h, hs⟩ := h
  unfold m_syntagmaref24_SameList
  rw [lenNe]
  by_cases c1 : a.start = b.start
  rotate_left
  · rw [decide_eq_false c1, decide_eq_false (p := a = b) (fun h => c1 (by rw [h]))]; cases decide (a.l.length = b.l.length) <;> rfl
  rw [decide_eq_true c1, Bool.not_true, Bool.or_false]
  by_cases hl : a.l.length = b.l.length
  · rw [decide_eq_true hl, Bool.not_true, cond_false]
    refine bnd (loop_same (φ := m_syntagmaref24_SameList_l1 a b) (l := a.l) (m := b.l) false hl ?_ ?_ (by rw [FUv]; omega)) ?_
    · intro n i x y hx hy hi
      simp only [m_syntagmaref24_SameList_l1]
      rw [decide_eq_true (show (i : Int) < a.l.length by omega), cond_true, getI hx, Option.bind_some, getI hy, Option.bind_some, rsameState_eq _ _ (hs x (List.mem_of_getElem? hx)), Option.bind_some]
      exact ⟨fun hq => by rw [decide_eq_true hq, Bool.not_true, cond_false, grd_pos (by omega)], fun hq => by rw [decide_eq_false hq, Bool.not_false, cond_true]⟩
    · intro n
      simp only [m_syntagmaref24_SameList_l1]
      rw [decide_eq_false (by omega), cond_false]
    · by_cases hab : a.l = b.l
      · rw [if_pos hab, decide_eq_true (show a = b from (auto_iff a b).2 ⟨hab, c1⟩)]; rfl
      · rw [if_neg hab, decide_eq_false (p := a = b) (fun h => hab (by rw [h]))]; rfl
  · rw [decide_eq_false hl, decide_eq_false (p := a = b) (fun h => hl (by rw [h]))]; rfl
/-! Norm -/
def st0 : AutoState := ⟨false, false, false, false, false, false, false, false, [], 0, 0, [], []⟩
def stA (a : AutoAuto) (k : Int) : AutoState := (idx a.l k).getD st0
def nxA (a : AutoAuto) (k : Int) : List Int := nextP (stA a k)
def tm (to : List Int) (k : Int) : Int := (idx to k).getD 0
def edgeM (to : List Int) (x : AutoEdge) : AutoEdge := ⟨x.name, tm to x.to_⟩
def stateM (to : List Int) (s : AutoState) : AutoState := ⟨s.plus, s.all, s.int, s.bool, s.str, s.arrow, s.rec_, s.tag, s.vars, if s.arrow = true then tm to s.dom else s.dom, if s.arrow = true then tm to s.cod else s.cod, s.fields.map (edgeM to), s.tags.map (edgeM to)⟩
def orderP (a : AutoAuto) : List Int := bfs (nxA a) a.l.length 0 [a.start]
def toP (a : AutoAuto) : List Int := setAll 0 (orderP a) (List.replicate a.l.length 0)
def normP (a : AutoAuto) : AutoAuto := ⟨(orderP a).map (fun k => stateM (toP a) (stA a k)), 0⟩
/-- In order as to where all lead. -/
structure Led (a : AutoAuto) : Prop where
  ab : AB a
  led : ∀ k s, idx a.l k = some s → inN a.l.length (nextP s)
  st : 0 ≤ a.start ∧ a.start < (a.l.length : Int)
theorem idx_in {α : Type} {l : List α} {k : Int} (h0 : 0 ≤ k) (h : k < (l.length : Int)) : ∃ x, idx l k = some x ∧ x ∈ l := by
  unfold idx
  rw [if_pos h0]
  exact ⟨l[k.toNat], List.getElem?_eq_getElem (by omega), List.getElem_mem (by omega)⟩
theorem idx_bd {α : Type} {l : List α} {k : Int} {x : α} (h : idx l k = some x) : 0 ≤ k ∧ k < (l.length : Int) := by
  obtain ⟨h0, h1⟩ := idx_some h
  have := getLt h1
  omega
theorem tm_get {to : List Int} {k : Int} (h0 : 0 ≤ k) (h : k < (to.length : Int)) : idx to k = some (tm to k) := by
  obtain ⟨x, hx, _⟩ := idx_in h0 h
  rw [tm, hx]; rfl
theorem stA_get {a : AutoAuto} {k : Int} (h0 : 0 ≤ k) (h : k < (a.l.length : Int)) : idx a.l k = some (stA a k) := by
  obtain ⟨x, hx, _⟩ := idx_in h0 h
  rw [stA, hx]; rfl
theorem stA_mem {a : AutoAuto} {k : Int} (h0 : 0 ≤ k) (h : k < (a.l.length : Int)) : stA a k ∈ a.l := by
  obtain ⟨x, hx, h2⟩ := idx_in h0 h
  rw [stA, hx]; exact h2
section
variable {a : AutoAuto} (ha : Led a)
include ha
theorem nxA_in (x : Int) (h0 : 0 ≤ x) (h : x < (a.l.length : Int)) : inN a.l.length (nxA a x) := ha.led x _ (stA_get h0 h)
theorem start_in : inN a.l.length [a.start] := by
  intro x hx
  simp only [List.mem_singleton] at hx
  subst hx
  exact ha.st
theorem order_ok : (orderP a).Nodup ∧ inN a.l.length (orderP a) ∧ (∃ e, orderP a = [a.start] ++ e) ∧ (∀ (j : Nat) x, 0 ≤ j → (orderP a)[j]? = some x → ∀ y ∈ nxA a x, y ∈ orderP a) :=
  bfs_ok (nxA_in ha) a.l.length 0 [a.start] (by omega) (by simp) (by simp) (start_in ha)
theorem order_len : (orderP a).length ≤ 2001 := by
  have := range_len _ _ (order_ok ha).1 (order_ok ha).2.1
  have := ha.ab.1
  omega
end
theorem to_len {a : AutoAuto} (_ : Led a) : (toP a).length = a.l.length := by unfold toP; rw [setAll_len]; simp
def SeenOk (N : Nat) (l : List Int) (s : List Bool) : Prop := s.length = N ∧ ∀ k : Nat, k < N → s[k]? = some (decide ((k : Int) ∈ l))
theorem seen_get {N : Nat} {l : List Int} {s : List Bool} {x : Int} (h : SeenOk N l s) (h0 : 0 ≤ x) (h1 : x < (N : Int)) : idx s x = some (decide (x ∈ l)) := by
  have := h.2 x.toNat (by omega)
  unfold idx
  rw [if_pos h0, this, show ((x.toNat : Nat) : Int) = x by omega]
theorem seen_set {N : Nat} {l : List Int} {s : List Bool} {x : Int} (h : SeenOk N l s) (h0 : 0 ≤ x) (h1 : x < (N : Int)) : SeenOk N (l ++ [x]) (s.set x.toNat true) := by
  refine ⟨by simp [h.1], fun k hk => ?_⟩
  by_cases e : x.toNat = k
  · rw [← e, List.getElem?_set_self (by rw [h.1]; omega)]
    congr 1
    symm
    rw [decide_eq_true_eq]
    simp; omega
  · rw [List.getElem?_set_ne e, h.2 k hk]
    congr 1
    refine decide_eq_decide.2 ?_
    simp only [List.mem_append, List.mem_singleton]
    exact ⟨fun h => .inl h, fun h => h.elim id (fun h => absurd h (by omega))⟩
theorem reached_l2_eq {N : Nat} (hN : N ≤ 3000) (pre w nx : List Int) (seen : List Bool) (hs : SeenOk N (pre ++ w) seen) (hn : inN N nx) (hd : (pre ++ w).Nodup) (hr : inN N (pre ++ w)) (hlen : nx.length ≤ 100) :
    ∃ w' seen', m_reached_l2 nx FU (0, w, seen) = some (w', seen') ∧ pre ++ w' = addL (pre ++ w) nx ∧ SeenOk N (pre ++ w') seen' := by
  obtain ⟨⟨w', seen'⟩, h1, h2⟩ := loop_rng (φ := fun n i s => m_reached_l2 nx n (i, s.1, s.2)) (l := nx) (fun i s => pre ++ s.1 = addL (pre ++ w) (nx.take i) ∧ SeenOk N (pre ++ s.1) s.2) (fun o => pre ++ o.1 = addL (pre ++ w) nx ∧ SeenOk N (pre ++ o.1) o.2) (by
    rintro n i x ⟨v, s⟩ hx hi ⟨hI1, hI2⟩
    left
    have hxr := hn x (List.mem_of_getElem? hx)
    have hnt : inN N (nx.take i) := fun y hy => hn y (List.mem_of_mem_take hy)
    have hb : (pre ++ v).length ≤ N := by rw [hI1]; exact addL_len hr hnt hd
    simp only [m_reached_l2]
    rw [decide_eq_true (show (i : Int) < nx.length by omega), cond_true, getI hx, Option.bind_some, seen_get hI2 hxr.1 hxr.2, Option.bind_some]
    by_cases hm : x ∈ pre ++ v
    · rw [decide_eq_true hm, Bool.not_true, cond_false, grd_pos (by omega)]
      refine ⟨(v, s), rfl, ?_, hI2⟩
      rw [take_snoc hx, addL_snoc, ← hI1, if_pos hm]
    · rw [decide_eq_false hm, Bool.not_false, cond_true, Option.bind_some, grd_pos (by simp only [List.length_append] at hb; simp only [List.length_cons, List.length_nil]; omega), grd_pos (by omega)]
      refine ⟨(v ++ [x], s.set x.toNat true), rfl, ?_, ?_⟩
      · rw [take_snoc hx, addL_snoc, ← hI1, if_neg hm, List.append_assoc]
      · rw [← List.append_assoc]
        exact seen_set hI2 hxr.1 hxr.2) (by
    rintro n ⟨v, s⟩ ⟨hI1, hI2⟩
    simp only [m_reached_l2]
    rw [decide_eq_false (by omega), cond_false]
    rw [List.take_length] at hI1
    exact ⟨_, rfl, hI1, hI2⟩) (by rw [FUv]; omega) (w, seen) ⟨by simp [addL_nil], hs⟩
  exact ⟨w', seen', h1, h2⟩
theorem drop_get {α : Type} {l : List α} {i : Nat} {x : α} (h : l[i]? = some x) : l.drop i = x :: l.drop (i + 1) := by
  obtain ⟨hi, hx⟩ := List.getElem?_eq_some_iff.1 h
  rw [List.drop_eq_getElem_cons hi, hx]
theorem reached_l1_eq {a : AutoAuto} (ha : Led a) : ∀ (m i : Nat) (l : List Int) (n : Nat) (seen : List Bool), a.l.length ≤ i + m → i ≤ l.length → l.Nodup → inN a.l.length l → m < n → SeenOk a.l.length l seen → m_reached_l1 a n (l.drop i, seen) = some ((bfs (nxA a) m i l).drop i) := by
  intro m
  induction m with
  | zero =>
    intro i l n seen hN hi hd hr hn hs
    have := range_len _ _ hd hr
    obtain ⟨n, rfl⟩ : ∃ k, n = k + 1 := ⟨n - 1, by omega⟩
    rw [show l.drop i = [] from List.drop_eq_nil_of_le (by omega), show (bfs (nxA a) 0 i l).drop i = [] from List.drop_eq_nil_of_le (by simp only [bfs]; omega)]
    rfl
  | succ m ih =>
    intro i l n seen hN hi hd hr hn hs
    obtain ⟨n, rfl⟩ : ∃ k, n = k + 1 := ⟨n - 1, by omega⟩
    cases hx : l[i]? with
    | none =>
      have := List.getElem?_eq_none_iff.1 hx
      rw [bfs_none hx, show l.drop i = [] from List.drop_eq_nil_of_le (by omega)]
      rfl
    | some x =>
      have hxr := hr x (List.mem_of_getElem? hx)
      have hil := getLt hx
      have hin := nxA_in ha x hxr.1 hxr.2
      have hSB := ha.ab.2 _ (stA_mem hxr.1 hxr.2)
      have hl := nextP_len _ hSB
      have hbig := ha.ab.1
      obtain ⟨w', seen', h1, h2, h3⟩ := reached_l2_eq (N := a.l.length) (by omega) (l.take (i + 1)) (l.drop (i + 1)) (nxA a x) seen (by rw [List.take_append_drop]; exact hs) hin (by rw [List.take_append_drop]; exact hd) (by rw [List.take_append_drop]; exact hr) (by unfold nxA; omega)
      rw [List.take_append_drop] at h2
      obtain ⟨e, he⟩ := addL_pre (nxA a x) l
      have hw : w' = (addL l (nxA a x)).drop (i + 1) := by
        rw [← h2, List.drop_append_of_le_length (by simp; omega)]
        simp
      rw [bfs_some hx, drop_get hx]
      simp only [m_reached_l1]
      rw [decide_eq_true (by simp only [List.length_cons]; omega), cond_true, idx_c0, Option.bind_some]
      have hsli : sli (x :: l.drop (i + 1)) 1 ((x :: l.drop (i + 1)).length : Int) = some (l.drop (i + 1)) := by
        have := sli_from (l := x :: l.drop (i + 1)) (i := 1) rfl (by simp)
        simpa using this
      have ih2 := ih (i + 1) (addL l (nxA a x)) n seen' (by omega) (by rw [he]; simp; omega) (addL_nodup _ _ hd) (inN_add hr hin) (by omega) (by rw [← h2]; exact h3)
      rw [hsli, Option.bind_some, stA_get hxr.1 hxr.2, Option.bind_some, next_eq _ hSB, Option.bind_some, show nextP (stA a x) = nxA a x from rfl, h1, Option.bind_some, hw]
      simp only
      rw [ih2, Option.bind_some]
      have hok := bfs_ok (nxA_in ha) m (i + 1) (addL l (nxA a x)) (by omega) (by rw [he]; simp; omega) (addL_nodup _ _ hd) (inN_add hr hin)
      obtain ⟨_, _, ⟨e2, h4⟩, _⟩ := hok
      rw [← drop_get]
      rw [h4, he, List.append_assoc, List.getElem?_append_left hil, hx]
theorem reached_eq {a : AutoAuto} (ha : Led a) : m_reached a = some (orderP a) := by
  have hb := ha.ab.1
  have hst := ha.st
  unfold m_reached
  have hs0 : SeenOk a.l.length [] (List.replicate a.l.length false) := ⟨by simp, fun k hk => by rw [List.getElem?_replicate, if_pos hk]; simp⟩
  rw [grd_pos (by omega), grd_pos (by omega), Int.toNat_natCast, seen_get hs0 hst.1 hst.2, Option.bind_some]
  have := reached_l1_eq ha a.l.length 0 [a.start] FU _ (by omega) (by simp) (by simp) (start_in ha) (by rw [FUv]; omega) (seen_set hs0 hst.1 hst.2)
  simpa [orderP] using this
theorem bhas_eq (l : List Int) (x : Int) (h : l.length ≤ 100000) : m_syntagmabase_HasInt l x = some (decide (x ∈ l)) := by
  unfold m_syntagmabase_HasInt
  refine bnd (loop_any (φ := m_syntagmabase_HasInt_l1 l x) (l := l) true (fun _ y => y = x) ?_ ?_ (by rw [FUv]; omega)) ?_
  · intro n i y hy hi
    simp only [m_syntagmabase_HasInt_l1]
    rw [decide_eq_true (show (i : Int) < l.length by omega), cond_true, getI hy, Option.bind_some]
    exact ⟨fun hq => by rw [decide_eq_false hq, cond_false, grd_pos (by omega)], fun hq => by rw [decide_eq_true hq, cond_true]⟩
  · intro n
    simp only [m_syntagmabase_HasInt_l1]
    rw [decide_eq_false (by omega), cond_false]
  · by_cases hs : x ∈ l
    · obtain ⟨i, hi, h2⟩ := List.getElem_of_mem hs
      rw [if_pos ⟨i, x, by rw [← h2]; exact List.getElem?_eq_getElem hi, rfl⟩, decide_eq_true hs]; rfl
    · rw [if_neg, decide_eq_false hs]; rfl
      rintro ⟨i, y, h1, rfl⟩
      exact hs (List.mem_of_getElem? h1)
theorem rnorm_l2_eq {N : Nat} (hN : N ≤ 3000) (l nx : List Int) (hn : inN N nx) (hd : l.Nodup) (hr : inN N l) (hlen : nx.length ≤ 100) : m_syntagmaref24_Norm_l2 nx FU (0, l) = some (addL l nx) := by
  obtain ⟨o, h1, h2⟩ := loop_rng (φ := fun n i s => m_syntagmaref24_Norm_l2 nx n (i, s)) (l := nx) (fun i s => s = addL l (nx.take i)) (fun o => o = addL l nx) (by
    rintro n i x s hx hi hI
    left
    have hxr := hn x (List.mem_of_getElem? hx)
    have hnt : inN N (nx.take i) := fun y hy => hn y (List.mem_of_mem_take hy)
    have hb : s.length ≤ N := by rw [hI]; exact addL_len hr hnt hd
    simp only [m_syntagmaref24_Norm_l2]
    rw [decide_eq_true (show (i : Int) < nx.length by omega), cond_true, getI hx, Option.bind_some, bhas_eq _ _ (by omega), Option.bind_some]
    by_cases hm : x ∈ s
    · rw [decide_eq_true hm, Bool.not_true, cond_false, grd_pos (by omega)]
      refine ⟨s, rfl, ?_⟩
      rw [take_snoc hx, addL_snoc, ← hI, if_pos hm]
    · rw [decide_eq_false hm, Bool.not_false, cond_true, Option.bind_some, grd_pos (by simp only [List.length_cons, List.length_nil]; omega), grd_pos (by omega)]
      refine ⟨s ++ [x], rfl, ?_⟩
      rw [take_snoc hx, addL_snoc, ← hI, if_neg hm]) (by
    rintro n s hI
    simp only [m_syntagmaref24_Norm_l2]
    rw [decide_eq_false (by omega), cond_false]
    rw [List.take_length] at hI
    exact ⟨_, rfl, hI⟩) (by rw [FUv]; omega) l (by simp [addL_nil])
  rw [h1, h2]
theorem rnorm_l1_eq {a : AutoAuto} (ha : Led a) : ∀ (m i : Nat) (l : List Int) (n : Nat), a.l.length ≤ i + m → i ≤ l.length → l.Nodup → inN a.l.length l → m < n → m_syntagmaref24_Norm_l1 a n ((i : Int), l) = some (bfs (nxA a) m i l) := by
  intro m
  induction m with
  | zero =>
    intro i l n hN hi hd hr hn
    have := range_len _ _ hd hr
    obtain ⟨n, rfl⟩ : ∃ k, n = k + 1 := ⟨n - 1, by omega⟩
    simp only [m_syntagmaref24_Norm_l1]
    rw [decide_eq_false (by omega), cond_false]; rfl
  | succ m ih =>
    intro i l n hN hi hd hr hn
    obtain ⟨n, rfl⟩ : ∃ k, n = k + 1 := ⟨n - 1, by omega⟩
    simp only [m_syntagmaref24_Norm_l1]
    cases hx : l[i]? with
    | none =>
      have := List.getElem?_eq_none_iff.1 hx
      rw [bfs_none hx, decide_eq_false (by omega), cond_false]
    | some x =>
      have hxr := hr x (List.mem_of_getElem? hx)
      have hil := getLt hx
      have hin := nxA_in ha x hxr.1 hxr.2
      have hSB := ha.ab.2 _ (stA_mem hxr.1 hxr.2)
      have hl := nextP_len _ hSB
      have hbig := ha.ab.1
      obtain ⟨e, he⟩ := addL_pre (nxA a x) l
      rw [bfs_some hx, decide_eq_true (by omega), cond_true, getI hx, Option.bind_some, stA_get hxr.1 hxr.2, Option.bind_some, rnext_eq _ hSB, Option.bind_some, show nextP (stA a x) = nxA a x from rfl, rnorm_l2_eq (N := a.l.length) (by omega) l _ hin hd hr (by unfold nxA; omega), Option.bind_some, grd_pos (by have := range_len _ _ hd hr; omega)]
      exact ih (i + 1) (addL l (nxA a x)) n (by omega) (by rw [he]; simp; omega) (addL_nodup _ _ hd) (inN_add hr hin) (by omega)
theorem norm_r1_eq {N : Nat} : ∀ (xs l3 l4 : List Int), inN N xs → l4.length = N → l3.length + xs.length ≤ 100000 → m_auto_norm_r1 xs (l3, l4) = some (l3 ++ xs, setAll l3.length xs l4)
  | [], l3, l4, _, _, _ => by simp [m_auto_norm_r1, setAll]
  | x :: xs, l3, l4, hr, hl, hb => by
    have hx := hr x (by simp)
    simp only [List.length_cons] at hb
    rw [m_auto_norm_r1, tm_get hx.1 (by omega), Option.bind_some, grd_pos (by simp only [List.length_cons, List.length_nil]; omega), norm_r1_eq xs _ _ (fun y hy => hr y (by simp [hy])) (by simpa using hl) (by simp; omega)]
    simp [setAll]
theorem rnorm_l3_eq {N : Nat} (l : List Int) (hr : inN N l) (hb : l.length ≤ 100000) (t : List Int) (ht : t.length = N) : m_syntagmaref24_Norm_l3 l FU (0, t) = some (setAll 0 l t) := by
  have := loop_fold (φ := fun n i s => m_syntagmaref24_Norm_l3 l n (i, s)) (l := l) (fun _ s => s.length = N) (fun i s x => s.set x.toNat (i : Int)) id (by
    intro n i x s hx hi hI
    have hxr := hr x (List.mem_of_getElem? hx)
    simp only [m_syntagmaref24_Norm_l3]
    rw [decide_eq_true (show (i : Int) < l.length by omega), cond_true, getI hx, Option.bind_some, tm_get hxr.1 (by omega), Option.bind_some, grd_pos (by omega)]
    exact ⟨rfl, by simpa using hI⟩) (by
    intro n s hI
    simp only [m_syntagmaref24_Norm_l3]
    rw [decide_eq_false (by omega), cond_false]; rfl) (by rw [FUv]; omega) (fun i t s => setAll i t s) (fun _ _ => rfl) (fun _ _ _ _ => rfl) t ht
  exact this.1
theorem moved_eq (l : List AutoEdge) (to : List Int) (h : l.length ≤ 40) (hr : ∀ x ∈ l, 0 ≤ x.to_ ∧ x.to_ < (to.length : Int)) : m_auto_moved l to = some (l.map (edgeM to)) := by
  unfold m_auto_moved
  rw [grd_pos (by omega)]
  refine bnd (loop_setmap (φ := fun n i s => m_auto_moved_l1 l to n (i, s)) (l := l) (edgeM to) id ?_ ?_ (by rw [FUv]; omega)) rfl
  · intro n i x s hx hi hl hs
    have hxr := hr x (List.mem_of_getElem? hx)
    simp only [m_auto_moved_l1]
    rw [decide_eq_true (show (i : Int) < l.length by omega), cond_true, getI hs, Option.bind_some, tm_get hxr.1 hxr.2, Option.bind_some, Option.bind_some, grd_pos (by omega)]
    rfl
  · intro n s hl
    simp only [m_auto_moved_l1]
    rw [decide_eq_false (by omega), cond_false]; rfl
theorem next_dom {s : AutoState} (h : s.arrow = true) : s.dom ∈ nextP s ∧ s.cod ∈ nextP s := by unfold nextP; rw [if_pos h]; simp
theorem next_f {s : AutoState} {x : AutoEdge} (h : x ∈ s.fields) : x.to_ ∈ nextP s := by
  unfold nextP; simp only [List.mem_append, List.mem_map]; exact .inl (.inr ⟨x, h, rfl⟩)
theorem next_t {s : AutoState} {x : AutoEdge} (h : x ∈ s.tags) : x.to_ ∈ nextP s := by
  unfold nextP; simp only [List.mem_append, List.mem_map]; exact .inr ⟨x, h, rfl⟩
theorem norm_l2_eq {a : AutoAuto} (ha : Led a) (l to : List Int) (hr : inN a.l.length l) (hb : l.length ≤ 100000) (ht : to.length = a.l.length) : m_auto_norm_l2 a l to FU (0, [], 0) = some (l.map (fun k => stateM to (stA a k)), 0) := by
  have := loop_map (φ := fun n i s => m_auto_norm_l2 a l to n (i, s, 0)) (l := l) (fun k => stateM to (stA a k)) (fun s => (s, (0 : Int))) 0 (by
    intro n i x s hx hi hs
    have hxr := hr x (List.mem_of_getElem? hx)
    have hnx := nxA_in ha x hxr.1 hxr.2
    have hSB := ha.ab.2 _ (stA_mem hxr.1 hxr.2)
    obtain ⟨b1, b2, b3⟩ := hSB
    simp only [m_auto_norm_l2]
    rw [decide_eq_true (show (i : Int) < l.length by omega), cond_true, getI hx, Option.bind_some, stA_get hxr.1 hxr.2, Option.bind_some]
    generalize hS : stA a x = S at *
    replace hnx : inN a.l.length (nextP S) := by rw [← hS]; exact hnx
    rw [bind_of (x := (S.plus, S.all, S.int, S.bool, S.str, S.arrow, S.rec_, S.tag, S.vars, (if S.arrow = true then tm to S.dom else S.dom), (if S.arrow = true then tm to S.cod else S.cod), S.fields, S.tags))]
    rotate_left
    · cases h : S.arrow with
      | false => rfl
      | true =>
        have hd := next_dom h
        rw [cond_true, tm_get (hnx _ hd.1).1 (by rw [ht]; exact (hnx _ hd.1).2), Option.bind_some, tm_get (hnx _ hd.2).1 (by rw [ht]; exact (hnx _ hd.2).2), Option.bind_some]
        rfl
    simp only
    rw [grd_pos (by omega), moved_eq _ _ b2 (fun y hy => by rw [ht]; exact hnx _ (next_f hy)), Option.bind_some, moved_eq _ _ b3 (fun y hy => by rw [ht]; exact hnx _ (next_t hy)), Option.bind_some, grd_pos (by simp only [List.length_cons, List.length_nil]; omega), grd_pos (by omega)]
    rfl) (by
    intro n s hs
    simp only [m_auto_norm_l2]
    rw [decide_eq_false (by omega), cond_false]) (by rw [FUv]; omega) [] rfl
  exact this
theorem norm_eq {a : AutoAuto} (ha : Led a) : m_auto_norm a = some (normP a) := by
  have hb := ha.ab.1
  unfold m_auto_norm
  rw [grd_pos (by omega), grd_pos (by omega), reached_eq ha, Option.bind_some, Int.toNat_natCast]
  have hok := order_ok ha
  have hlen := order_len ha
  rw [norm_r1_eq (orderP a) [] _ hok.2.1 (by simp) (by simp; omega), Option.bind_some]
  simp only [List.nil_append, List.length_nil]
  rw [norm_l2_eq ha (orderP a) (setAll 0 (orderP a) (List.replicate a.l.length 0)) hok.2.1 (by omega) (to_len ha), Option.bind_some]
  rfl
theorem rMoved_eq (s : AutoState) (to : List Int) (h : SB s) (hr : inN to.length (nextP s)) : m_syntagmaref24_Moved s to = some (stateM to s) := by
  obtain ⟨b1, b2, b3⟩ := h
  unfold m_syntagmaref24_Moved
  rw [bind_of (x := (s.plus, s.all, s.int, s.bool, s.str, s.arrow, s.rec_, s.tag, s.vars, (if s.arrow = true then tm to s.dom else s.dom), (if s.arrow = true then tm to s.cod else s.cod), s.fields, s.tags))]
  rotate_left
  · cases h : s.arrow with
    | false => rfl
    | true =>
      have hd := next_dom h
      rw [cond_true, tm_get (hr _ hd.1).1 (hr _ hd.1).2, Option.bind_some, tm_get (hr _ hd.2).1 (hr _ hd.2).2, Option.bind_some]
      rfl
  simp only
  generalize hdd : (if s.arrow = true then tm to s.dom else s.dom) = dd
  generalize hcc : (if s.arrow = true then tm to s.cod else s.cod) = cc
  have e1 := loop_map (φ := fun n i t => m_syntagmaref24_Moved_l1 s to n (i, [], t, s.plus, s.all, s.int, s.bool, s.str, s.arrow, s.rec_, s.tag, s.vars, dd, cc)) (l := s.fields) (edgeM to) (fun t => (([] : List AutoEdge), t, s.plus, s.all, s.int, s.bool, s.str, s.arrow, s.rec_, s.tag, s.vars, dd, cc)) 0 (by
    intro n i x t hx hi ht
    have hxr := hr _ (next_f (List.mem_of_getElem? hx))
    simp only [m_syntagmaref24_Moved_l1]
    rw [decide_eq_true (show (i : Int) < s.fields.length by omega), cond_true, getI hx, Option.bind_some, Option.bind_some, tm_get hxr.1 hxr.2, Option.bind_some, grd_pos (by simp only [List.length_cons, List.length_nil]; omega), grd_pos (by omega)]
    rfl) (by
    intro n t ht
    simp only [m_syntagmaref24_Moved_l1]
    rw [decide_eq_false (by omega), cond_false]) (by rw [FUv]; omega) [] rfl
  rw [bind_of e1]
  simp only [List.nil_append]
  have e2 := loop_map (φ := fun n i t => m_syntagmaref24_Moved_l2 s to n (i, t, s.fields.map (edgeM to), s.plus, s.all, s.int, s.bool, s.str, s.arrow, s.rec_, s.tag, s.vars, dd, cc)) (l := s.tags) (edgeM to) (fun t => (t, s.fields.map (edgeM to), s.plus, s.all, s.int, s.bool, s.str, s.arrow, s.rec_, s.tag, s.vars, dd, cc)) 0 (by
    intro n i x t hx hi ht
    have hxr := hr _ (next_t (List.mem_of_getElem? hx))
    simp only [m_syntagmaref24_Moved_l2]
    rw [decide_eq_true (show (i : Int) < s.tags.length by omega), cond_true, getI hx, Option.bind_some, Option.bind_some, tm_get hxr.1 hxr.2, Option.bind_some, grd_pos (by simp only [List.length_cons, List.length_nil]; omega), grd_pos (by omega)]
    rfl) (by
    intro n t ht
    simp only [m_syntagmaref24_Moved_l2]
    rw [decide_eq_false (by omega), cond_false]) (by rw [FUv]; omega) [] rfl
  rw [bind_of e2]
  unfold stateM
  rw [hdd, hcc]
  rfl
theorem rnorm_eq {a : AutoAuto} (ha : Led a) : m_syntagmaref24_Norm a = some (normP a) := by
  have hb := ha.ab.1
  unfold m_syntagmaref24_Norm
  have e1 : m_syntagmaref24_Norm_l1 a FU (0, [a.start]) = some (bfs (nxA a) a.l.length 0 [a.start]) := rnorm_l1_eq ha a.l.length 0 [a.start] FU (by omega) (by simp) (by simp) (start_in ha) (by rw [FUv]; omega)
  have hok := order_ok ha
  have hlen := order_len ha
  rw [bind_of e1, show bfs (nxA a) a.l.length 0 [a.start] = orderP a from rfl, grd_pos (by omega), grd_pos (by omega), Int.toNat_natCast, rnorm_l3_eq (N := a.l.length) _ hok.2.1 (by omega) _ (by simp), Option.bind_some, show setAll 0 (orderP a) (List.replicate a.l.length 0) = toP a from rfl]
  have e2 := loop_map (φ := fun n i s => m_syntagmaref24_Norm_l4 a (orderP a) (toP a) n (i, s, 0)) (l := orderP a) (fun k => stateM (toP a) (stA a k)) (fun s => (s, (0 : Int))) 0 (by
    intro n i x s hx hi hs
    have hxr := hok.2.1 x (List.mem_of_getElem? hx)
    simp only [m_syntagmaref24_Norm_l4]
    rw [decide_eq_true (show (i : Int) < (orderP a).length by omega), cond_true, getI hx, Option.bind_some, stA_get hxr.1 hxr.2, Option.bind_some, rMoved_eq _ _ (ha.ab.2 _ (stA_mem hxr.1 hxr.2)) (by rw [to_len ha]; exact nxA_in ha x hxr.1 hxr.2), Option.bind_some, grd_pos (by simp only [List.length_cons, List.length_nil]; omega), grd_pos (by omega)]) (by
    intro n s hs
    simp only [m_syntagmaref24_Norm_l4]
    rw [decide_eq_false (by omega), cond_false]) (by rw [FUv]; omega) [] rfl
  rw [bind_of e2]
  rfl
end Go.Proofs.Ytfcifodaohhcbaa
