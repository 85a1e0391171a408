/- Part C24e of the proof: contracts of the functions that are walked, and what they compute; no condition. -/
import Derived.Test.YtfcifodaohhcbaaC24d
set_option linter.unusedVariables false
set_option linter.unusedSimpArgs false
set_option maxRecDepth 100000
namespace Go.Proofs.Ytfcifodaohhcbaa
open Go.V
open Classical
theorem on_bd {a : AutoAuto} {k : Int} {p : Bool} (h : onP a k p = true) : ∃ s, idx a.l k = some s ∧ s.plus = p := by
  unfold onP at h
  cases hx : idx a.l k with
  | none => rw [hx] at h; cases h
  | some s => rw [hx] at h; exact ⟨s, rfl, by simpa using h⟩
theorem may_ok {a : AutoAuto} (h : mayP a = 0) : 0 < a.l.length ∧ a.l.length ≤ 2000 ∧ (∀ s ∈ a.l, rightP a s) ∧ onP a a.start true = true := by
  unfold mayP at h
  split at h
  · omega
  · split at h
    · rename_i h1 h2
      exact ⟨by omega, by omega, h2.1, h2.2⟩
    · omega
theorem may_of {a : AutoAuto} (h1 : 0 < a.l.length) (h2 : a.l.length ≤ 2000) (h3 : ∀ s ∈ a.l, rightP a s) (h4 : onP a a.start true = true) : mayP a = 0 := by
  unfold mayP
  rw [if_neg (by omega), if_pos ⟨h3, h4⟩]
theorem led_of {a : AutoAuto} (h : AB a) (hm : mayP a = 0) : Led a := by
  obtain ⟨h1, h2, h3, h4⟩ := may_ok hm
  refine ⟨h, ?_, ?_⟩
  · intro k s hs x hx
    obtain ⟨i, hi, hxi⟩ := List.getElem_of_mem hx
    obtain ⟨_, hs2⟩ := idx_some hs
    have := (h3 s (List.mem_of_getElem? hs2)).2.2.2.2 i x (by rw [← hxi]; exact List.getElem?_eq_getElem hi)
    obtain ⟨s', h5, _⟩ := on_bd this
    exact idx_bd h5
  · obtain ⟨s', h5, _⟩ := on_bd h4
    exact idx_bd h5
theorem stateM_SB {to : List Int} {s : AutoState} (h : SB s) : SB (stateM to s) := by
  obtain ⟨h1, h2, h3⟩ := h
  exact ⟨h1, by simpa [stateM] using h2, by simpa [stateM] using h3⟩
theorem norm_AB {a : AutoAuto} (ha : Led a) : AB (normP a) := by
  refine ⟨by simpa [normP] using order_len ha, ?_⟩
  intro s hs
  simp only [normP, List.mem_map] at hs
  obtain ⟨k, hk, rfl⟩ := hs
  have := (order_ok ha).2.1 k hk
  exact stateM_SB (ha.ab.2 _ (stA_mem this.1 this.2))
theorem Norm_ok {a : AutoAuto} (h : AB a) (hm : mayP a = 0) : m_auto_Norm a = some (normP a, 0) := by
  unfold m_auto_Norm
  rw [may_eq a h, Option.bind_some, hm, show (!decide ((0 : Int) = 0)) = false from rfl, cond_false, norm_eq (led_of h hm)]
  rfl
theorem Norm_no {a : AutoAuto} (h : AB a) (hm : ¬ mayP a = 0) : m_auto_Norm a = some (⟨[], 0⟩, mayP a) := by
  unfold m_auto_Norm
  rw [may_eq a h, Option.bind_some, decide_eq_false hm, Bool.not_false, cond_true]
def sameP (a b : AutoAuto) : Prop := mayP a = 0 ∧ mayP b = 0 ∧ normP a = normP b
theorem Same_eq {a b : AutoAuto} (ha : AB a) (hb : AB b) : m_auto_Same a b = some (decide (sameP a b)) := by
  unfold m_auto_Same
  by_cases h1 : mayP a = 0
  · rw [Norm_ok ha h1]
    by_cases h2 : mayP b = 0
    · rw [Norm_ok hb h2]
      simp only [Option.bind_some]
      have hn := norm_AB (led_of ha h1)
      simp only [decide_true, Bool.and_self, cond_true]
      rw [eqStates_eq _ _ (by have := hn.1; omega) hn.2, Option.bind_some, Option.bind_some]
      congr 1
      refine decide_eq_decide.2 ⟨fun h => ⟨h1, h2, (auto_iff _ _).2 ⟨h, rfl⟩⟩, fun h => by rw [h.2.2]⟩
    · rw [Norm_no hb h2, decide_eq_false (p := sameP a b) (fun h => h2 h.2.1)]
      simp only [Option.bind_some]
      rw [decide_eq_false h2, Bool.and_false]; rfl
  · rw [Norm_no ha h1, decide_eq_false (p := sameP a b) (fun h => h1 h.1)]
    by_cases h2 : mayP b = 0
    · rw [Norm_ok hb h2]
      simp only [Option.bind_some]
      rw [decide_eq_false h1, Bool.false_and]; rfl
    · rw [Norm_no hb h2]
      simp only [Option.bind_some]
      rw [decide_eq_false h1, Bool.false_and]; rfl
theorem rSame_eq {a b : AutoAuto} (ha : AB a) (hb : AB b) : m_syntagmaref24_Same a b = some (decide (sameP a b)) := by
  unfold m_syntagmaref24_Same
  rw [rmay_eq a ha, Option.bind_some, rmay_eq b hb]
  by_cases h1 : mayP a = 0
  · rw [decide_eq_true h1, cond_true, Option.bind_some]
    by_cases h2 : mayP b = 0
    · have hn := norm_AB (led_of ha h1)
      rw [decide_eq_true h2, cond_true, rnorm_eq (led_of ha h1), Option.bind_some, rnorm_eq (led_of hb h2), Option.bind_some, sameList_eq _ _ hn, Option.bind_some]
      congr 1
      exact decide_eq_decide.2 ⟨fun h => ⟨h1, h2, h⟩, fun h => h.2.2⟩
    · rw [decide_eq_false h2, decide_eq_false (p := sameP a b) (fun h => h2 h.2.1)]; rfl
  · rw [decide_eq_false h1, decide_eq_false (p := sameP a b) (fun h => h1 h.1)]; rfl
/-! Give, Of -/
theorem edge_eta (x : AutoEdge) : (⟨x.name, x.to_⟩ : AutoEdge) = x := rfl
theorem give_eq (a : AutoAuto) : ∃ x, m_syntagmalaw24_Give a 30 = some x ∧ AB x := by
  unfold m_syntagmalaw24_Give
  have key : ∀ n (i : Nat) (s : List AutoState), i ≤ 2001 → 2001 - i < n → s.length = i → (∀ t ∈ s, SB t) → ∃ s', m_syntagmalaw24_Give_l1 a 30 n ((i : Int), s, a.start) = some (s', a.start) ∧ s'.length ≤ 2001 ∧ ∀ t ∈ s', SB t := by
    intro n
    induction n with
    | zero => intro i s _ h; omega
    | succ n ih =>
      intro i s hi hn hs hSB
      simp only [m_syntagmalaw24_Give_l1]
      by_cases hc : i < a.l.length ∧ (i < 30 ∨ (2000 < a.l.length ∧ i ≤ 2000))
      rotate_left
      · rw [show ((decide ((i : Int) < (a.l.length : Int))) && ((decide ((i : Int) < 30)) || ((decide (2000 < (a.l.length : Int))) && (decide ((i : Int) ≤ 2000))))) = false by
          rw [← Bool.not_eq_true]; simp only [Bool.and_eq_true, Bool.or_eq_true, decide_eq_true_eq]; omega, cond_false]
        exact ⟨s, rfl, by omega, hSB⟩
      · rw [show ((decide ((i : Int) < (a.l.length : Int))) && ((decide ((i : Int) < 30)) || ((decide (2000 < (a.l.length : Int))) && (decide ((i : Int) ≤ 2000))))) = true by
          simp only [Bool.and_eq_true, Bool.or_eq_true, decide_eq_true_eq]; omega, cond_true]
        have hx : a.l[i]? = some a.l[i] := List.getElem?_eq_getElem hc.1
        generalize a.l[i] = x at hx
        have hv : sli x.vars 0 (if 40 < (x.vars.length : Int) then 40 else (x.vars.length : Int)) = some (x.vars.take (min 40 x.vars.length)) := by
          have := minL 40 x.vars
          rw [show (if 40 < (x.vars.length : Int) then 40 else (x.vars.length : Int)) = ((min 40 x.vars.length : Nat) : Int) from this, sli_take (by omega)]
        rw [getI hx, Option.bind_some, hv, Option.bind_some, ints_eq _ (by simp; omega), Option.bind_some]
        generalize hvs : x.vars.take (min 40 x.vars.length) = vs
        have hvl : vs.length ≤ 40 := by rw [← hvs]; simp; omega
        have e1 : ∀ n (k : Nat) (t : List AutoEdge), k ≤ 40 → 40 - k < n → t.length = k → ∃ t', m_syntagmalaw24_Give_l2 x n ((k : Int), [], t, x.plus, x.all, x.int, x.bool, x.str, x.arrow, x.rec_, x.tag, vs, x.dom, x.cod) = some ([], t', x.plus, x.all, x.int, x.bool, x.str, x.arrow, x.rec_, x.tag, vs, x.dom, x.cod) ∧ t'.length ≤ 40 := by
          intro n
          induction n with
          | zero => intro k t _ h; omega
          | succ n ih =>
            intro k t hk hn ht
            simp only [m_syntagmalaw24_Give_l2]
            by_cases hc : k < x.fields.length ∧ k < 40
            rotate_left
            · rw [show ((decide ((k : Int) < (x.fields.length : Int))) && (decide ((k : Int) < 40))) = false by
                rw [← Bool.not_eq_true]; simp only [Bool.and_eq_true, decide_eq_true_eq]; omega, cond_false]
              exact ⟨t, rfl, by omega⟩
            · rw [show ((decide ((k : Int) < (x.fields.length : Int))) && (decide ((k : Int) < 40))) = true by
                simp only [Bool.and_eq_true, decide_eq_true_eq]; omega, cond_true, getI (List.getElem?_eq_getElem hc.1), Option.bind_some, Option.bind_some, grd_pos (by simp only [List.length_cons, List.length_nil]; omega), grd_pos (by omega)]
              exact ih (k + 1) _ (by omega) (by omega) (by simp; omega)
        obtain ⟨fs, e1, hfs⟩ := e1 FU 0 [] (by omega) (by rw [FUv]; omega) rfl
        rw [show ((0 : Nat) : Int) = 0 from rfl] at e1
        rw [bind_of e1]
        simp only
        have e2 : ∀ n (k : Nat) (t : List AutoEdge), k ≤ 40 → 40 - k < n → t.length = k → ∃ t', m_syntagmalaw24_Give_l3 x n ((k : Int), t, fs, x.plus, x.all, x.int, x.bool, x.str, x.arrow, x.rec_, x.tag, vs, x.dom, x.cod) = some (t', fs, x.plus, x.all, x.int, x.bool, x.str, x.arrow, x.rec_, x.tag, vs, x.dom, x.cod) ∧ t'.length ≤ 40 := by
          intro n
          induction n with
          | zero => intro k t _ h; omega
          | succ n ih =>
            intro k t hk hn ht
            simp only [m_syntagmalaw24_Give_l3]
            by_cases hc : k < x.tags.length ∧ k < 40
            rotate_left
            · rw [show ((decide ((k : Int) < (x.tags.length : Int))) && (decide ((k : Int) < 40))) = false by
                rw [← Bool.not_eq_true]; simp only [Bool.and_eq_true, decide_eq_true_eq]; omega, cond_false]
              exact ⟨t, rfl, by omega⟩
            · rw [show ((decide ((k : Int) < (x.tags.length : Int))) && (decide ((k : Int) < 40))) = true by
                simp only [Bool.and_eq_true, decide_eq_true_eq]; omega, cond_true, getI (List.getElem?_eq_getElem hc.1), Option.bind_some, Option.bind_some, grd_pos (by simp only [List.length_cons, List.length_nil]; omega), grd_pos (by omega)]
              exact ih (k + 1) _ (by omega) (by omega) (by simp; omega)
        obtain ⟨ts, e2, hts⟩ := e2 FU 0 [] (by omega) (by rw [FUv]; omega) rfl
        rw [show ((0 : Nat) : Int) = 0 from rfl] at e2
        rw [bind_of e2]
        simp only
        rw [grd_pos (by simp only [List.length_cons, List.length_nil]; omega), grd_pos (by omega)]
        refine ih (i + 1) _ (by omega) (by omega) (by simp; omega) ?_
        intro t ht
        simp only [List.mem_append, List.mem_singleton] at ht
        rcases ht with ht | rfl
        · exact hSB t ht
        · exact ⟨hvl, hfs, hts⟩
  obtain ⟨s', h1, h2, h3⟩ := key FU 0 [] (by omega) (by rw [FUv]; omega) rfl (by simp)
  rw [show ((0 : Nat) : Int) = 0 from rfl] at h1
  rw [bind_of h1]
  exact ⟨_, rfl, h2, h3⟩
theorem of_eq (a : AutoAuto) (h : AB a) : m_syntagmalaw24_Of a = some a := by
  obtain ⟨h, hs⟩ := h
  unfold m_syntagmalaw24_Of
  have e := loop_map (φ := fun n i s => m_syntagmalaw24_Of_l1 a n (i, s, a.start)) (l := a.l) id (fun s => (s, a.start)) 0 (by
    intro n i x s hx hi hlen
    obtain ⟨b1, b2, b3⟩ := hs x (List.mem_of_getElem? hx)
    simp only [m_syntagmalaw24_Of_l1]
    rw [decide_eq_true (show (i : Int) < a.l.length by omega), cond_true, getI hx, Option.bind_some, ints_eq _ (by omega), Option.bind_some]
    have e1 := loop_map (φ := fun n i t => m_syntagmalaw24_Of_l2 x n (i, [], t, x.plus, x.all, x.int, x.bool, x.str, x.arrow, x.rec_, x.tag, x.vars, x.dom, x.cod)) (l := x.fields) id (fun t => (([] : List AutoEdge), t, x.plus, x.all, x.int, x.bool, x.str, x.arrow, x.rec_, x.tag, x.vars, x.dom, x.cod)) 0 (by
      intro n i y t hy hi ht
      simp only [m_syntagmalaw24_Of_l2]
      rw [decide_eq_true (show (i : Int) < x.fields.length by omega), cond_true, getI hy, Option.bind_some, Option.bind_some, grd_pos (by simp only [List.length_cons, List.length_nil]; omega), grd_pos (by omega)]
      rfl) (by
      intro n t ht
      simp only [m_syntagmalaw24_Of_l2]
      rw [decide_eq_false (by omega), cond_false]) (by rw [FUv]; omega) [] rfl
    rw [bind_of e1]
    simp only [List.nil_append, List.map_id]
    have e2 := loop_map (φ := fun n i t => m_syntagmalaw24_Of_l3 x n (i, t, x.fields, x.plus, x.all, x.int, x.bool, x.str, x.arrow, x.rec_, x.tag, x.vars, x.dom, x.cod)) (l := x.tags) id (fun t => (t, x.fields, x.plus, x.all, x.int, x.bool, x.str, x.arrow, x.rec_, x.tag, x.vars, x.dom, x.cod)) 0 (by
      intro n i y t hy hi ht
      simp only [m_syntagmalaw24_Of_l3]
      rw [decide_eq_true (show (i : Int) < x.tags.length by omega), cond_true, getI hy, Option.bind_some, Option.bind_some, grd_pos (by simp only [List.length_cons, List.length_nil]; omega), grd_pos (by omega)]
      rfl) (by
      intro n t ht
      simp only [m_syntagmalaw24_Of_l3]
      rw [decide_eq_false (by omega), cond_false]) (by rw [FUv]; omega) [] rfl
    rw [bind_of e2]
    simp only [List.nil_append, List.map_id]
    rw [grd_pos (by simp only [List.length_cons, List.length_nil]; omega), grd_pos (by omega)]
    rfl) (by
    intro n s hlen
    simp only [m_syntagmalaw24_Of_l1]
    rw [decide_eq_false (by omega), cond_false]) (by rw [FUv]; omega) [] rfl
  rw [bind_of e]
  simp
theorem works_eq : m_syntagmalaw24_works = some true := by rfl
theorem among_eq (x : Int) (n : Nat) (h : 0 < n) (h2 : n ≤ 1000000) : ∃ k : Nat, k < n ∧ m_syntagmabase_Among x (n : Int) = some (k : Int) := by
  unfold m_syntagmabase_Among
  have hw : IntKind.u64.wrap (n : Int) = n := by
    simp only [IntKind.wrap, IntKind.bits, IntKind.signed]; simp; omega
  have h0 : 0 ≤ IntKind.u64.wrap x := by
    simp only [IntKind.wrap, IntKind.bits, IntKind.signed]; simp; omega
  rw [decide_eq_false (by omega), cond_false, hw, grd_pos (by omega)]
  have h3 : (IntKind.u64.wrap x).tmod n < n := Int.tmod_lt_of_pos _ (by omega)
  have h4 : 0 ≤ (IntKind.u64.wrap x).tmod n := Int.tmod_nonneg _ h0
  refine ⟨((IntKind.u64.wrap x).tmod n).toNat, by omega, ?_⟩
  rw [i64_id (by omega)]
  congr 1
  omega
theorem law_AutoMays (a : AutoAuto) (k : Int) : m_syntagmalaw24_AutoMays a k = some true := by
  unfold m_syntagmalaw24_AutoMays
  obtain ⟨x, hx, hab⟩ := give_eq a
  rw [hx, Option.bind_some, of_eq _ hab, Option.bind_some, may_eq _ hab, Option.bind_some, rmay_eq _ hab, Option.bind_some, decide_eq_true (show mayP ⟨x.l, x.start⟩ = mayP ⟨x.l, x.start⟩ from rfl), Bool.not_true, cond_false, works_eq]
  by_cases h0 : x.l.length = 0
  · rw [decide_eq_true (by omega)]; rfl
  · have hb := hab.1
    obtain ⟨j, hj, hj2⟩ := among_eq k x.l.length (by omega) (by omega)
    have hs : x.l[j]? = some x.l[j] := List.getElem?_eq_getElem hj
    have hSB := hab.2 _ (List.getElem_mem hj)
    have hl := nextP_len _ hSB
    rw [decide_eq_false (by omega), cond_false, hj2, Option.bind_some, getI hs, Option.bind_some, next_eq _ hSB, Option.bind_some, Option.bind_some, rnext_eq _ hSB, Option.bind_some, sameInts_eq _ _ (by omega), Option.bind_some, decide_eq_true rfl]
    rfl
theorem law_AutoNorms (a b : AutoAuto) : m_syntagmalaw24_AutoNorms a b = some true := by
  unfold m_syntagmalaw24_AutoNorms
  obtain ⟨x, hx, ha⟩ := give_eq a
  obtain ⟨y, hy, hb⟩ := give_eq b
  have hs : ∀ z : Bool, (!(z == z)) = false := fun z => by cases z <;> rfl
  rw [hx, Option.bind_some, hy, Option.bind_some, of_eq _ ha, of_eq _ hb, Same_eq ha hb, works_eq]
  by_cases hm : mayP x = 0
  · rw [Norm_ok (a := ⟨x.l, x.start⟩) ha hm]
    have hn := norm_AB (led_of ha hm)
    have e := of_eq _ hn
    simp only [Option.bind_some]
    rw [rSame_eq ha hb, rmay_eq _ ha]
    simp only [Option.bind_some]
    rw [hs, cond_false, decide_eq_true hm, Bool.not_true, cond_false]
    simp only [decide_true, cond_true]
    rw [show (⟨x.l, x.start⟩ : AutoAuto) = x from rfl, e, Option.bind_some, rnorm_eq (led_of ha hm), Option.bind_some, sameList_eq _ _ hn, Option.bind_some, decide_eq_true rfl]
    rfl
  · rw [Norm_no (a := ⟨x.l, x.start⟩) ha hm]
    simp only [Option.bind_some]
    rw [rSame_eq ha hb, rmay_eq _ ha]
    simp only [Option.bind_some]
    rw [hs, cond_false, decide_eq_false hm]
    simp
end Go.Proofs.Ytfcifodaohhcbaa
