/- Part C05m of the proof: contracts of the functions that are walked, and what they compute; no condition. -/
import Derived.Test.YtnnjgbcojdnhhaaC05e
set_option linter.unusedVariables false
set_option linter.unusedSimpArgs false
set_option maxRecDepth 100000
namespace Go.Proofs.Ytnnjgbcojdnhhaa
open Go.V
open Classical
theorem sameInts_eq (a b : List Int) (h : a.length ≤ 3000) : m_syntagmabase_SameInts a b = some (decide (a = b)) := by
  unfold m_syntagmabase_SameInts
  simp only [Bool.cond_eq_ite, Bool.not_eq_true', decide_eq_false_iff_not]
  by_cases hl : a.length = b.length
  · rw [if_neg (by omega)]
    refine bnd (loop_all (φ := m_syntagmabase_SameInts_l1 a b) (l := a) false (fun i x => b[i]? = some x) ?_ ?_ (by rw [FUv]; omega)) ?_
    · intro n i x hx hi
      simp only [m_syntagmabase_SameInts_l1]
      have hy : b[i]? = some b[i] := List.getElem?_eq_getElem (by omega)
      rw [decide_eq_true (by omega), cond_true, getI hx, Option.bind_some, getI hy, Option.bind_some, hy]
      simp only [Bool.cond_eq_ite, Bool.not_eq_true', decide_eq_false_iff_not]
      constructor
      · intro h; rw [if_neg (by simpa using (Option.some.inj h).symm), grd_pos (by omega)]
      · intro h; rw [if_pos (by intro h2; exact h (by rw [h2]))]
    · intro n
      simp only [m_syntagmabase_SameInts_l1]
      rw [decide_eq_false (by omega), cond_false]
    · by_cases h3 : a = b
      · subst h3
        rw [if_pos (fun i x h => h), decide_eq_true rfl]; rfl
      · rw [if_neg, decide_eq_false h3]; rfl
        intro h4
        refine h3 (List.ext_getElem? fun i => ?_)
        by_cases hi : i < a.length
        · rw [h4 i a[i] (List.getElem?_eq_getElem hi), List.getElem?_eq_getElem hi]
        · rw [List.getElem?_eq_none (by omega), List.getElem?_eq_none (by omega)]
  · rw [if_pos (by omega), decide_eq_false (fun h => hl (by rw [h]))]
theorem works_eq : m_syntagmalaw05_works = some true := by decide +kernel
theorem law_TreeMays (e : ApiExpr) (n : ApiNode) : m_syntagmalaw05_TreeMays e n = some true := by
  unfold m_syntagmalaw05_TreeMays
  have hl := fewE_len e
  have hN := fewE_nb e
  have h60 : (n.l.take 60).length ≤ 60 := by rw [List.length_take]; omega
  rw [show m_syntagmalaw05_Few (⟨e.l⟩ : ApiExpr) = some (fewE e) from few_eq e, Option.bind_some, min60, Option.bind_some, grd_pos (by omega)]
  rw [show (⟨(fewE e).l⟩ : ApiExpr) = fewE e from rfl, rmay_eq _ (by omega) hN, Option.bind_some, few_eq, fewE_fewE]
  have hd : ((bif decide (mayT (fewE e).l = 0) then grd (InR (((fewE e).l.length : Int) - 1)) ((m_syntagmaref05_Depth FU (fewE e) (((fewE e).l.length : Int) - 1)).bind fun x3 => some x3) else some 0) : Option Int) = some (depT (fewE e).l) := by
    unfold depT
    by_cases h : mayT (fewE e).l = 0
    · obtain ⟨h1, h2, h3⟩ := mayT_ok h
      rw [decide_eq_true h, if_pos h, cond_true, grd_pos (by omega), show (((fewE e).l.length : Int) - 1) = (((fewE e).l.length - 1 : Nat) : Int) by omega, depthR _ (by omega) hN h3 FU _ (by rw [FUv]; omega) (by omega), Option.bind_some]
    · rw [decide_eq_false h, if_neg h, cond_false]
  rw [hd, Option.bind_some, Option.bind_some, may_eq _ (by omega) hN, Option.bind_some, decide_eq_true rfl, cond_true, Option.bind_some, depth_eq _ (by omega) hN, Option.bind_some, decide_eq_true rfl, cond_true]
  rw [show (⟨n.kind, n.a, n.b, n.c, n.n_, n.name, n.s, [] ++ n.l.take 60, n.pos⟩ : ApiNode) = fewN n from rfl, kids_eq _ (fewN_nb n), Option.bind_some, rkids_eq _ (fewN_nb n), Option.bind_some]
  have hk := kids_len _ (fewN_nb n)
  rw [sameInts_eq _ _ (by omega), Option.bind_some, decide_eq_true rfl, cond_true, works_eq]
  rfl
end Go.Proofs.Ytnnjgbcojdnhhaa
