/- Part 5 of the proof: a program logic, what the functions compute, and what these answer; no condition. -/
import Derived.Test.Ytafphfokopkhdaap4
set_option linter.unusedVariables false
set_option linter.unusedSimpArgs false
set_option maxRecDepth 100000
namespace Go.Proofs.Ytafphfokopkhdaa
open Go.V
open Classical
theorem Norm_ok {t : ApiType} (hlen : t.l.length ≤ 2001) (hN : ∀ n ∈ t.l, NB n) (h : mayT t.l t.root = 0) : m_graph_Norm t = some (⟨normL t.l t.root, 0⟩, 0) := by
  rw [Norm_eq t hlen hN]; unfold normT; rw [if_pos h]
theorem Norm_bad {t : ApiType} (hlen : t.l.length ≤ 2001) (hN : ∀ n ∈ t.l, NB n) (h : ¬ mayT t.l t.root = 0) : m_graph_Norm t = some (⟨[], 0⟩, mayT t.l t.root) := by
  rw [Norm_eq t hlen hN]; unfold normT; rw [if_neg h]
theorem At_ok {t : ApiType} {i : Int} (hlen : t.l.length ≤ 2001) (hN : ∀ n ∈ t.l, NB n) (h : mayT t.l t.root = 0) (hi : ¬ (i < 0 ∨ (t.l.length : Int) ≤ i)) : m_graph_At t i = some (⟨normL t.l i, 0⟩, 0) := by
  rw [At_eq t i hlen hN]; unfold atT; rw [if_pos h, if_neg hi]
theorem At_none {t : ApiType} {i : Int} (hlen : t.l.length ≤ 2001) (hN : ∀ n ∈ t.l, NB n) (h : mayT t.l t.root = 0) (hi : i < 0 ∨ (t.l.length : Int) ≤ i) : m_graph_At t i = some (⟨[], 0⟩, 3) := by
  rw [At_eq t i hlen hN]; unfold atT; rw [if_pos h, if_pos hi]
theorem At_bad {t : ApiType} {i : Int} (hlen : t.l.length ≤ 2001) (hN : ∀ n ∈ t.l, NB n) (h : ¬ mayT t.l t.root = 0) : m_graph_At t i = some (⟨[], 0⟩, mayT t.l t.root) := by
  rw [At_eq t i hlen hN]; unfold atT; rw [if_neg h]
theorem law_GraphNorms (a b : ApiType) (i : Int) : m_syntagmalaw13_GraphNorms a b i = some true := by
  have hla := fewT_len a
  have hNa := fewT_nb a
  have hlb := fewT_len b
  have hNb := fewT_nb b
  have hf : m_syntagmalaw13_Few (⟨(fewT a).l, (fewT a).root⟩ : ApiType) 60 = some (fewT a) := by
    rw [show (⟨(fewT a).l, (fewT a).root⟩ : ApiType) = fewT a from rfl, few_eq, fewT_fewT]
  unfold m_syntagmalaw13_GraphNorms
  rw [show m_syntagmalaw13_Few (⟨a.l, a.root⟩ : ApiType) 60 = some (fewT a) from few_eq a, Option.bind_some, show m_syntagmalaw13_Few (⟨b.l, b.root⟩ : ApiType) 60 = some (fewT b) from few_eq b, Option.bind_some, hf, Option.bind_some]
  clear hf
  generalize fewT a = x at *
  generalize fewT b = y at *
  have e1 : m_graph_Same x (⟨y.l, y.root⟩ : ApiType) = some (sameT x y) := Same_eq x y hla hNa hlb hNb
  have e2 : m_syntagmaref13_Same (⟨x.l, x.root⟩ : ApiType) (⟨y.l, y.root⟩ : ApiType) = some (sameT x y) := rSame_eq x y hla hNa hlb hNb
  have e3 : m_syntagmaref13_May (⟨x.l, x.root⟩ : ApiType) = some (mayT x.l x.root) := rmay_eq x hla hNa
  have hss : (!(sameT x y == sameT x y)) = false := by simp
  by_cases h : mayT x.l x.root = 0
  · obtain ⟨_, _, r0, r1, hA, _⟩ := mayT_ok h
    obtain ⟨n1, n2⟩ := normL_nb (allRight_in hA) hNa r0 r1
    have e4 : m_syntagmaref13_Norm (⟨x.l, x.root⟩ : ApiType) x.root = some ⟨normL x.l x.root, 0⟩ := rnorm_eq hA hNa hla r0 r1
    have hs : m_syntagmaref13_SameList (⟨normL x.l x.root, 0⟩ : ApiType) ⟨normL x.l x.root, 0⟩ = some true := by
      rw [sameList_eq _ _ (by show (normL x.l x.root).length ≤ _; omega) n1, decide_eq_true ⟨rfl, rfl⟩]
    rw [Norm_ok hla hNa h, Option.bind_some]
    dsimp only
    rw [Option.bind_some]
    by_cases hi : i < 0 ∨ (x.l.length : Int) ≤ i
    · rw [At_none hla hNa h hi, Option.bind_some]
      dsimp only
      rw [Option.bind_some, e1, Option.bind_some, e2, Option.bind_some, hss, cond_false, e3, Option.bind_some, decide_eq_true h, Bool.not_true, cond_false, show (!decide ((0 : Int) = 0)) = false by decide, cond_false, e4, Option.bind_some, hs, Option.bind_some, Bool.not_true, cond_false,
        show (decide (i < 0) || decide ((x.l.length : Int) ≤ i)) = true by rw [Bool.or_eq_true, decide_eq_true_eq, decide_eq_true_eq]; exact hi, cond_true, works13]
      rfl
    · obtain ⟨m1, m2⟩ := normL_nb (allRight_in hA) hNa (show 0 ≤ i by omega) (show i < (x.l.length : Int) by omega)
      have e5 : m_syntagmaref13_Norm (⟨x.l, x.root⟩ : ApiType) i = some ⟨normL x.l i, 0⟩ := rnorm_eq hA hNa hla (by omega) (by omega)
      have hs2 : m_syntagmaref13_SameList (⟨normL x.l i, 0⟩ : ApiType) ⟨normL x.l i, 0⟩ = some true := by
        rw [sameList_eq _ _ (by show (normL x.l i).length ≤ _; omega) m1, decide_eq_true ⟨rfl, rfl⟩]
      rw [At_ok hla hNa h hi, Option.bind_some]
      dsimp only
      rw [Option.bind_some, e1, Option.bind_some, e2, Option.bind_some, hss, cond_false, e3, Option.bind_some, decide_eq_true h, Bool.not_true, cond_false, show (!decide ((0 : Int) = 0)) = false by decide, cond_false, e4, Option.bind_some, hs, Option.bind_some, Bool.not_true, cond_false,
        show (decide (i < 0) || decide ((x.l.length : Int) ≤ i)) = false by rw [Bool.or_eq_false_iff, decide_eq_false_iff_not, decide_eq_false_iff_not]; omega, cond_false, show decide ((0 : Int) = 0) = true by decide, cond_true, e5, Option.bind_some, hs2, Option.bind_some, cond_true, works13]
      rfl
  · rw [Norm_bad hla hNa h, Option.bind_some]
    dsimp only
    rw [Option.bind_some, At_bad hla hNa h, Option.bind_some]
    dsimp only
    rw [Option.bind_some, e1, Option.bind_some, e2, Option.bind_some, hss, cond_false, e3, Option.bind_some, decide_eq_false h, Bool.not_false, cond_true, works13]
    simp [grd, InR]
end Go.Proofs.Ytafphfokopkhdaa
