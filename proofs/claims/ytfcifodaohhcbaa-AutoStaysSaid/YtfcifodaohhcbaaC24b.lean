/- Part C24b of the proof: contracts of the functions that are walked, and what they compute; no condition. -/
import Derived.Test.YtfcifodaohhcbaaC24
set_option linter.unusedVariables false
set_option linter.unusedSimpArgs false
set_option maxRecDepth 100000
namespace Go.Proofs.Ytfcifodaohhcbaa
open Go.V
open Classical
/-! Right -/
def onP (a : AutoAuto) (k : Int) (p : Bool) : Bool := match idx a.l k with | some s => s.plus == p | none => false
theorem on_eq (a : AutoAuto) (k : Int) (p : Bool) : m_auto_Auto_on a k p = some (onP a k p) := by
  unfold m_auto_Auto_on onP
  by_cases h : 0 ≤ k ∧ k < (a.l.length : Int)
  · rw [decide_eq_true h.1, decide_eq_true h.2]
    have hx : idx a.l k = some a.l[k.toNat] := by
      unfold idx
      rw [if_pos h.1]
      exact List.getElem?_eq_getElem (by omega)
    rw [hx]; rfl
  · have hx : idx a.l k = none := by
      unfold idx
      split
      · exact List.getElem?_eq_none (by omega)
      · rfl
    rw [hx]
    have : (decide (0 ≤ k) && decide (k < (a.l.length : Int))) = false := by
      rw [Bool.and_eq_false_iff, decide_eq_false_iff_not, decide_eq_false_iff_not]; omega
    rw [this]; rfl
def bareP (s : AutoState) : Bool := !(s.all && ((((((s.int || s.bool) || s.str) || s.arrow) || s.rec_) || s.tag) || (decide (0 < (s.vars.length : Int))))) && !((!s.arrow) && ((!decide (s.dom = 0)) || (!decide (s.cod = 0)))) && ((s.rec_ || (decide ((s.fields.length : Int) = 0))) && (s.tag || (decide ((s.tags.length : Int) = 0))))
theorem bare_eq (s : AutoState) : m_auto_bare s = some (bareP s) := by
  unfold m_auto_bare bareP
  cases (s.all && ((((((s.int || s.bool) || s.str) || s.arrow) || s.rec_) || s.tag) || (decide (0 < (s.vars.length : Int))))) with
  | true => rfl
  | false =>
    cases ((!s.arrow) && ((!decide (s.dom = 0)) || (!decide (s.cod = 0)))) <;> rfl
theorem rbare_eq (s : AutoState) : ((((s.all && ((((((s.int || s.bool) || s.str) || s.arrow) || s.rec_) || s.tag) || (decide (0 < (s.vars.length : Int))))) || ((!s.arrow) && ((!decide (s.dom = 0)) || (!decide (s.cod = 0))))) || ((!s.rec_) && (decide (0 < (s.fields.length : Int))))) || ((!s.tag) && (decide (0 < (s.tags.length : Int))))) = !bareP s := by
  unfold bareP
  have e1 : decide (0 < (s.fields.length : Int)) = !decide ((s.fields.length : Int) = 0) := by
    by_cases h : (s.fields.length : Int) = 0
    · rw [decide_eq_true h, decide_eq_false (by omega)]; rfl
    · rw [decide_eq_false h, decide_eq_true (by omega)]; rfl
  have e2 : decide (0 < (s.tags.length : Int)) = !decide ((s.tags.length : Int) = 0) := by
    by_cases h : (s.tags.length : Int) = 0
    · rw [decide_eq_true h, decide_eq_false (by omega)]; rfl
    · rw [decide_eq_false h, decide_eq_true (by omega)]; rfl
  rw [e1, e2]
  cases (s.all && ((((((s.int || s.bool) || s.str) || s.arrow) || s.rec_) || s.tag) || (decide (0 < (s.vars.length : Int))))) <;> cases ((!s.arrow) && ((!decide (s.dom = 0)) || (!decide (s.cod = 0)))) <;> cases s.rec_ <;> cases s.tag <;> cases decide ((s.fields.length : Int) = 0) <;> cases decide ((s.tags.length : Int) = 0) <;> rfl
def numP (l : List Int) (i : Nat) (x : Int) : Prop := 0 ≤ x ∧ x ≤ 999 ∧ (0 < i → ∀ y, l[i - 1]? = some y → y < x)
theorem prev {α : Type} {l : List α} {i : Nat} {x : α} (hx : l[i]? = some x) (h0 : 0 < i) : ∃ y, l[i - 1]? = some y ∧ idx l ((i : Int) - 1) = some y := by
  have := getLt hx
  refine ⟨l[i - 1], List.getElem?_eq_getElem (by omega), ?_⟩
  rw [show (i : Int) - 1 = ((i - 1 : Nat) : Int) by omega, idx_nat]
  exact List.getElem?_eq_getElem (by omega)
theorem numbered_eq (l : List Int) (h : l.length ≤ 40) : m_auto_numbered l = some (decide (∀ i x, l[i]? = some x → numP l i x)) := by
  unfold m_auto_numbered
  refine bnd (loop_all (φ := m_auto_numbered_l1 l) (l := l) false (numP l) ?_ ?_ (by rw [FUv]; omega)) ?_
  · intro n i x hx hi
    simp only [m_auto_numbered_l1]
    rw [decide_eq_true (show (i : Int) < l.length by omega), cond_true, getI hx, Option.bind_some]
    by_cases h1 : x < 0 ∨ 999 < x
    · rw [show (decide (x < 0) || decide (999 < x)) = true by simpa using h1, cond_true, Option.bind_some, cond_true]
      exact ⟨fun hq => by obtain ⟨h2, h3, _⟩ := hq; omega, fun _ => rfl⟩
    · rw [show (decide (x < 0) || decide (999 < x)) = false by simpa using h1, cond_false]
      by_cases h0 : 0 < i
      · obtain ⟨y, hy, hy2⟩ := prev hx h0
        rw [decide_eq_true (show 0 < (i : Int) by omega), cond_true, grd_pos (by omega), hy2]
        simp only [Option.bind_some]
        by_cases h2 : x ≤ y
        · rw [decide_eq_true h2, cond_true]
          exact ⟨fun hq => by have := hq.2.2 h0 y hy; omega, fun _ => rfl⟩
        · rw [decide_eq_false h2, cond_false, grd_pos (by omega)]
          refine ⟨fun _ => rfl, fun hq => absurd ⟨by omega, by omega, fun _ z hz => ?_⟩ hq⟩
          rw [hy] at hz
          have := Option.some.inj hz
          omega
      · rw [decide_eq_false (show ¬ 0 < (i : Int) by omega), cond_false]
        rw [Option.bind_some, Option.bind_some, cond_false, grd_pos (by omega)]
        exact ⟨fun _ => rfl, fun hq => absurd ⟨by omega, by omega, fun h3 => absurd h3 h0⟩ hq⟩
  · intro n
    simp only [m_auto_numbered_l1]
    rw [decide_eq_false (by omega), cond_false]
  · by_cases hp : ∀ i x, l[i]? = some x → numP l i x
    · rw [if_pos hp, decide_eq_true hp]; rfl
    · rw [if_neg hp, decide_eq_false hp]; rfl
def edgeP (isN : List UInt8 → Bool) (l : List AutoEdge) (i : Nat) (x : AutoEdge) : Prop := isN x.name = true ∧ (0 < i → ∀ y, l[i - 1]? = some y → Op.bytesLess y.name x.name = true)
def edgesP (isN : List UInt8 → Bool) (l : List AutoEdge) : Prop := (∀ i x, l[i]? = some x → edgeP isN l i x) ∧ l.length ≤ 30
theorem named_eq (l : List AutoEdge) (f : List UInt8 → Option Bool) (isN : List UInt8 → Bool) (hf : ∀ s, f s = some (isN s)) (h : l.length ≤ 40) : m_auto_named l f = some (decide (edgesP isN l)) := by
  unfold m_auto_named
  refine bnd (loop_all (φ := m_auto_named_l1 l f) (l := l) false (edgeP isN l) ?_ ?_ (by rw [FUv]; omega)) ?_
  · intro n i x hx hi
    simp only [m_auto_named_l1]
    rw [decide_eq_true (show (i : Int) < l.length by omega), cond_true, getI hx, Option.bind_some, hf, Option.bind_some]
    cases h1 : isN x.name with
    | false => exact ⟨fun hq => absurd hq.1 (by rw [h1]; simp), fun _ => rfl⟩
    | true =>
      rw [Bool.not_true, cond_false]
      by_cases h0 : 0 < i
      · obtain ⟨y, hy, hy2⟩ := prev hx h0
        rw [decide_eq_true (show 0 < (i : Int) by omega), cond_true, grd_pos (by omega), hy2]
        simp only [Option.bind_some]
        cases h2 : Op.bytesLess y.name x.name with
        | false =>
          rw [Bool.not_false, cond_true]
          exact ⟨fun hq => absurd (hq.2 h0 y hy) (by rw [h2]; simp), fun _ => rfl⟩
        | true =>
          rw [Bool.not_true, cond_false, grd_pos (by omega)]
          refine ⟨fun _ => rfl, fun hq => absurd ⟨h1, fun _ z hz => ?_⟩ hq⟩
          rw [hy] at hz
          rw [← Option.some.inj hz]; exact h2
      · rw [decide_eq_false (show ¬ 0 < (i : Int) by omega), cond_false, grd_pos (by omega)]
        exact ⟨fun _ => rfl, fun hq => absurd ⟨h1, fun h3 => absurd h3 h0⟩ hq⟩
  · intro n
    simp only [m_auto_named_l1]
    rw [decide_eq_false (by omega), cond_false]
  · by_cases hp : ∀ i x, l[i]? = some x → edgeP isN l i x
    · rw [if_pos hp]
      show some (decide _) = _
      congr 1
      exact decide_eq_decide.2 ⟨fun h2 => ⟨hp, by omega⟩, fun h2 => by have := h2.2; omega⟩
    · rw [if_neg hp, decide_eq_false (p := edgesP isN l) (fun h2 => hp h2.1)]; rfl
def isNT (t : Bool) (s : List UInt8) : Bool := bif t then tagP s else nameP s
theorem redges_eq (l : List AutoEdge) (t : Bool) (h : l.length ≤ 40) : m_syntagmaref24_edges l t = some (decide (edgesP (isNT t) l)) := by
  unfold m_syntagmaref24_edges
  refine bnd (loop_all (φ := m_syntagmaref24_edges_l1 l t) (l := l) false (edgeP (isNT t) l) ?_ ?_ (by rw [FUv]; omega)) ?_
  · intro n i x hx hi
    simp only [m_syntagmaref24_edges_l1]
    rw [decide_eq_true (show (i : Int) < l.length by omega), cond_true, getI hx, Option.bind_some]
    have e1 : ((bif (!t) then ((m_syntagmaref03_Name x.name).bind fun x2 => some (!x2)) else (some false)).bind fun p1 => (bif p1 then (some true) else ((bif t then ((m_syntagmaref03_Tag x.name).bind fun x3 => some (!x3)) else (some false)).bind fun p3 => some p3))) = some (!isNT t x.name) := by
      rw [rname_eq, rtag_eq]
      unfold isNT
      cases t <;> cases nameP x.name <;> cases tagP x.name <;> rfl
    rw [← Option.bind_assoc, e1, Option.bind_some]
    cases h1 : isNT t x.name with
    | false => exact ⟨fun hq => absurd hq.1 (by rw [h1]; simp), fun _ => rfl⟩
    | true =>
      rw [Bool.not_true, cond_false]
      by_cases h0 : 0 < i
      · obtain ⟨y, hy, hy2⟩ := prev hx h0
        rw [decide_eq_true (show 0 < (i : Int) by omega), cond_true, grd_pos (by omega), hy2]
        simp only [Option.bind_some]
        cases h2 : Op.bytesLess y.name x.name with
        | false =>
          rw [Bool.not_false, cond_true]
          exact ⟨fun hq => absurd (hq.2 h0 y hy) (by rw [h2]; simp), fun _ => rfl⟩
        | true =>
          rw [Bool.not_true, cond_false, grd_pos (by omega)]
          refine ⟨fun _ => rfl, fun hq => absurd ⟨h1, fun _ z hz => ?_⟩ hq⟩
          rw [hy] at hz
          rw [← Option.some.inj hz]; exact h2
      · rw [decide_eq_false (show ¬ 0 < (i : Int) by omega), cond_false]
        rw [Option.bind_some, Option.bind_some, cond_false, grd_pos (by omega)]
        exact ⟨fun _ => rfl, fun hq => absurd ⟨h1, fun h3 => absurd h3 h0⟩ hq⟩
  · intro n
    simp only [m_syntagmaref24_edges_l1]
    rw [decide_eq_false (by omega), cond_false]
  · by_cases hp : ∀ i x, l[i]? = some x → edgeP (isNT t) l i x
    · rw [if_pos hp]
      show some (decide _) = _
      congr 1
      exact decide_eq_decide.2 ⟨fun h2 => ⟨hp, by omega⟩, fun h2 => by have := h2.2; omega⟩
    · rw [if_neg hp, decide_eq_false (p := edgesP (isNT t) l) (fun h2 => hp h2.1)]; rfl
end Go.Proofs.Ytfcifodaohhcbaa
