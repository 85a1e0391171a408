/- Loops of models: more of what they come to. -/
import Derived.Test.YtnnjgbcojdnhhaaV46
set_option linter.unusedVariables false
set_option linter.unusedSimpArgs false
namespace Go.V
section
variable {α β S O R : Type}
open Classical in
/-- A loop that looks at each element and puts something by. -/
theorem loop_allmap {l : List α} {φ : Nat → Int → List β → Option (Out R (List β))} (r : R) (q : α → Prop) (f : α → β)
    (step : ∀ n (i : Nat) x s, l[i]? = some x → i < l.length → s.length = i → (q x → φ (n + 1) (i : Int) s = φ n ((i : Int) + 1) (s ++ [f x])) ∧ (¬ q x → φ (n + 1) (i : Int) s = some (.ret r)))
    (stop : ∀ n s, s.length = l.length → φ (n + 1) (l.length : Int) s = some (.go s)) (hl : l.length < FU) :
    φ FU 0 [] = some (if (∀ x ∈ l, q x) then .go (l.map f) else .ret r) := by
  obtain ⟨o, h1, h2⟩ := loop_rng (φ := φ) (l := l) (fun i s => s = (l.take i).map f ∧ ∀ x ∈ l.take i, q x) (fun o => o = if (∀ x ∈ l, q x) then .go (l.map f) else .ret r) (by
    rintro n i x s hx hi ⟨hs, hq⟩
    have hlen : s.length = i := by rw [hs]; simp; omega
    obtain ⟨s1, s2⟩ := step n i x s hx hi hlen
    by_cases h : q x
    · refine .inl ⟨_, s1 h, ?_, ?_⟩
      · rw [hs, take_snoc hx, List.map_append]; rfl
      · rw [take_snoc hx]
        intro y hy
        rcases List.mem_append.1 hy with hy | hy
        · exact hq y hy
        · rw [List.mem_singleton.1 hy]; exact h
    · refine .inr ⟨_, s2 h, ?_⟩
      rw [if_neg]
      exact fun hh => h (hh x (List.mem_of_getElem? hx))) (by
    rintro n s ⟨hs, hq⟩
    rw [List.take_length] at hs hq
    exact ⟨_, stop n s (by rw [hs]; simp), by rw [if_pos hq, hs]⟩) hl [] ⟨by simp, by simp⟩
  rw [h1, h2]
/-- What stands twice. -/
def dupP (l : List α) : Prop := ∃ (i : Nat) (x : α), l[i]? = some x ∧ x ∈ l.take i
end
end Go.V
