/- Loops of models: what they come to. -/
import Derived.Test.YtnnjgbcojdnhhaaV23
set_option linter.unusedVariables false
set_option linter.unusedSimpArgs false
namespace Go.V
section
variable {α β S O R : Type}
/-- A loop that keeps something and comes to an end. -/
theorem loop_inv {φ : Nat → S → Option O} (μ : S → Nat) (I : S → Prop) (Post : O → Prop)
    (step : ∀ n s, I s → (∃ s', I s' ∧ μ s' < μ s ∧ φ (n + 1) s = φ n s') ∨ (∃ o, Post o ∧ φ (n + 1) s = some o)) : ∀ n s, I s → μ s < n → ∃ o, φ n s = some o ∧ Post o := by
  intro n
  induction n with
  | zero => intro s _ h; omega
  | succ n ih =>
    intro s hI hn
    rcases step n s hI with ⟨s', h1, h2, h3⟩ | ⟨o, h1, h2⟩
    · obtain ⟨o, h4, h5⟩ := ih s' h1 (by omega)
      exact ⟨o, h3.trans h4, h5⟩
    · exact ⟨o, h2, h1⟩
open Classical in
/-- A loop that ends at the first that is not so. -/
theorem loop_all {l : List α} {φ : Nat → Int → Option (Out R Unit)} (r : R) (q : Nat → α → Prop)
    (step : ∀ n (i : Nat) x, l[i]? = some x → i < l.length → (q i x → φ (n + 1) (i : Int) = φ n ((i : Int) + 1)) ∧ (¬ q i x → φ (n + 1) (i : Int) = some (.ret r)))
    (stop : ∀ n, φ (n + 1) (l.length : Int) = some (.go ())) (hl : l.length < FU) :
    φ FU 0 = some (if (∀ i x, l[i]? = some x → q i x) then .go () else .ret r) := by
  have key : ∀ n (i : Nat), i ≤ l.length → l.length - i < n → φ n (i : Int) = some (if (∀ j x, i ≤ j → l[j]? = some x → q j x) then .go () else .ret r) := by
    intro n
    induction n with
    | zero => intro i _ h; omega
    | succ n ih =>
      intro i hi hn
      by_cases h : i = l.length
      · subst h
        rw [stop, if_pos]
        intro j x hj hx
        have := (List.getElem?_eq_some_iff.1 hx).1
        omega
      · have hi' : i < l.length := by omega
        have hx : l[i]? = some l[i] := List.getElem?_eq_getElem hi'
        obtain ⟨h1, h2⟩ := step n i l[i] hx hi'
        by_cases hq : q i l[i]
        · rw [h1 hq]
          have := ih (i + 1) (by omega) (by omega)
          rw [show ((i : Int) + 1) = ((i + 1 : Nat) : Int) by simp, this]
          congr 2
          apply propext
          constructor
          · intro h3 j x hj hx2
            by_cases hji : j = i
            · subst hji
              rw [hx] at hx2
              exact Option.some.inj hx2 ▸ hq
            · exact h3 j x (by omega) hx2
          · intro h3 j x hj hx2
            exact h3 j x (by omega) hx2
        · rw [h2 hq, if_neg]
          intro h3
          exact hq (h3 i _ (Nat.le_refl _) hx)
  have := key FU 0 (by omega) (by omega)
  rw [show ((0 : Nat) : Int) = 0 from rfl] at this
  rw [this]
  congr 2
  apply propext
  exact ⟨fun h j x hx => h j x (Nat.zero_le _) hx, fun h j x _ hx => h j x hx⟩
open Classical in
/-- A loop that ends at the first that is so. -/
theorem loop_any {l : List α} {φ : Nat → Int → Option (Out R Unit)} (r : R) (q : Nat → α → Prop)
    (step : ∀ n (i : Nat) x, l[i]? = some x → i < l.length → (¬ q i x → φ (n + 1) (i : Int) = φ n ((i : Int) + 1)) ∧ (q i x → φ (n + 1) (i : Int) = some (.ret r)))
    (stop : ∀ n, φ (n + 1) (l.length : Int) = some (.go ())) (hl : l.length < FU) :
    φ FU 0 = some (if (∃ i x, l[i]? = some x ∧ q i x) then .ret r else .go ()) := by
  have := loop_all (φ := φ) r (fun i x => ¬ q i x) (fun n i x hx hi => ⟨(step n i x hx hi).1, fun h => (step n i x hx hi).2 (Classical.not_not.1 h)⟩) stop hl
  rw [this]
  by_cases h : ∃ i x, l[i]? = some x ∧ q i x
  · rw [if_pos h, if_neg]
    obtain ⟨i, x, h1, h2⟩ := h
    exact fun h3 => h3 i x h1 h2
  · rw [if_neg h, if_pos]
    intro i x h1 h2
    exact h ⟨i, x, h1, h2⟩
/-- A loop that finds the first place. -/
theorem loop_find {l : List α} {φ : Nat → Int → Option (Out R Unit)} (r : Nat → R) (q : α → Bool)
    (step : ∀ n (i : Nat) x, l[i]? = some x → i < l.length → (q x = false → φ (n + 1) (i : Int) = φ n ((i : Int) + 1)) ∧ (q x = true → φ (n + 1) (i : Int) = some (.ret (r i))))
    (stop : ∀ n, φ (n + 1) (l.length : Int) = some (.go ())) (hl : l.length < FU) :
    φ FU 0 = some (match l.findIdx? q with | some i => .ret (r i) | none => .go ()) := by
  have key : ∀ n (i : Nat) t, l.drop i = t → i ≤ l.length → l.length - i < n → φ n (i : Int) = some (match t.findIdx? q with | some k => .ret (r (i + k)) | none => .go ()) := by
    intro n
    induction n with
    | zero => intro i t _ _ h; omega
    | succ n ih =>
      intro i t ht hi hn
      rcases t with _ | ⟨x, t⟩
      · have := drop_len ht hi
        simp only [List.length_nil] at this
        rw [show i = l.length by omega, stop]
        rfl
      · have hL := drop_len ht hi
        simp only [List.length_cons] at hL
        have hx : l[i]? = some x := by
          have := congrArg (·[0]?) ht
          simpa [List.getElem?_drop] using this
        obtain ⟨h1, h2⟩ := step n i x hx (by omega)
        cases hq : q x with
        | true => rw [h2 hq, List.findIdx?_cons, hq]; rfl
        | false =>
          rw [h1 hq, List.findIdx?_cons, hq]
          have := ih (i + 1) t (drop_c ht) (by omega) (by omega)
          rw [show ((i : Int) + 1) = ((i + 1 : Nat) : Int) by simp, this]
          cases t.findIdx? q with
          | none => rfl
          | some k => simp [Nat.add_comm, Nat.add_left_comm]
  have := key FU 0 l rfl (by omega) (by omega)
  rw [show ((0 : Nat) : Int) = 0 from rfl] at this
  rw [this]
  cases l.findIdx? q <;> simp
/-- A loop that folds. -/
theorem loop_fold {l : List α} {φ : Nat → Int → S → Option O} (I : Nat → S → Prop) (g : Nat → S → α → S) (fin : S → O)
    (step : ∀ n (i : Nat) x s, l[i]? = some x → i < l.length → I i s → φ (n + 1) (i : Int) s = φ n ((i : Int) + 1) (g i s x) ∧ I (i + 1) (g i s x))
    (stop : ∀ n s, I l.length s → φ (n + 1) (l.length : Int) s = some (fin s)) (hl : l.length < FU) (F : Nat → List α → S → S) (F0 : ∀ i s, F i [] s = s) (F1 : ∀ i x t s, F i (x :: t) s = F (i + 1) t (g i s x)) :
    ∀ s, I 0 s → φ FU 0 s = some (fin (F 0 l s)) ∧ I l.length (F 0 l s) := by
  have key : ∀ n (i : Nat) t s, l.drop i = t → i ≤ l.length → l.length - i < n → I i s → φ n (i : Int) s = some (fin (F i t s)) ∧ I l.length (F i t s) := by
    intro n
    induction n with
    | zero => intro i t s _ _ h; omega
    | succ n ih =>
      intro i t s ht hi hn hI
      rcases t with _ | ⟨x, t⟩
      · have := drop_len ht hi
        simp only [List.length_nil] at this
        rw [F0]
        have hi : i = l.length := by omega
        subst hi
        exact ⟨stop n s hI, hI⟩
      · have hL := drop_len ht hi
        simp only [List.length_cons] at hL
        have hx : l[i]? = some x := by
          have := congrArg (·[0]?) ht
          simpa [List.getElem?_drop] using this
        obtain ⟨h1, h2⟩ := step n i x s hx (by omega) hI
        rw [h1, F1]
        exact ih (i + 1) t _ (drop_c ht) (by omega) (by omega) h2
  intro s hI
  exact key FU 0 l s rfl (by omega) (by omega) hI
/-- A loop that maps. -/
theorem loop_map {l : List α} {φ : Nat → Int → List β → Option O} (f : α → β) (fin : List β → O) (c : Nat)
    (step : ∀ n (i : Nat) x s, l[i]? = some x → i < l.length → s.length = c + i → φ (n + 1) (i : Int) s = φ n ((i : Int) + 1) (s ++ [f x]))
    (stop : ∀ n s, s.length = c + l.length → φ (n + 1) (l.length : Int) s = some (fin s)) (hl : l.length < FU) (s : List β) (hs : s.length = c) :
    φ FU 0 s = some (fin (s ++ l.map f)) := by
  have := loop_fold (φ := φ) (l := l) (fun i s => s.length = c + i) (fun _ s x => s ++ [f x]) fin (fun n i x s hx hi hI => ⟨step n i x s hx hi hI, by simp; omega⟩) stop hl (fun _ t s => s ++ t.map f) (by simp) (by simp) s (by omega)
  exact this.1
theorem getI {l : List α} {i : Nat} {x : α} (h : l[i]? = some x) : idx l (i : Int) = some x := by rw [idx_nat, h]
theorem getLt {l : List α} {i : Nat} {x : α} (h : l[i]? = some x) : i < l.length := (List.getElem?_eq_some_iff.1 h).1
/-- A loop that goes on while it is so. -/
theorem loop_while {l : List α} {φ : Nat → Int → Option O} (q : α → Bool) (fin : Nat → O)
    (step : ∀ n (i : Nat) x, l[i]? = some x → i < l.length → (q x = true → φ (n + 1) (i : Int) = φ n ((i : Int) + 1)) ∧ (q x = false → φ (n + 1) (i : Int) = some (fin i)))
    (stop : ∀ n, φ (n + 1) (l.length : Int) = some (fin l.length)) : ∀ n (i : Nat), i ≤ l.length → l.length - i < n → φ n (i : Int) = some (fin (i + ((l.drop i).takeWhile q).length)) := by
  have key : ∀ n (i : Nat) t, l.drop i = t → i ≤ l.length → l.length - i < n → φ n (i : Int) = some (fin (i + (t.takeWhile q).length)) := by
    intro n
    induction n with
    | zero => intro i t _ _ h; omega
    | succ n ih =>
      intro i t ht hi hn
      rcases t with _ | ⟨x, t⟩
      · have := drop_len ht hi
        simp only [List.length_nil] at this
        rw [show i = l.length by omega, stop]
        rfl
      · have hL := drop_len ht hi
        simp only [List.length_cons] at hL
        have hx : l[i]? = some x := by
          have := congrArg (·[0]?) ht
          simpa [List.getElem?_drop] using this
        obtain ⟨h1, h2⟩ := step n i x hx (by omega)
        cases hq : q x with
        | false => rw [h2 hq, List.takeWhile_cons, hq]; rfl
        | true =>
          have := ih (i + 1) t (drop_c ht) (by omega) (by omega)
          rw [h1 hq, List.takeWhile_cons, hq, show ((i : Int) + 1) = ((i + 1 : Nat) : Int) by simp, this]
          congr 2
          simp only [if_true, List.length_cons]
          omega
  intro n i hi hn
  exact key n i _ rfl hi hn
end
end Go.V
