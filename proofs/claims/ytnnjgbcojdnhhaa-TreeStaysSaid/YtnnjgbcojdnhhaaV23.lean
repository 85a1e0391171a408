/- Small lemmas for plain laws about models. -/
import Derived.Test.YtnnjgbcojdnhhaaV22
set_option linter.unusedVariables false
set_option linter.unusedSimpArgs false
namespace Go.V
section
variable {α β : Type}
theorem bnd {m : Option α} {k : α → Option β} {x : α} {r : Option β} (h : m = some x) (h2 : k x = r) : m.bind k = r := by rw [h]; exact h2
theorem idx_dr {l t : List α} {i : Nat} (h : l.drop i = t) (k : Nat) : idx l ((i : Int) + (k : Int)) = t[k]? := by
  subst h
  rw [show (i : Int) + (k : Int) = ((i + k : Nat) : Int) by simp, idx_nat, List.getElem?_drop]
theorem idx_dr0 {l t : List α} {i : Nat} (h : l.drop i = t) : idx l (i : Int) = t[0]? := by
  have := idx_dr h 0
  simpa using this
theorem idx_dr1 {l t : List α} {i : Nat} (h : l.drop i = t) : idx l ((i : Int) + 1) = t[1]? := idx_dr h 1
theorem idx_dr2 {l t : List α} {i : Nat} (h : l.drop i = t) : idx l ((i : Int) + 2) = t[2]? := idx_dr h 2
theorem idx_dr21 {l t : List α} {i : Nat} (h : l.drop i = t) : idx l ((i : Int) + 2 + 1) = t[3]? := by
  have := idx_dr h 3
  rw [← this]; congr 1
theorem idx_c0 {a : α} {l : List α} : idx (a :: l) 0 = some a := rfl
theorem idx_c1 {a b : α} {l : List α} : idx (a :: b :: l) 1 = some b := rfl
theorem idx_c2 {a b c : α} {l : List α} : idx (a :: b :: c :: l) 2 = some c := rfl
theorem sli_all {l : List α} : sli l 0 (l.length : Int) = some l := by
  have := sli_nat l 0 l.length (by omega) (by omega)
  simpa using this
theorem sli_take {l : List α} {k : Nat} (h : k ≤ l.length) : sli l 0 (k : Int) = some (l.take k) := by
  have := sli_nat l 0 k (by omega) h
  simpa using this
theorem sli_from {l t : List α} {i : Nat} (h : l.drop i = t) (hi : i ≤ l.length) : sli l (i : Int) (l.length : Int) = some t := by
  have := sli_nat l i l.length hi (by omega)
  rw [this, List.take_length, h]
theorem sli_from1 {l t : List α} {c : α} {i : Nat} (h : l.drop i = c :: t) : sli l ((i : Int) + 1) (l.length : Int) = some t := by
  have hl : i + 1 ≤ l.length := by have := congrArg List.length h; simp at this; omega
  have h2 : l.drop (i + 1) = t := by
    have := congrArg (·.drop 1) h
    simpa [Nat.add_comm] using this
  exact sli_from (i := i + 1) h2 hl
theorem drop_c {l r : List α} {k : Nat} {b : α} (h : l.drop k = b :: r) : l.drop (k + 1) = r := by
  have := congrArg (·.drop 1) h; simpa [Nat.add_comm] using this
theorem drop_len {l t : List α} {k : Nat} (h : l.drop k = t) (hk : k ≤ l.length) : l.length = k + t.length := by
  subst h; simp; omega
theorem drop_more {l t : List α} {k : Nat} (h : l.drop k = t) (m : Nat) : l.drop (k + m) = t.drop m := by
  subst h; rw [List.drop_drop]
theorem minL (n : Nat) (l : List α) : (if (n : Int) < (l.length : Int) then (n : Int) else (l.length : Int)) = ((min n l.length : Nat) : Int) := by
  split <;> omega
end
end Go.V
