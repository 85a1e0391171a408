/- Iterators that call others, and themselves. -/
import Derived.Test.YtnnjgbcojdnhhaaV45
set_option linter.unusedVariables false
set_option linter.unusedSimpArgs false
namespace Go.V
section
variable {α : Type} {x : α} {ys ys0 ys1 rest xs : List α} {k k0 : Nat}
theorem yield_sub (h : some (x :: ys) = some ys0) (he : ys0 ++ rest = xs.drop k) : xs[k]? = some x ∧ k + 1 ≤ xs.length ∧ ys ++ rest = xs.drop (k + 1) := by
  obtain rfl := Option.some.inj h
  have he := he.symm
  rw [List.cons_append] at he
  have hl : k < xs.length := by
    have := congrArg List.length he
    simp at this; omega
  exact ⟨by have := congrArg (·[0]?) he; simpa using this, hl, by have := congrArg (·.drop 1) he; simpa [Nat.add_comm] using this.symm⟩
theorem sub_call (h : some (ys1 ++ ys) = some ys0) (he : ys0 ++ rest = xs.drop k) (hk : k ≤ xs.length) : ys1 ++ (ys ++ rest) = xs.drop k ∧ k + ys1.length ≤ xs.length ∧ ys ++ rest = xs.drop (k + ys1.length) := by
  obtain rfl := Option.some.inj h
  rw [List.append_assoc] at he
  have hl := congrArg List.length he
  simp only [List.length_append, List.length_drop] at hl
  refine ⟨he, by omega, ?_⟩
  have := congrArg (·.drop ys1.length) he
  simp only [List.drop_left, List.drop_drop] at this
  exact this
theorem sub_fin {J : Nat → List Asrt → Prop} {tl : List Asrt} (h : some ([] : List α) = some ys) (he : ys ++ rest = xs.drop k) (hk : k ≤ xs.length) (he0 : ys0 ++ rest = xs.drop k0) (hk0 : k0 ≤ xs.length) (hJ : J k tl) : J (k0 + ys0.length) tl := by
  obtain rfl := Option.some.inj h
  have h1 := congrArg List.length he
  have h2 := congrArg List.length he0
  simp only [List.length_append, List.length_drop, List.length_nil] at h1 h2
  have : k0 + ys0.length = k := by omega
  rw [this]; exact hJ
end
theorem permT {ms tl : List Asrt} {A : Asrt} (k : Nat) (h : ms[k]? = some A) : (ms ++ tl).Perm (ms.eraseIdx k ++ (A :: tl)) := by
  have h1 := (perm_at ms k A h).append_right tl
  exact h1.trans (by simpa using (List.perm_middle (a := A) (l₁ := ms.eraseIdx k) (l₂ := tl)).symm)
section
variable {P : Program} {L : Env} {ms : List Asrt} {dst : Option Nat} {ty : TypeId} {pos : String} {after : Array Edge} {g : Option (Nat × Bool)} {d d' : D} {x y : Operand} {t t' : TypeId}
/-- A function's value put into a new variable that is never written again. -/
theorem o_box_y (hx : Env.ev L x = some d) (hs : d.storable = true) : OpP P ⟨dst, .box t x, ty, pos, after, g⟩ L ms (.ref d) := o_box hx hs
end
end Go.V
