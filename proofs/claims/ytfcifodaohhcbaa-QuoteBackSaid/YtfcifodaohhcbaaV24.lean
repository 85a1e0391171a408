/- How long an argument may be. -/
import Derived.Test.YtfcifodaohhcbaaV17
import Derived.SizedLaws
set_option linter.unusedVariables false
set_option linter.unusedSimpArgs false
namespace Go.V
open Go.ChangeShapes Go.WideShapes Go.ChangeAt Go.RowKit
section
variable {P : Program} {t : TypeId}
theorem string_arg {H : Type} {enc : TypeId × Value → H} {w : World} {sp : Nat → Bool} {held : Bool} {v : Value} {x : DataW H} {ps : List MemPlace} {HH : PH} {s : List UInt8} (ht : P.underlying t = some .string) (hd : DataW.Trod enc P w 0 sp held t v x ps) (hc : Conc HH (.str s) v) : x = .lit (.string s) := by
  obtain ⟨fuel, hf⟩ := hd
  obtain ⟨s', e1, e2, _⟩ := DataW.trod_string ht hf
  have hv := conc_v.1 hc
  subst hv
  simp only [Value.cells, List.cons.injEq, Value.string.injEq, and_true] at e1
  have e3 := congrArg Prod.fst e2
  simp only at e3
  rw [e3, ← e1]
theorem string_len {H : Type} {ts : List TypeId} {ds : List (DataW H)} (h : (DataW.weightsEach P ts ds).all (· ≤ reachBytes) = true) (j : Nat) {d : DataW H} {s : List UInt8} (ht : ts[j]? = some t) (hd : ds[j]? = some d) (e : d = .lit (.string s)) : s.length ≤ 140737488355328 := by
  subst e
  have := sized_string h ht hd
  have h2 := reachBytes_lt
  omega
end
end Go.V
