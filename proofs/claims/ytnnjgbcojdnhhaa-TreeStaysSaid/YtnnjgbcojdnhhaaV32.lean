/- What is owned, told plainly. -/
import Derived.Test.YtnnjgbcojdnhhaaV31
set_option linter.unusedVariables false
set_option linter.unusedSimpArgs false
namespace Go.V
theorem go_ms {Γ : Ctx} {P : Program} {L : Env} {ms ms' : List Asrt} {K : KT} {ops : Array Oper} {r : List Oper} (h : ms = ms') (k : GO Γ P ops r L ms' K) : GO Γ P ops r L ms K := by subst h; exact k
end Go.V
