/- The statement, out of the parts ahead; no condition. -/
import Derived.Test.Ytnnjgbcojdnhhaap4
import Derived.Test.YtnnjgbcojdnhhaaRows
set_option linter.unusedVariables false
set_option linter.unusedSimpArgs false
set_option maxRecDepth 100000
namespace Go.Proofs.Ytnnjgbcojdnhhaa
open Go.V Go.ChangeShapes Go.WideShapes Go.ChangeAt Go.RowKit
theorem own : ownKnob Try.prog.godebug = none := by kernel_rfl
theorem laidOutT : laidOutB Try.prog = true := by kernel_rfl
theorem op_9 : OpensD Try.prog 9 (fun d => ∃ a : (List UInt8), (fun s => s.length ≤ maxLen) a ∧ d = D.str a) := opens_string Try.underlying9
theorem readableLexAll : ∀ t ∈ #[9].toList, Try.prog.readableRec t = true ∧ t < Try.prog.types.size := by
  intro t ht
  simp only [List.mem_cons, List.not_mem_nil, or_false] at ht
  rcases ht with rfl <;> exact ⟨by kernel_rfl, of_decide_eq_true (by kernel_rfl)⟩
theorem liftedLexAll (os : Os) (started : os.Started) (H : Type) (enc : TypeId × Value → H) :
    ReturnsInHanded {} Try.checked os 4 .any (Rows.lexAllSpec.pre6 enc Try.prog Try.f4 Rows.lexAllRow.domain false) (Rows.lexAllSpec.post enc Try.prog Try.f4 false true false false) := by
  refine returnsInHanded_of_change (C := Try.checked) own started (by kernel_rfl) Try.func4
    (ChangeSpec.witness6 (enc := enc) (C := Try.checked) false ⟨#[], #[.string ⟨#[]⟩], []⟩ 8 (by kernel_rfl) (by kernel_rfl) (by kernel_rfl) (by kernel_rfl)) ?_
  intro W base args ds gs before hval0 hW hcnd _
  have hval : ∀ (j : Nat) t v, Try.f4.params[j]? = some t → args[j]? = some v → Value.okWide Try.prog W .any base t v := hval0
  have hW' := hW
  obtain ⟨p, q, hA0, hV, rfl, hfz, hnd⟩ := hW
  have hA : DataW.TrodAll enc Try.prog W 0 (fun _ => true) true Try.f4.params.toList args.toList ds p := hA0
  rw [Try.params4] at hA hval
  obtain ⟨v0, vs0, d0, ds0, p0, q0, hargs, rfl, rfl, t0, r0⟩ := trodAll_cons hA
  obtain ⟨rfl, rfl, rfl⟩ := trodAll_nil r0
  obtain rfl : args = #[v0] := by cases args; simp_all
  obtain ⟨rfl, rfl⟩ := trodVars_none hV
  obtain ⟨_, ⟨a0, h0, rfl⟩, c0⟩ := opens_arg op_9 (by rintro _ ⟨a, _, rfl⟩; rw [Try.underlying9]; rfl) (hval 0 9 v0 rfl rfl) t0
  refine (law_calls (vs := [v0]) (w_syntagmalaw04_LexAll (law_LexAll a0)) (by simp only [ConcL]; exact ⟨v0, _, rfl, c0, rfl⟩)).mono fun e W' ⟨he, bel⟩ => ?_
  exact ⟨_, he, law_post laidOutT hW' rfl rfl Try.underlying4 rfl rfl rfl (by rw [Try.params4]; exact readableLexAll) bel⟩
theorem provedLexAll : Rows.LexAllSaid :=
  OpenClaim.holds_of_wide 4 Try.f4 rfl rfl rfl rfl rfl rfl rfl ⟨rfl, rfl, rfl, rfl, rfl⟩ rfl rfl rfl rfl rfl (by kernel_rfl) Try.func4 (by kernel_rfl)
    (of_decide_eq_true (by kernel_rfl)) (by unfold Func.isWrapper; first | (rw [if_pos (by decide +kernel)]; kernel_rfl) | (rw [if_neg (by decide +kernel)]; exact ⟨rfl, rfl⟩))
    (fun os started H enc _ => liftedLexAll os started H enc)
#print axioms provedLexAll
end Go.Proofs.Ytnnjgbcojdnhhaa
