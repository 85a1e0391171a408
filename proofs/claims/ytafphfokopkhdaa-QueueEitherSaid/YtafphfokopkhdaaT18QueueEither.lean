/- The statement, out of the parts ahead; no condition. -/
import Derived.Test.Ytafphfokopkhdaap2
import Derived.Test.YtafphfokopkhdaaRows
set_option linter.unusedVariables false
set_option linter.unusedSimpArgs false
set_option maxRecDepth 100000
namespace Go.Proofs.Ytafphfokopkhdaa
open Go.V Go.ChangeShapes Go.WideShapes Go.ChangeAt Go.RowKit
theorem own : ownKnob Try.prog.godebug = none := by kernel_rfl
theorem laidOutT : laidOutB Try.prog = true := by kernel_rfl
theorem op_3 : OpensD Try.prog 3 (fun d => ∃ a : Int, (fun n => (Lit.int .i64 n).wf = true) a ∧ d = D.i64 a) := (opens_int Try.underlying3)
theorem op_28 : OpensD Try.prog 28 (fun d => ∃ a : (List Int), (fun l => l.length ≤ maxLen ∧ ∀ a ∈ l, (fun n => (Lit.int .i64 n).wf = true) a) a ∧ d = (D.list 1 D.i64) a) :=
  (opens_slice Try.underlying28 (by kernel_rfl) (by decide) op_3).imp fun d ⟨l, h1, h2, h3⟩ => ⟨l, ⟨h1, h2⟩, h3⟩
theorem readableQueueEither : ∀ t ∈ #[28, 28, 3].toList, Try.prog.readableRec t = true ∧ t < Try.prog.types.size := by
  intro t ht
  simp only [List.mem_cons, List.not_mem_nil, or_false] at ht
  rcases ht with rfl | rfl | rfl <;> exact ⟨by kernel_rfl, of_decide_eq_true (by kernel_rfl)⟩
theorem liftedQueueEither (os : Os) (started : os.Started) (H : Type) (enc : TypeId × Value → H) :
    ReturnsInHanded {} Try.checked os 5 .any (Rows.queueEitherSpec.pre6 enc Try.prog Try.f5 Rows.queueEitherRow.domain false) (Rows.queueEitherSpec.post enc Try.prog Try.f5 false true false false) := by
  refine returnsInHanded_of_change (C := Try.checked) own started (by kernel_rfl) Try.func5
    (ChangeSpec.witness6 (enc := enc) (C := Try.checked) false ⟨#[], #[.slice none 0 0, .slice none 0 0, .int .i64 0], []⟩ 8 (by kernel_rfl) (by kernel_rfl) (by kernel_rfl) (by kernel_rfl)) ?_
  intro W base args ds gs before hval0 hW hcnd _
  have hval : ∀ (j : Nat) t v, Try.f5.params[j]? = some t → args[j]? = some v → Value.okWide Try.prog W .any base t v := hval0
  have hW' := hW
  obtain ⟨p, q, hA0, hV, rfl, hfz, hnd⟩ := hW
  have hA : DataW.TrodAll enc Try.prog W 0 (fun _ => true) true Try.f5.params.toList args.toList ds p := hA0
  rw [Try.params5] at hA hval
  obtain ⟨v0, vs0, d0, ds0, p0, q0, hargs, rfl, rfl, t0, r0⟩ := trodAll_cons hA
  obtain ⟨v1, vs1, d1, ds1, p1, q1, rfl, rfl, rfl, t1, r1⟩ := trodAll_cons r0
  obtain ⟨v2, vs2, d2, ds2, p2, q2, rfl, rfl, rfl, t2, r2⟩ := trodAll_cons r1
  obtain ⟨rfl, rfl, rfl⟩ := trodAll_nil r2
  obtain rfl : args = #[v0, v1, v2] := by cases args; simp_all
  obtain ⟨rfl, rfl⟩ := trodVars_none hV
  obtain ⟨_, ⟨a0, h0, rfl⟩, c0⟩ := opens_arg op_28 (by rintro _ ⟨a, _, rfl⟩; rw [Try.underlying28]; rfl) (hval 0 28 v0 rfl rfl) t0
  obtain ⟨_, ⟨a1, h1, rfl⟩, c1⟩ := opens_arg op_28 (by rintro _ ⟨a, _, rfl⟩; rw [Try.underlying28]; rfl) (hval 1 28 v1 rfl rfl) t1
  obtain ⟨_, ⟨a2, h2, rfl⟩, c2⟩ := opens_arg op_3 (by rintro _ ⟨a, _, rfl⟩; rw [Try.underlying3]; rfl) (hval 2 3 v2 rfl rfl) t2
  refine (law_calls (vs := [v0, v1, v2]) (w_syntagmalaw18_QueueEither (law_QueueEither a0 a1 a2)) (by simp only [ConcL]; exact ⟨v0, _, rfl, c0, ⟨v1, _, rfl, c1, ⟨v2, _, rfl, c2, rfl⟩⟩⟩)).mono fun e W' ⟨he, bel⟩ => ?_
  exact ⟨_, he, law_post laidOutT hW' rfl rfl Try.underlying4 rfl rfl rfl (by rw [Try.params5]; exact readableQueueEither) bel⟩
theorem provedQueueEither : Rows.QueueEitherSaid :=
  OpenClaim.holds_of_wide 5 Try.f5 rfl rfl rfl rfl rfl rfl rfl ⟨rfl, rfl, rfl, rfl, rfl⟩ rfl rfl rfl rfl rfl (by kernel_rfl) Try.func5 (by kernel_rfl)
    (of_decide_eq_true (by kernel_rfl)) (by unfold Func.isWrapper; first | (rw [if_pos (by decide +kernel)]; kernel_rfl) | (rw [if_neg (by decide +kernel)]; exact ⟨rfl, rfl⟩))
    (fun os started H enc _ => liftedQueueEither os started H enc)
#print axioms provedQueueEither
end Go.Proofs.Ytafphfokopkhdaa
