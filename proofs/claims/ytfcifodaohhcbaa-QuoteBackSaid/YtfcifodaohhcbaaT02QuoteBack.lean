/- Part T02QuoteBack of the proof: contracts of the functions that are walked, and what they compute; no condition. -/
import Derived.Test.YtfcifodaohhcbaaV24
import Derived.Test.YtfcifodaohhcbaaC02b
import Derived.Test.YtfcifodaohhcbaaRows
set_option linter.unusedVariables false
set_option linter.unusedSimpArgs false
set_option maxRecDepth 100000
namespace Go.Proofs.Ytfcifodaohhcbaa
open Go.V Go.ChangeShapes Go.WideShapes Go.ChangeAt Go.RowKit
theorem own : ownKnob Try.prog.godebug = none := by kernel_rfl
theorem laidOutT : laidOutB Try.prog = true := by kernel_rfl
theorem op_9 : OpensD Try.prog 9 (fun d => ∃ a : (List UInt8), (fun s => s.length ≤ maxLen) a ∧ d = D.str a) := opens_string Try.underlying9
theorem readableQuoteBack : ∀ t ∈ #[9, 9].toList, Try.prog.readableRec t = true ∧ t < Try.prog.types.size := by
  intro t ht
  simp only [List.mem_cons, List.not_mem_nil, or_false] at ht
  rcases ht with rfl | rfl <;> exact ⟨by kernel_rfl, of_decide_eq_true (by kernel_rfl)⟩

theorem liftedQuoteBack (os : Os) (started : os.Started) (H : Type) (enc : TypeId × Value → H) :
    ReturnsInHanded {} Try.checked os 8 .any (Rows.quoteBackSpec.pre6 enc Try.prog Try.f8 Rows.quoteBackRow.domain false) (Rows.quoteBackSpec.post enc Try.prog Try.f8 false true false false) := by
  refine returnsInHanded_of_change_sized (C := Try.checked) own started (by kernel_rfl) Try.func8
    (ChangeSpec.witness6 (enc := enc) (C := Try.checked) false ⟨#[], #[.string ⟨#[]⟩, .string ⟨#[]⟩], []⟩ 8 (by kernel_rfl) (by kernel_rfl) (by kernel_rfl) (by kernel_rfl)) ?_
  intro W base args ds gs before hval0 hW hcnd hsz0 _
  have hval : ∀ (j : Nat) t v, Try.f8.params[j]? = some t → args[j]? = some v → Value.okWide Try.prog W .any base t v := hval0
  have hW' := hW
  obtain ⟨p, q, hA0, hV, rfl, hfz, hnd⟩ := hW
  have hA : DataW.TrodAll enc Try.prog W 0 (fun _ => true) true Try.f8.params.toList args.toList ds p := hA0
  rw [Try.params8] at hA hval
  obtain ⟨v0, vs0, d0, ds0, p0, q0, hargs, rfl, rfl, t0, r0⟩ := trodAll_cons hA
  obtain ⟨v1, vs1, d1, ds1, p1, q1, rfl, rfl, rfl, t1, r1⟩ := trodAll_cons r0
  obtain ⟨rfl, rfl, rfl⟩ := trodAll_nil r1
  obtain rfl : args = #[v0, v1] := by cases args; simp_all
  obtain ⟨rfl, rfl⟩ := trodVars_none hV
  obtain ⟨_, ⟨a0, h0, rfl⟩, c0⟩ := opens_arg op_9 (by rintro _ ⟨a, _, rfl⟩; rw [Try.underlying9]; rfl) (hval 0 9 v0 rfl rfl) t0
  obtain ⟨_, ⟨a1, h1, rfl⟩, c1⟩ := opens_arg op_9 (by rintro _ ⟨a, _, rfl⟩; rw [Try.underlying9]; rfl) (hval 1 9 v1 rfl rfl) t1
  have hsz : (DataW.weightsEach Try.prog ([9, 9] ++ []) ([d0, d1] ++ [])).all (· ≤ reachBytes) = true := by
    have := hsz0
    rw [Try.params8] at this
    exact this
  have z1 := string_len hsz 1 rfl rfl (string_arg Try.underlying9 t1 c1)
  refine (law_calls (vs := [v0, v1]) (w_QuoteBack (law_QuoteBack a0 a1 (by omega))) (by simp only [ConcL]; exact ⟨v0, _, rfl, c0, ⟨v1, _, rfl, c1, rfl⟩⟩)).mono fun e W' ⟨he, bel⟩ => ?_
  exact ⟨_, he, law_post laidOutT hW' rfl rfl Try.underlying4 rfl rfl rfl (by rw [Try.params8]; exact readableQuoteBack) bel⟩

theorem provedQuoteBack : Rows.QuoteBackSaid :=
  OpenClaim.holds_of_wide 8 Try.f8 rfl rfl rfl rfl rfl rfl rfl ⟨rfl, rfl, rfl, rfl, rfl⟩ rfl rfl rfl rfl rfl (by kernel_rfl) Try.func8 (by kernel_rfl)
    (of_decide_eq_true (by kernel_rfl)) (by unfold Func.isWrapper; first | (rw [if_pos (by decide +kernel)]; kernel_rfl) | (rw [if_neg (by decide +kernel)]; exact ⟨rfl, rfl⟩))
    (fun os started H enc _ => liftedQuoteBack os started H enc)
#print axioms provedQuoteBack

end Go.Proofs.Ytfcifodaohhcbaa
