/- Part T21 of the proof: contracts of the functions that are walked, and what they compute; no condition. -/
import Derived.Test.YtfcifodaohhcbaaV17
import Derived.Test.YtfcifodaohhcbaaA21
import Derived.Test.YtfcifodaohhcbaaRows
set_option linter.unusedVariables false
set_option linter.unusedSimpArgs false
set_option maxRecDepth 100000
namespace Go.Proofs.Ytfcifodaohhcbaa
open Go.V Go.ChangeShapes Go.WideShapes Go.ChangeAt Go.RowKit
theorem own : ownKnob Try.prog.godebug = none := by kernel_rfl
theorem laidOutT : laidOutB Try.prog = true := by kernel_rfl
theorem op_9 : OpensD Try.prog 9 (fun d => ∃ a : (List UInt8), (fun s => s.length ≤ maxLen) a ∧ d = D.str a) := opens_string Try.underlying9
theorem op_3 : OpensD Try.prog 3 (fun d => ∃ a : Int, (fun n => (Lit.int .i64 n).wf = true) a ∧ d = D.i64 a) := opens_int Try.underlying3
def Bind.ok (b : Bind) : Prop := (fun s => s.length ≤ maxLen) b.1 ∧ (fun n => (Lit.int .i64 n).wf = true) b.2 ∧ (fun n => (Lit.int .i64 n).wf = true) b.3
theorem fo_25 : ∀ fs : Array Field, Try.prog.underlying 25 = some (.struct fs) → FieldsOpen Try.prog fs.toList 0 (Try.prog.cellsOf 25) [(fun d => ∃ a : (List UInt8), (fun s => s.length ≤ maxLen) a ∧ d = D.str a), (fun d => ∃ a : Int, (fun n => (Lit.int .i64 n).wf = true) a ∧ d = D.i64 a), (fun d => ∃ a : Int, (fun n => (Lit.int .i64 n).wf = true) a ∧ d = D.i64 a)] := by
  intro fs h
  have := h.symm.trans Try.underlying25
  simp only [Option.some.injEq, TypeDesc.struct.injEq] at this
  subst this
  exact ⟨by kernel_rfl, op_9, ⟨by kernel_rfl, op_3, ⟨by kernel_rfl, op_3, (show _ = _ from by kernel_rfl)⟩⟩⟩
theorem op_25 : OpensD Try.prog 25 (fun d => ∃ a : Bind, Bind.ok a ∧ d = Bind.d a) := by
  refine (opens_struct Try.underlying25 (fo_25 _ Try.underlying25)).imp ?_
  rintro _ ⟨ds, h, rfl⟩
  rcases ds with _ | ⟨d0, ds⟩
  · exact h.elim
  obtain ⟨⟨a0, h0, rfl⟩, h⟩ := h
  rcases ds with _ | ⟨d1, ds⟩
  · exact h.elim
  obtain ⟨⟨a1, h1, rfl⟩, h⟩ := h
  rcases ds with _ | ⟨d2, ds⟩
  · exact h.elim
  obtain ⟨⟨a2, h2, rfl⟩, h⟩ := h
  rcases ds with _ | ⟨d, ds⟩
  · exact ⟨⟨a0, a1, a2⟩, ⟨h0, h1, h2⟩, rfl⟩
  · exact h.elim
theorem op_22 : OpensD Try.prog 22 (fun d => ∃ a : (List Bind), (fun l => l.length ≤ maxLen ∧ ∀ a ∈ l, Bind.ok a) a ∧ d = (D.list 3 Bind.d) a) :=
  (opens_slice Try.underlying22 (by kernel_rfl) (by decide) op_25).imp fun d ⟨l, h1, h2, h3⟩ => ⟨l, ⟨h1, h2⟩, h3⟩
theorem op_23 : OpensD Try.prog 23 (fun d => ∃ a : (List (List UInt8)), (fun l => l.length ≤ maxLen ∧ ∀ a ∈ l, (fun s => s.length ≤ maxLen) a) a ∧ d = (D.list 1 D.str) a) :=
  (opens_slice Try.underlying23 (by kernel_rfl) (by decide) op_9).imp fun d ⟨l, h1, h2, h3⟩ => ⟨l, ⟨h1, h2⟩, h3⟩
theorem readableFreshFinds : ∀ t ∈ #[22, 23, 25].toList, Try.prog.readableRec t = true ∧ t < Try.prog.types.size := by
  intro t ht
  simp only [List.mem_cons, List.not_mem_nil, or_false] at ht
  rcases ht with rfl | rfl | rfl <;> exact ⟨by kernel_rfl, of_decide_eq_true (by kernel_rfl)⟩

theorem liftedFreshFinds (os : Os) (started : os.Started) (H : Type) (enc : TypeId × Value → H) :
    ReturnsInHanded {} Try.checked os 3 .any (Rows.freshFindsSpec.pre6 enc Try.prog Try.f3 Rows.freshFindsRow.domain false) (Rows.freshFindsSpec.post enc Try.prog Try.f3 false true false false) := by
  refine returnsInHanded_of_change (C := Try.checked) own started (by kernel_rfl) Try.func3
    (ChangeSpec.witness6 (enc := enc) (C := Try.checked) false ⟨#[], #[.slice none 0 0, .slice none 0 0, .agg #[.string ⟨#[]⟩, .int .i64 0, .int .i64 0]], []⟩ 8 (by kernel_rfl) (by kernel_rfl) (by kernel_rfl) (by kernel_rfl)) ?_
  intro W base args ds gs before hval0 hW hcnd _
  have hval : ∀ (j : Nat) t v, Try.f3.params[j]? = some t → args[j]? = some v → Value.okWide Try.prog W .any base t v := hval0
  have hW' := hW
  obtain ⟨p, q, hA0, hV, rfl, hfz, hnd⟩ := hW
  have hA : DataW.TrodAll enc Try.prog W 0 (fun _ => true) true Try.f3.params.toList args.toList ds p := hA0
  rw [Try.params3] at hA hval
  obtain ⟨v0, vs0, d0, ds0, p0, q0, hargs, rfl, rfl, t0, r0⟩ := trodAll_cons hA
  obtain ⟨v1, vs1, d1, ds1, p1, q1, rfl, rfl, rfl, t1, r1⟩ := trodAll_cons r0
  obtain ⟨v2, vs2, d2, ds2, p2, q2, rfl, rfl, rfl, t2, r2⟩ := trodAll_cons r1
  obtain ⟨rfl, rfl, rfl⟩ := trodAll_nil r2
  obtain rfl : args = #[v0, v1, v2] := by cases args; simp_all
  obtain ⟨rfl, rfl⟩ := trodVars_none hV
  obtain ⟨_, ⟨a0, h0, rfl⟩, c0⟩ := opens_arg op_22 (by rintro _ ⟨a, _, rfl⟩; rw [Try.underlying22]; rfl) (hval 0 22 v0 rfl rfl) t0
  obtain ⟨_, ⟨a1, h1, rfl⟩, c1⟩ := opens_arg op_23 (by rintro _ ⟨a, _, rfl⟩; rw [Try.underlying23]; rfl) (hval 1 23 v1 rfl rfl) t1
  obtain ⟨_, ⟨a2, h2, rfl⟩, c2⟩ := opens_arg op_25 (by rintro _ ⟨a, _, rfl⟩; rw [Try.underlying25]; rfl) (hval 2 25 v2 rfl rfl) t2
  refine (law_calls (vs := [v0, v1, v2]) (law_FreshFinds a0 a1 a2) (by simp only [ConcL]; exact ⟨v0, _, rfl, c0, ⟨v1, _, rfl, c1, ⟨v2, _, rfl, c2, rfl⟩⟩⟩)).mono fun e W' ⟨he, bel⟩ => ?_
  exact ⟨_, he, law_post laidOutT hW' rfl rfl Try.underlying4 rfl rfl rfl (by rw [Try.params3]; exact readableFreshFinds) bel⟩

theorem provedFreshFinds : Rows.FreshFindsSaid :=
  OpenClaim.holds_of_wide 3 Try.f3 rfl rfl rfl rfl rfl rfl rfl ⟨rfl, rfl, rfl, rfl, rfl⟩ rfl rfl rfl rfl rfl (by kernel_rfl) Try.func3 (by kernel_rfl)
    (of_decide_eq_true (by kernel_rfl)) (by unfold Func.isWrapper; first | (rw [if_pos (by decide +kernel)]; kernel_rfl) | (rw [if_neg (by decide +kernel)]; exact ⟨rfl, rfl⟩))
    (fun os started H enc _ => liftedFreshFinds os started H enc)
#print axioms provedFreshFinds

end Go.Proofs.Ytfcifodaohhcbaa
