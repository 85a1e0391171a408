/- The statement, out of the parts ahead; no condition. -/
import Derived.Test.Ytnnjgbcojdnhhaap6
import Derived.Test.YtnnjgbcojdnhhaaRows
set_option linter.unusedVariables false
set_option linter.unusedSimpArgs false
set_option maxRecDepth 100000
namespace Go.Proofs.Ytnnjgbcojdnhhaa
open Go.V Go.ChangeShapes Go.WideShapes Go.ChangeAt Go.RowKit
theorem own : ownKnob Try.prog.godebug = none := by kernel_rfl
theorem laidOutT : laidOutB Try.prog = true := by kernel_rfl
theorem op_3 : OpensD Try.prog 3 (fun d => ∃ a : Int, (fun n => (Lit.int .i64 n).wf = true) a ∧ d = D.i64 a) := (opens_int Try.underlying3)
theorem op_2 : OpensD Try.prog 2 (fun d => ∃ a : Int, (fun n => (Lit.int .i64 n).wf = true) a ∧ d = D.i64 a) := (opens_int Try.underlying2)
theorem op_9 : OpensD Try.prog 9 (fun d => ∃ a : (List UInt8), (fun s => s.length ≤ maxLen) a ∧ d = D.str a) := opens_string Try.underlying9
def ApiField.ok (b : ApiField) : Prop := (fun s => s.length ≤ maxLen) b.1 ∧ (fun s => s.length ≤ maxLen) b.2 ∧ (fun n => (Lit.int .i64 n).wf = true) b.3
theorem fo_102 : ∀ fs : Array Field, Try.prog.underlying 102 = some (.struct fs) → FieldsOpen Try.prog fs.toList 0 (Try.prog.cellsOf 102) [(fun d => ∃ a : (List UInt8), (fun s => s.length ≤ maxLen) a ∧ d = D.str a), (fun d => ∃ a : (List UInt8), (fun s => s.length ≤ maxLen) a ∧ d = D.str a), (fun d => ∃ a : Int, (fun n => (Lit.int .i64 n).wf = true) a ∧ d = D.i64 a)] := by
  intro fs h
  have := h.symm.trans Try.underlying102
  simp only [Option.some.injEq, TypeDesc.struct.injEq] at this
  subst this
  exact ⟨by kernel_rfl, op_9, ⟨by kernel_rfl, op_9, ⟨by kernel_rfl, op_3, (show _ = _ from by kernel_rfl)⟩⟩⟩
theorem op_102 : OpensD Try.prog 102 (fun d => ∃ a : ApiField, ApiField.ok a ∧ d = ApiField.d a) := by
  refine (opens_struct Try.underlying102 (fo_102 _ Try.underlying102)).imp ?_
  rintro _ ⟨ds, h, rfl⟩
  rcases ds with _ | ⟨d0, ds⟩
  · exact h.elim
  obtain ⟨⟨a0, h0, rfl⟩, h⟩ := h
  rcases ds with _ | ⟨d1, ds⟩
  · exact h.elim
  obtain ⟨⟨a1, h1, rfl⟩, h⟩ := h
  rcases ds with _ | ⟨d2, ds⟩
  · exact h.elim
  obtain ⟨⟨a2, h2, rfl⟩, h⟩ := h
  rcases ds with _ | ⟨d, ds⟩
  · exact ⟨⟨a0, a1, a2⟩, ⟨h0, h1, h2⟩, rfl⟩
  · exact h.elim
theorem op_38 : OpensD Try.prog 38 (fun d => ∃ a : (List ApiField), (fun l => l.length ≤ maxLen ∧ ∀ a ∈ l, ApiField.ok a) a ∧ d = (D.list 3 ApiField.d) a) :=
  (opens_slice Try.underlying38 (by kernel_rfl) (by decide) op_102).imp fun d ⟨l, h1, h2, h3⟩ => ⟨l, ⟨h1, h2⟩, h3⟩
def ApiNode.ok (b : ApiNode) : Prop := (fun n => (Lit.int .i64 n).wf = true) b.1 ∧ (fun n => (Lit.int .i64 n).wf = true) b.2 ∧ (fun n => (Lit.int .i64 n).wf = true) b.3 ∧ (fun n => (Lit.int .i64 n).wf = true) b.4 ∧ (fun n => (Lit.int .i64 n).wf = true) b.5 ∧ (fun s => s.length ≤ maxLen) b.6 ∧ (fun s => s.length ≤ maxLen) b.7 ∧ (fun l => l.length ≤ maxLen ∧ ∀ a ∈ l, ApiField.ok a) b.8 ∧ (fun n => (Lit.int .i64 n).wf = true) b.9
theorem fo_40 : ∀ fs : Array Field, Try.prog.underlying 40 = some (.struct fs) → FieldsOpen Try.prog fs.toList 0 (Try.prog.cellsOf 40) [(fun d => ∃ a : Int, (fun n => (Lit.int .i64 n).wf = true) a ∧ d = D.i64 a), (fun d => ∃ a : Int, (fun n => (Lit.int .i64 n).wf = true) a ∧ d = D.i64 a), (fun d => ∃ a : Int, (fun n => (Lit.int .i64 n).wf = true) a ∧ d = D.i64 a), (fun d => ∃ a : Int, (fun n => (Lit.int .i64 n).wf = true) a ∧ d = D.i64 a), (fun d => ∃ a : Int, (fun n => (Lit.int .i64 n).wf = true) a ∧ d = D.i64 a), (fun d => ∃ a : (List UInt8), (fun s => s.length ≤ maxLen) a ∧ d = D.str a), (fun d => ∃ a : (List UInt8), (fun s => s.length ≤ maxLen) a ∧ d = D.str a), (fun d => ∃ a : (List ApiField), (fun l => l.length ≤ maxLen ∧ ∀ a ∈ l, ApiField.ok a) a ∧ d = (D.list 3 ApiField.d) a), (fun d => ∃ a : Int, (fun n => (Lit.int .i64 n).wf = true) a ∧ d = D.i64 a)] := by
  intro fs h
  have := h.symm.trans Try.underlying40
  simp only [Option.some.injEq, TypeDesc.struct.injEq] at this
  subst this
  exact ⟨by kernel_rfl, op_3, ⟨by kernel_rfl, op_3, ⟨by kernel_rfl, op_3, ⟨by kernel_rfl, op_3, ⟨by kernel_rfl, op_2, ⟨by kernel_rfl, op_9, ⟨by kernel_rfl, op_9, ⟨by kernel_rfl, op_38, ⟨by kernel_rfl, op_3, (show _ = _ from by kernel_rfl)⟩⟩⟩⟩⟩⟩⟩⟩⟩
theorem op_40 : OpensD Try.prog 40 (fun d => ∃ a : ApiNode, ApiNode.ok a ∧ d = ApiNode.d a) := by
  refine (opens_struct Try.underlying40 (fo_40 _ Try.underlying40)).imp ?_
  rintro _ ⟨ds, h, rfl⟩
  rcases ds with _ | ⟨d0, ds⟩
  · exact h.elim
  obtain ⟨⟨a0, h0, rfl⟩, h⟩ := h
  rcases ds with _ | ⟨d1, ds⟩
  · exact h.elim
  obtain ⟨⟨a1, h1, rfl⟩, h⟩ := h
  rcases ds with _ | ⟨d2, ds⟩
  · exact h.elim
  obtain ⟨⟨a2, h2, rfl⟩, h⟩ := h
  rcases ds with _ | ⟨d3, ds⟩
  · exact h.elim
  obtain ⟨⟨a3, h3, rfl⟩, h⟩ := h
  rcases ds with _ | ⟨d4, ds⟩
  · exact h.elim
  obtain ⟨⟨a4, h4, rfl⟩, h⟩ := h
  rcases ds with _ | ⟨d5, ds⟩
  · exact h.elim
  obtain ⟨⟨a5, h5, rfl⟩, h⟩ := h
  rcases ds with _ | ⟨d6, ds⟩
  · exact h.elim
  obtain ⟨⟨a6, h6, rfl⟩, h⟩ := h
  rcases ds with _ | ⟨d7, ds⟩
  · exact h.elim
  obtain ⟨⟨a7, h7, rfl⟩, h⟩ := h
  rcases ds with _ | ⟨d8, ds⟩
  · exact h.elim
  obtain ⟨⟨a8, h8, rfl⟩, h⟩ := h
  rcases ds with _ | ⟨d, ds⟩
  · exact ⟨⟨a0, a1, a2, a3, a4, a5, a6, a7, a8⟩, ⟨h0, h1, h2, h3, h4, h5, h6, h7, h8⟩, rfl⟩
  · exact h.elim
theorem op_35 : OpensD Try.prog 35 (fun d => ∃ a : (List ApiNode), (fun l => l.length ≤ maxLen ∧ ∀ a ∈ l, ApiNode.ok a) a ∧ d = (D.list 9 ApiNode.d) a) :=
  (opens_slice Try.underlying35 (by kernel_rfl) (by decide) op_40).imp fun d ⟨l, h1, h2, h3⟩ => ⟨l, ⟨h1, h2⟩, h3⟩
def ApiExpr.ok (b : ApiExpr) : Prop := (fun l => l.length ≤ maxLen ∧ ∀ a ∈ l, ApiNode.ok a) b.1
theorem fo_37 : ∀ fs : Array Field, Try.prog.underlying 37 = some (.struct fs) → FieldsOpen Try.prog fs.toList 0 (Try.prog.cellsOf 37) [(fun d => ∃ a : (List ApiNode), (fun l => l.length ≤ maxLen ∧ ∀ a ∈ l, ApiNode.ok a) a ∧ d = (D.list 9 ApiNode.d) a)] := by
  intro fs h
  have := h.symm.trans Try.underlying37
  simp only [Option.some.injEq, TypeDesc.struct.injEq] at this
  subst this
  exact ⟨by kernel_rfl, op_35, (show _ = _ from by kernel_rfl)⟩
theorem op_37 : OpensD Try.prog 37 (fun d => ∃ a : ApiExpr, ApiExpr.ok a ∧ d = ApiExpr.d a) := by
  refine (opens_struct Try.underlying37 (fo_37 _ Try.underlying37)).imp ?_
  rintro _ ⟨ds, h, rfl⟩
  rcases ds with _ | ⟨d0, ds⟩
  · exact h.elim
  obtain ⟨⟨a0, h0, rfl⟩, h⟩ := h
  rcases ds with _ | ⟨d, ds⟩
  · exact ⟨⟨a0⟩, h0, rfl⟩
  · exact h.elim
theorem readableSubstUnfolds : ∀ t ∈ #[37].toList, Try.prog.readableRec t = true ∧ t < Try.prog.types.size := by
  intro t ht
  simp only [List.mem_cons, List.not_mem_nil, or_false] at ht
  rcases ht with rfl <;> exact ⟨by kernel_rfl, of_decide_eq_true (by kernel_rfl)⟩
theorem liftedSubstUnfolds (os : Os) (started : os.Started) (H : Type) (enc : TypeId × Value → H) :
    ReturnsInHanded {} Try.checked os 14 .any (Rows.substUnfoldsSpec.pre6 enc Try.prog Try.f14 Rows.substUnfoldsRow.domain false) (Rows.substUnfoldsSpec.post enc Try.prog Try.f14 false true false false) := by
  refine returnsInHanded_of_change (C := Try.checked) own started (by kernel_rfl) Try.func14
    (ChangeSpec.witness6 (enc := enc) (C := Try.checked) false ⟨#[], #[.agg #[.slice none 0 0]], []⟩ 8 (by kernel_rfl) (by kernel_rfl) (by kernel_rfl) (by kernel_rfl)) ?_
  intro W base args ds gs before hval0 hW hcnd _
  have hval : ∀ (j : Nat) t v, Try.f14.params[j]? = some t → args[j]? = some v → Value.okWide Try.prog W .any base t v := hval0
  have hW' := hW
  obtain ⟨p, q, hA0, hV, rfl, hfz, hnd⟩ := hW
  have hA : DataW.TrodAll enc Try.prog W 0 (fun _ => true) true Try.f14.params.toList args.toList ds p := hA0
  rw [Try.params14] at hA hval
  obtain ⟨v0, vs0, d0, ds0, p0, q0, hargs, rfl, rfl, t0, r0⟩ := trodAll_cons hA
  obtain ⟨rfl, rfl, rfl⟩ := trodAll_nil r0
  obtain rfl : args = #[v0] := by cases args; simp_all
  obtain ⟨rfl, rfl⟩ := trodVars_none hV
  obtain ⟨_, ⟨a0, h0, rfl⟩, c0⟩ := opens_arg op_37 (by rintro _ ⟨a, _, rfl⟩; rw [Try.underlying37]; rfl) (hval 0 37 v0 rfl rfl) t0
  refine (law_calls (vs := [v0]) (w_syntagmalaw09_SubstUnfolds (law_SubstUnfolds a0)) (by simp only [ConcL]; exact ⟨v0, _, rfl, c0, rfl⟩)).mono fun e W' ⟨he, bel⟩ => ?_
  exact ⟨_, he, law_post laidOutT hW' rfl rfl Try.underlying4 rfl rfl rfl (by rw [Try.params14]; exact readableSubstUnfolds) bel⟩
theorem provedSubstUnfolds : Rows.SubstUnfoldsSaid :=
  OpenClaim.holds_of_wide 14 Try.f14 rfl rfl rfl rfl rfl rfl rfl ⟨rfl, rfl, rfl, rfl, rfl⟩ rfl rfl rfl rfl rfl (by kernel_rfl) Try.func14 (by kernel_rfl)
    (of_decide_eq_true (by kernel_rfl)) (by unfold Func.isWrapper; first | (rw [if_pos (by decide +kernel)]; kernel_rfl) | (rw [if_neg (by decide +kernel)]; exact ⟨rfl, rfl⟩))
    (fun os started H enc _ => liftedSubstUnfolds os started H enc)
#print axioms provedSubstUnfolds
end Go.Proofs.Ytnnjgbcojdnhhaa
