/- The statement, out of the parts ahead; no condition. -/
import Derived.Test.Ytnnjgbcojdnhhaap6
import Derived.Test.YtnnjgbcojdnhhaaRows
set_option linter.unusedVariables false
set_option linter.unusedSimpArgs false
set_option maxRecDepth 100000
namespace Go.Proofs.Ytnnjgbcojdnhhaa
open Go.V Go.ChangeShapes Go.WideShapes Go.ChangeAt Go.RowKit
theorem own : ownKnob Try.prog.godebug = none := by kernel_rfl
theorem laidOutT : laidOutB Try.prog = true := by kernel_rfl
theorem op_3 : OpensD Try.prog 3 (fun d => ∃ a : Int, (fun n => (Lit.int .i64 n).wf = true) a ∧ d = D.i64 a) := (opens_int Try.underlying3)
theorem op_2 : OpensD Try.prog 2 (fun d => ∃ a : Int, (fun n => (Lit.int .i64 n).wf = true) a ∧ d = D.i64 a) := (opens_int Try.underlying2)
theorem op_9 : OpensD Try.prog 9 (fun d => ∃ a : (List UInt8), (fun s => s.length ≤ maxLen) a ∧ d = D.str a) := opens_string Try.underlying9
def ApiField.ok (b : ApiField) : Prop := (fun s => s.length ≤ maxLen) b.1 ∧ (fun s => s.length ≤ maxLen) b.2 ∧ (fun n => (Lit.int .i64 n).wf = true) b.3
theorem fo_102 : ∀ fs : Array Field, Try.prog.underlying 102 = some (.struct fs) → FieldsOpen Try.prog fs.toList 0 (Try.prog.cellsOf 102) [(fun d => ∃ a : (List UInt8), (fun s => s.length ≤ maxLen) a ∧ d = D.str a), (fun d => ∃ a : (List UInt8), (fun s => s.length ≤ maxLen) a ∧ d = D.str a), (fun d => ∃ a : Int, (fun n => (Lit.int .i64 n).wf = true) a ∧ d = D.i64 a)] := by
  intro fs h
  have := h.symm.trans Try.underlying102
  simp only [Option.some.injEq, TypeDesc.struct.injEq] at this
  subst this
  exact ⟨by kernel_rfl, op_9, ⟨by kernel_rfl, op_9, ⟨by kernel_rfl, op_3, (show _ = _ from by kernel_rfl)⟩⟩⟩
theorem op_102 : OpensD Try.prog 102 (fun d => ∃ a : ApiField, ApiField.ok a ∧ d = ApiField.d a) := by
  refine (opens_struct Try.underlying102 (fo_102 _ Try.underlying102)).imp ?_
  rintro _ ⟨ds, h, rfl⟩
  rcases ds with _ | ⟨d0, ds⟩
  · exact h.elim
  obtain ⟨⟨a0, h0, rfl⟩, h⟩ := h
  rcases ds with _ | ⟨d1, ds⟩
  · exact h.elim
  obtain ⟨⟨a1, h1, rfl⟩, h⟩ := h
  rcases ds with _ | ⟨d2, ds⟩
  · exact h.elim
  obtain ⟨⟨a2, h2, rfl⟩, h⟩ := h
  rcases ds with _ | ⟨d, ds⟩
  · exact ⟨⟨a0, a1, a2⟩, ⟨h0, h1, h2⟩, rfl⟩
  · exact h.elim
theorem op_38 : OpensD Try.prog 38 (fun d => ∃ a : (List ApiField), (fun l => l.length ≤ maxLen ∧ ∀ a ∈ l, ApiField.ok a) a ∧ d = (D.list 3 ApiField.d) a) :=
  (opens_slice Try.underlying38 (by kernel_rfl) (by decide) op_102).imp fun d ⟨l, h1, h2, h3⟩ => ⟨l, ⟨h1, h2⟩, h3⟩
def ApiNode.ok (b : ApiNode) : Prop := (fun n => (Lit.int .i64 n).wf = true) b.1 ∧ (fun n => (Lit.int .i64 n).wf = true) b.2 ∧ (fun n => (Lit.int .i64 n).wf = true) b.3 ∧ (fun n => (Lit.int .i64 n).wf = true) b.4 ∧ (fun n => (Lit.int .i64 n).wf = true) b.5 ∧ (fun s => s.length ≤ maxLen) b.6 ∧ (fun s => s.length ≤ maxLen) b.7 ∧ (fun l => l.length ≤ maxLen ∧ ∀ a ∈ l, ApiField.ok a) b.8 ∧ (fun n => (Lit.int .i64 n).wf = true) b.9
theorem fo_40 : ∀ fs : Array Field, Try.prog.underlying 40 = some (.struct fs) → FieldsOpen Try.prog fs.toList 0 (Try.prog.cellsOf 40) [(fun d => ∃ a : Int, (fun n => (Lit.int .i64 n).wf = true) a ∧ d = D.i64 a), (fun d => ∃ a : Int, (fun n => (Lit.int .i64 n).wf = true) a ∧ d = D.i64 a), (fun d => ∃ a : Int, (fun n => (Lit.int .i64 n).wf = true) a ∧ d = D.i64 a), (fun d => ∃ a : Int, (fun n => (Lit.int .i64 n).wf = true) a ∧ d = D.i64 a), (fun d => ∃ a : Int, (fun n => (Lit.int .i64 n).wf = true) a ∧ d = D.i64 a), (fun d => ∃ a : (List UInt8), (fun s => s.length ≤ maxLen) a ∧ d = D.str a), (fun d => ∃ a : (List UInt8), (fun s => s.length ≤ maxLen) a ∧ d = D.str a), (fun d => ∃ a : (List ApiField), (fun l => l.length ≤ maxLen ∧ ∀ a ∈ l, ApiField.ok a) a ∧ d = (D.list 3 ApiField.d) a), (fun d => ∃ a : Int, (fun n => (Lit.int .i64 n).wf = true) a ∧ d = D.i64 a)] := by
  intro fs h
  have := h.symm.trans Try.underlying40
  simp only [Option.some.injEq, TypeDesc.struct.injEq] at this
  subst this
  exact ⟨by kernel_rfl, op_3, ⟨by kernel_rfl, op_3, ⟨by kernel_rfl, op_3, ⟨by kernel_rfl, op_3, ⟨by kernel_rfl, op_2, ⟨by kernel_rfl, op_9, ⟨by kernel_rfl, op_9, ⟨by kernel_rfl, op_38, ⟨by kernel_rfl, op_3, (show _ = _ from by kernel_rfl)⟩⟩⟩⟩⟩⟩⟩⟩⟩
theorem op_40 : OpensD Try.prog 40 (fun d => ∃ a : ApiNode, ApiNode.ok a ∧ d = ApiNode.d a) := by
  refine (opens_struct Try.underlying40 (fo_40 _ Try.underlying40)).imp ?_
  rintro _ ⟨ds, h, rfl⟩
  rcases ds with _ | ⟨d0, ds⟩
  · exact h.elim
  obtain ⟨⟨a0, h0, rfl⟩, h⟩ := h
  rcases ds with _ | ⟨d1, ds⟩
  · exact h.elim
  obtain ⟨⟨a1, h1, rfl⟩, h⟩ := h
  rcases ds with _ | ⟨d2, ds⟩
  · exact h.elim
  obtain ⟨⟨a2, h2, rfl⟩, h⟩ := h
  rcases ds with _ | ⟨d3, ds⟩
  · exact h.elim
  obtain ⟨⟨a3, h3, rfl⟩, h⟩ := h
  rcases ds with _ | ⟨d4, ds⟩
  · exact h.elim
  obtain ⟨⟨a4, h4, rfl⟩, h⟩ := h
  rcases ds with _ | ⟨d5, ds⟩
  · exact h.elim
  obtain ⟨⟨a5, h5, rfl⟩, h⟩ := h
  rcases ds with _ | ⟨d6, ds⟩
  · exact h.elim
  obtain ⟨⟨a6, h6, rfl⟩, h⟩ := h
  rcases ds with _ | ⟨d7, ds⟩
  · exact h.elim
  obtain ⟨⟨a7, h7, rfl⟩, h⟩ := h
  rcases ds with _ | ⟨d8, ds⟩
  · exact h.elim
  obtain ⟨⟨a8, h8, rfl⟩, h⟩ := h
  rcases ds with _ | ⟨d, ds⟩
  · exact ⟨⟨a0, a1, a2, a3, a4, a5, a6, a7, a8⟩, ⟨h0, h1, h2, h3, h4, h5, h6, h7, h8⟩, rfl⟩
  · exact h.elim
theorem op_35 : OpensD Try.prog 35 (fun d => ∃ a : (List ApiNode), (fun l => l.length ≤ maxLen ∧ ∀ a ∈ l, ApiNode.ok a) a ∧ d = (D.list 9 ApiNode.d) a) :=
  (opens_slice Try.underlying35 (by kernel_rfl) (by decide) op_40).imp fun d ⟨l, h1, h2, h3⟩ => ⟨l, ⟨h1, h2⟩, h3⟩
def ApiExpr.ok (b : ApiExpr) : Prop := (fun l => l.length ≤ maxLen ∧ ∀ a ∈ l, ApiNode.ok a) b.1
theorem fo_37 : ∀ fs : Array Field, Try.prog.underlying 37 = some (.struct fs) → FieldsOpen Try.prog fs.toList 0 (Try.prog.cellsOf 37) [(fun d => ∃ a : (List ApiNode), (fun l => l.length ≤ maxLen ∧ ∀ a ∈ l, ApiNode.ok a) a ∧ d = (D.list 9 ApiNode.d) a)] := by
  intro fs h
  have := h.symm.trans Try.underlying37
  simp only [Option.some.injEq, TypeDesc.struct.injEq] at this
  subst this
  exact ⟨by kernel_rfl, op_35, (show _ = _ from by kernel_rfl)⟩
theorem op_37 : OpensD Try.prog 37 (fun d => ∃ a : ApiExpr, ApiExpr.ok a ∧ d = ApiExpr.d a) := by
  refine (opens_struct Try.underlying37 (fo_37 _ Try.underlying37)).imp ?_
  rintro _ ⟨ds, h, rfl⟩
  rcases ds with _ | ⟨d0, ds⟩
  · exact h.elim
  obtain ⟨⟨a0, h0, rfl⟩, h⟩ := h
  rcases ds with _ | ⟨d, ds⟩
  · exact ⟨⟨a0⟩, h0, rfl⟩
  · exact h.elim
theorem readableSubstStays : ∀ t ∈ #[37, 9, 37].toList, Try.prog.readableRec t = true ∧ t < Try.prog.types.size := by
  intro t ht
  simp only [List.mem_cons, List.not_mem_nil, or_false] at ht
  rcases ht with rfl | rfl | rfl <;> exact ⟨by kernel_rfl, of_decide_eq_true (by kernel_rfl)⟩
theorem liftedSubstStays (os : Os) (started : os.Started) (H : Type) (enc : TypeId × Value → H) :
    ReturnsInHanded {} Try.checked os 13 .any (Rows.substStaysSpec.pre6 enc Try.prog Try.f13 Rows.substStaysRow.domain false) (Rows.substStaysSpec.post enc Try.prog Try.f13 false true false false) := by
  refine returnsInHanded_of_change (C := Try.checked) own started (by kernel_rfl) Try.func13
    (ChangeSpec.witness6 (enc := enc) (C := Try.checked) false ⟨#[], #[.agg #[.slice none 0 0], .string ⟨#[]⟩, .agg #[.slice none 0 0]], []⟩ 8 (by kernel_rfl) (by kernel_rfl) (by kernel_rfl) (by kernel_rfl)) ?_
  intro W base args ds gs before hval0 hW hcnd _
  have hval : ∀ (j : Nat) t v, Try.f13.params[j]? = some t → args[j]? = some v → Value.okWide Try.prog W .any base t v := hval0
  have hW' := hW
  obtain ⟨p, q, hA0, hV, rfl, hfz, hnd⟩ := hW
  have hA : DataW.TrodAll enc Try.prog W 0 (fun _ => true) true Try.f13.params.toList args.toList ds p := hA0
  rw [Try.params13] at hA hval
  obtain ⟨v0, vs0, d0, ds0, p0, q0, hargs, rfl, rfl, t0, r0⟩ := trodAll_cons hA
  obtain ⟨v1, vs1, d1, ds1, p1, q1, rfl, rfl, rfl, t1, r1⟩ := trodAll_cons r0
  obtain ⟨v2, vs2, d2, ds2, p2, q2, rfl, rfl, rfl, t2, r2⟩ := trodAll_cons r1
  obtain ⟨rfl, rfl, rfl⟩ := trodAll_nil r2
  obtain rfl : args = #[v0, v1, v2] := by cases args; simp_all
  obtain ⟨rfl, rfl⟩ := trodVars_none hV
  obtain ⟨_, ⟨a0, h0, rfl⟩, c0⟩ := opens_arg op_37 (by rintro _ ⟨a, _, rfl⟩; rw [Try.underlying37]; rfl) (hval 0 37 v0 rfl rfl) t0
  obtain ⟨_, ⟨a1, h1, rfl⟩, c1⟩ := opens_arg op_9 (by rintro _ ⟨a, _, rfl⟩; rw [Try.underlying9]; rfl) (hval 1 9 v1 rfl rfl) t1
  obtain ⟨_, ⟨a2, h2, rfl⟩, c2⟩ := opens_arg op_37 (by rintro _ ⟨a, _, rfl⟩; rw [Try.underlying37]; rfl) (hval 2 37 v2 rfl rfl) t2
  refine (law_calls (vs := [v0, v1, v2]) (w_syntagmalaw09_SubstStays (law_SubstStays a0 a1 a2)) (by simp only [ConcL]; exact ⟨v0, _, rfl, c0, ⟨v1, _, rfl, c1, ⟨v2, _, rfl, c2, rfl⟩⟩⟩)).mono fun e W' ⟨he, bel⟩ => ?_
  exact ⟨_, he, law_post laidOutT hW' rfl rfl Try.underlying4 rfl rfl rfl (by rw [Try.params13]; exact readableSubstStays) bel⟩
theorem provedSubstStays : Rows.SubstStaysSaid :=
  OpenClaim.holds_of_wide 13 Try.f13 rfl rfl rfl rfl rfl rfl rfl ⟨rfl, rfl, rfl, rfl, rfl⟩ rfl rfl rfl rfl rfl (by kernel_rfl) Try.func13 (by kernel_rfl)
    (of_decide_eq_true (by kernel_rfl)) (by unfold Func.isWrapper; first | (rw [if_pos (by decide +kernel)]; kernel_rfl) | (rw [if_neg (by decide +kernel)]; exact ⟨rfl, rfl⟩))
    (fun os started H enc _ => liftedSubstStays os started H enc)
#print axioms provedSubstStays
end Go.Proofs.Ytnnjgbcojdnhhaa
