/- The statement, out of the parts ahead; no condition. -/
import Derived.Test.Ytafphfokopkhdaap4
import Derived.Test.YtafphfokopkhdaaRows
set_option linter.unusedVariables false
set_option linter.unusedSimpArgs false
set_option maxRecDepth 100000
namespace Go.Proofs.Ytafphfokopkhdaa
open Go.V Go.ChangeShapes Go.WideShapes Go.ChangeAt Go.RowKit
theorem own : ownKnob Try.prog.godebug = none := by kernel_rfl
theorem laidOutT : laidOutB Try.prog = true := by kernel_rfl
theorem op_3 : OpensD Try.prog 3 (fun d => ∃ a : Int, (fun n => (Lit.int .i64 n).wf = true) a ∧ d = D.i64 a) := (opens_int Try.underlying3)
theorem op_9 : OpensD Try.prog 9 (fun d => ∃ a : (List UInt8), (fun s => s.length ≤ maxLen) a ∧ d = D.str a) := opens_string Try.underlying9
def ApiTField.ok (b : ApiTField) : Prop := (fun s => s.length ≤ maxLen) b.1 ∧ (fun n => (Lit.int .i64 n).wf = true) b.2
theorem fo_100 : ∀ fs : Array Field, Try.prog.underlying 100 = some (.struct fs) → FieldsOpen Try.prog fs.toList 0 (Try.prog.cellsOf 100) [(fun d => ∃ a : (List UInt8), (fun s => s.length ≤ maxLen) a ∧ d = D.str a), (fun d => ∃ a : Int, (fun n => (Lit.int .i64 n).wf = true) a ∧ d = D.i64 a)] := by
  intro fs h
  have := h.symm.trans Try.underlying100
  simp only [Option.some.injEq, TypeDesc.struct.injEq] at this
  subst this
  exact ⟨by kernel_rfl, op_9, ⟨by kernel_rfl, op_3, (show _ = _ from by kernel_rfl)⟩⟩
theorem op_100 : OpensD Try.prog 100 (fun d => ∃ a : ApiTField, ApiTField.ok a ∧ d = ApiTField.d a) := by
  refine (opens_struct Try.underlying100 (fo_100 _ Try.underlying100)).imp ?_
  rintro _ ⟨ds, h, rfl⟩
  rcases ds with _ | ⟨d0, ds⟩
  · exact h.elim
  obtain ⟨⟨a0, h0, rfl⟩, h⟩ := h
  rcases ds with _ | ⟨d1, ds⟩
  · exact h.elim
  obtain ⟨⟨a1, h1, rfl⟩, h⟩ := h
  rcases ds with _ | ⟨d, ds⟩
  · exact ⟨⟨a0, a1⟩, ⟨h0, h1⟩, rfl⟩
  · exact h.elim
theorem op_54 : OpensD Try.prog 54 (fun d => ∃ a : (List ApiTField), (fun l => l.length ≤ maxLen ∧ ∀ a ∈ l, ApiTField.ok a) a ∧ d = (D.list 2 ApiTField.d) a) :=
  (opens_slice Try.underlying54 (by kernel_rfl) (by decide) op_100).imp fun d ⟨l, h1, h2, h3⟩ => ⟨l, ⟨h1, h2⟩, h3⟩
def ApiTNode.ok (b : ApiTNode) : Prop := (fun n => (Lit.int .i64 n).wf = true) b.1 ∧ (fun n => (Lit.int .i64 n).wf = true) b.2 ∧ (fun n => (Lit.int .i64 n).wf = true) b.3 ∧ (fun l => l.length ≤ maxLen ∧ ∀ a ∈ l, ApiTField.ok a) b.4
theorem fo_56 : ∀ fs : Array Field, Try.prog.underlying 56 = some (.struct fs) → FieldsOpen Try.prog fs.toList 0 (Try.prog.cellsOf 56) [(fun d => ∃ a : Int, (fun n => (Lit.int .i64 n).wf = true) a ∧ d = D.i64 a), (fun d => ∃ a : Int, (fun n => (Lit.int .i64 n).wf = true) a ∧ d = D.i64 a), (fun d => ∃ a : Int, (fun n => (Lit.int .i64 n).wf = true) a ∧ d = D.i64 a), (fun d => ∃ a : (List ApiTField), (fun l => l.length ≤ maxLen ∧ ∀ a ∈ l, ApiTField.ok a) a ∧ d = (D.list 2 ApiTField.d) a)] := by
  intro fs h
  have := h.symm.trans Try.underlying56
  simp only [Option.some.injEq, TypeDesc.struct.injEq] at this
  subst this
  exact ⟨by kernel_rfl, op_3, ⟨by kernel_rfl, op_3, ⟨by kernel_rfl, op_3, ⟨by kernel_rfl, op_54, (show _ = _ from by kernel_rfl)⟩⟩⟩⟩
theorem op_56 : OpensD Try.prog 56 (fun d => ∃ a : ApiTNode, ApiTNode.ok a ∧ d = ApiTNode.d a) := by
  refine (opens_struct Try.underlying56 (fo_56 _ Try.underlying56)).imp ?_
  rintro _ ⟨ds, h, rfl⟩
  rcases ds with _ | ⟨d0, ds⟩
  · exact h.elim
  obtain ⟨⟨a0, h0, rfl⟩, h⟩ := h
  rcases ds with _ | ⟨d1, ds⟩
  · exact h.elim
  obtain ⟨⟨a1, h1, rfl⟩, h⟩ := h
  rcases ds with _ | ⟨d2, ds⟩
  · exact h.elim
  obtain ⟨⟨a2, h2, rfl⟩, h⟩ := h
  rcases ds with _ | ⟨d3, ds⟩
  · exact h.elim
  obtain ⟨⟨a3, h3, rfl⟩, h⟩ := h
  rcases ds with _ | ⟨d, ds⟩
  · exact ⟨⟨a0, a1, a2, a3⟩, ⟨h0, h1, h2, h3⟩, rfl⟩
  · exact h.elim
theorem op_51 : OpensD Try.prog 51 (fun d => ∃ a : (List ApiTNode), (fun l => l.length ≤ maxLen ∧ ∀ a ∈ l, ApiTNode.ok a) a ∧ d = (D.list 4 ApiTNode.d) a) :=
  (opens_slice Try.underlying51 (by kernel_rfl) (by decide) op_56).imp fun d ⟨l, h1, h2, h3⟩ => ⟨l, ⟨h1, h2⟩, h3⟩
def ApiType.ok (b : ApiType) : Prop := (fun l => l.length ≤ maxLen ∧ ∀ a ∈ l, ApiTNode.ok a) b.1 ∧ (fun n => (Lit.int .i64 n).wf = true) b.2
theorem fo_53 : ∀ fs : Array Field, Try.prog.underlying 53 = some (.struct fs) → FieldsOpen Try.prog fs.toList 0 (Try.prog.cellsOf 53) [(fun d => ∃ a : (List ApiTNode), (fun l => l.length ≤ maxLen ∧ ∀ a ∈ l, ApiTNode.ok a) a ∧ d = (D.list 4 ApiTNode.d) a), (fun d => ∃ a : Int, (fun n => (Lit.int .i64 n).wf = true) a ∧ d = D.i64 a)] := by
  intro fs h
  have := h.symm.trans Try.underlying53
  simp only [Option.some.injEq, TypeDesc.struct.injEq] at this
  subst this
  exact ⟨by kernel_rfl, op_51, ⟨by kernel_rfl, op_3, (show _ = _ from by kernel_rfl)⟩⟩
theorem op_53 : OpensD Try.prog 53 (fun d => ∃ a : ApiType, ApiType.ok a ∧ d = ApiType.d a) := by
  refine (opens_struct Try.underlying53 (fo_53 _ Try.underlying53)).imp ?_
  rintro _ ⟨ds, h, rfl⟩
  rcases ds with _ | ⟨d0, ds⟩
  · exact h.elim
  obtain ⟨⟨a0, h0, rfl⟩, h⟩ := h
  rcases ds with _ | ⟨d1, ds⟩
  · exact h.elim
  obtain ⟨⟨a1, h1, rfl⟩, h⟩ := h
  rcases ds with _ | ⟨d, ds⟩
  · exact ⟨⟨a0, a1⟩, ⟨h0, h1⟩, rfl⟩
  · exact h.elim
theorem readableGraphStays : ∀ t ∈ #[53, 53].toList, Try.prog.readableRec t = true ∧ t < Try.prog.types.size := by
  intro t ht
  simp only [List.mem_cons, List.not_mem_nil, or_false] at ht
  rcases ht with rfl | rfl <;> exact ⟨by kernel_rfl, of_decide_eq_true (by kernel_rfl)⟩
theorem liftedGraphStays (os : Os) (started : os.Started) (H : Type) (enc : TypeId × Value → H) :
    ReturnsInHanded {} Try.checked os 9 .any (Rows.graphStaysSpec.pre6 enc Try.prog Try.f9 Rows.graphStaysRow.domain false) (Rows.graphStaysSpec.post enc Try.prog Try.f9 false true false false) := by
  refine returnsInHanded_of_change (C := Try.checked) own started (by kernel_rfl) Try.func9
    (ChangeSpec.witness6 (enc := enc) (C := Try.checked) false ⟨#[], #[.agg #[.slice none 0 0, .int .i64 0], .agg #[.slice none 0 0, .int .i64 0]], []⟩ 8 (by kernel_rfl) (by kernel_rfl) (by kernel_rfl) (by kernel_rfl)) ?_
  intro W base args ds gs before hval0 hW hcnd _
  have hval : ∀ (j : Nat) t v, Try.f9.params[j]? = some t → args[j]? = some v → Value.okWide Try.prog W .any base t v := hval0
  have hW' := hW
  obtain ⟨p, q, hA0, hV, rfl, hfz, hnd⟩ := hW
  have hA : DataW.TrodAll enc Try.prog W 0 (fun _ => true) true Try.f9.params.toList args.toList ds p := hA0
  rw [Try.params9] at hA hval
  obtain ⟨v0, vs0, d0, ds0, p0, q0, hargs, rfl, rfl, t0, r0⟩ := trodAll_cons hA
  obtain ⟨v1, vs1, d1, ds1, p1, q1, rfl, rfl, rfl, t1, r1⟩ := trodAll_cons r0
  obtain ⟨rfl, rfl, rfl⟩ := trodAll_nil r1
  obtain rfl : args = #[v0, v1] := by cases args; simp_all
  obtain ⟨rfl, rfl⟩ := trodVars_none hV
  obtain ⟨_, ⟨a0, h0, rfl⟩, c0⟩ := opens_arg op_53 (by rintro _ ⟨a, _, rfl⟩; rw [Try.underlying53]; rfl) (hval 0 53 v0 rfl rfl) t0
  obtain ⟨_, ⟨a1, h1, rfl⟩, c1⟩ := opens_arg op_53 (by rintro _ ⟨a, _, rfl⟩; rw [Try.underlying53]; rfl) (hval 1 53 v1 rfl rfl) t1
  refine (law_calls (vs := [v0, v1]) (w_syntagmalaw13_GraphStays (law_GraphStays a0 a1)) (by simp only [ConcL]; exact ⟨v0, _, rfl, c0, ⟨v1, _, rfl, c1, rfl⟩⟩)).mono fun e W' ⟨he, bel⟩ => ?_
  exact ⟨_, he, law_post laidOutT hW' rfl rfl Try.underlying4 rfl rfl rfl (by rw [Try.params9]; exact readableGraphStays) bel⟩
theorem provedGraphStays : Rows.GraphStaysSaid :=
  OpenClaim.holds_of_wide 9 Try.f9 rfl rfl rfl rfl rfl rfl rfl ⟨rfl, rfl, rfl, rfl, rfl⟩ rfl rfl rfl rfl rfl (by kernel_rfl) Try.func9 (by kernel_rfl)
    (of_decide_eq_true (by kernel_rfl)) (by unfold Func.isWrapper; first | (rw [if_pos (by decide +kernel)]; kernel_rfl) | (rw [if_neg (by decide +kernel)]; exact ⟨rfl, rfl⟩))
    (fun os started H enc _ => liftedGraphStays os started H enc)
#print axioms provedGraphStays
end Go.Proofs.Ytafphfokopkhdaa
