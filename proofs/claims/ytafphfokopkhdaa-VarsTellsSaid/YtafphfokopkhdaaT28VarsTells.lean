/- The statement, out of the parts ahead; no condition. -/
import Derived.Test.Ytafphfokopkhdaap5
import Derived.Test.YtafphfokopkhdaaRows
set_option linter.unusedVariables false
set_option linter.unusedSimpArgs false
set_option maxRecDepth 100000
namespace Go.Proofs.Ytafphfokopkhdaa
open Go.V Go.ChangeShapes Go.WideShapes Go.ChangeAt Go.RowKit
theorem own : ownKnob Try.prog.godebug = none := by kernel_rfl
theorem laidOutT : laidOutB Try.prog = true := by kernel_rfl
theorem op_4 : OpensD Try.prog 4 (fun d => ∃ a : Bool, (fun _ => True) a ∧ d = D.bool a) := ((opens_bool Try.underlying4).imp fun d ⟨b, h⟩ => ⟨b, trivial, h⟩)
theorem op_3 : OpensD Try.prog 3 (fun d => ∃ a : Int, (fun n => (Lit.int .i64 n).wf = true) a ∧ d = D.i64 a) := (opens_int Try.underlying3)
theorem op_28 : OpensD Try.prog 28 (fun d => ∃ a : (List Int), (fun l => l.length ≤ maxLen ∧ ∀ a ∈ l, (fun n => (Lit.int .i64 n).wf = true) a) a ∧ d = (D.list 1 D.i64) a) :=
  (opens_slice Try.underlying28 (by kernel_rfl) (by decide) op_3).imp fun d ⟨l, h1, h2, h3⟩ => ⟨l, ⟨h1, h2⟩, h3⟩
theorem op_9 : OpensD Try.prog 9 (fun d => ∃ a : (List UInt8), (fun s => s.length ≤ maxLen) a ∧ d = D.str a) := opens_string Try.underlying9
def AutoEdge.ok (b : AutoEdge) : Prop := (fun s => s.length ≤ maxLen) b.1 ∧ (fun n => (Lit.int .i64 n).wf = true) b.2
theorem fo_137 : ∀ fs : Array Field, Try.prog.underlying 137 = some (.struct fs) → FieldsOpen Try.prog fs.toList 0 (Try.prog.cellsOf 137) [(fun d => ∃ a : (List UInt8), (fun s => s.length ≤ maxLen) a ∧ d = D.str a), (fun d => ∃ a : Int, (fun n => (Lit.int .i64 n).wf = true) a ∧ d = D.i64 a)] := by
  intro fs h
  have := h.symm.trans Try.underlying137
  simp only [Option.some.injEq, TypeDesc.struct.injEq] at this
  subst this
  exact ⟨by kernel_rfl, op_9, ⟨by kernel_rfl, op_3, (show _ = _ from by kernel_rfl)⟩⟩
theorem op_137 : OpensD Try.prog 137 (fun d => ∃ a : AutoEdge, AutoEdge.ok a ∧ d = AutoEdge.d a) := by
  refine (opens_struct Try.underlying137 (fo_137 _ Try.underlying137)).imp ?_
  rintro _ ⟨ds, h, rfl⟩
  rcases ds with _ | ⟨d0, ds⟩
  · exact h.elim
  obtain ⟨⟨a0, h0, rfl⟩, h⟩ := h
  rcases ds with _ | ⟨d1, ds⟩
  · exact h.elim
  obtain ⟨⟨a1, h1, rfl⟩, h⟩ := h
  rcases ds with _ | ⟨d, ds⟩
  · exact ⟨⟨a0, a1⟩, ⟨h0, h1⟩, rfl⟩
  · exact h.elim
theorem op_130 : OpensD Try.prog 130 (fun d => ∃ a : (List AutoEdge), (fun l => l.length ≤ maxLen ∧ ∀ a ∈ l, AutoEdge.ok a) a ∧ d = (D.list 2 AutoEdge.d) a) :=
  (opens_slice Try.underlying130 (by kernel_rfl) (by decide) op_137).imp fun d ⟨l, h1, h2, h3⟩ => ⟨l, ⟨h1, h2⟩, h3⟩
def AutoState.ok (b : AutoState) : Prop := (fun _ => True) b.1 ∧ (fun _ => True) b.2 ∧ (fun _ => True) b.3 ∧ (fun _ => True) b.4 ∧ (fun _ => True) b.5 ∧ (fun _ => True) b.6 ∧ (fun _ => True) b.7 ∧ (fun _ => True) b.8 ∧ (fun l => l.length ≤ maxLen ∧ ∀ a ∈ l, (fun n => (Lit.int .i64 n).wf = true) a) b.9 ∧ (fun n => (Lit.int .i64 n).wf = true) b.10 ∧ (fun n => (Lit.int .i64 n).wf = true) b.11 ∧ (fun l => l.length ≤ maxLen ∧ ∀ a ∈ l, AutoEdge.ok a) b.12 ∧ (fun l => l.length ≤ maxLen ∧ ∀ a ∈ l, AutoEdge.ok a) b.13
theorem fo_132 : ∀ fs : Array Field, Try.prog.underlying 132 = some (.struct fs) → FieldsOpen Try.prog fs.toList 0 (Try.prog.cellsOf 132) [(fun d => ∃ a : Bool, (fun _ => True) a ∧ d = D.bool a), (fun d => ∃ a : Bool, (fun _ => True) a ∧ d = D.bool a), (fun d => ∃ a : Bool, (fun _ => True) a ∧ d = D.bool a), (fun d => ∃ a : Bool, (fun _ => True) a ∧ d = D.bool a), (fun d => ∃ a : Bool, (fun _ => True) a ∧ d = D.bool a), (fun d => ∃ a : Bool, (fun _ => True) a ∧ d = D.bool a), (fun d => ∃ a : Bool, (fun _ => True) a ∧ d = D.bool a), (fun d => ∃ a : Bool, (fun _ => True) a ∧ d = D.bool a), (fun d => ∃ a : (List Int), (fun l => l.length ≤ maxLen ∧ ∀ a ∈ l, (fun n => (Lit.int .i64 n).wf = true) a) a ∧ d = (D.list 1 D.i64) a), (fun d => ∃ a : Int, (fun n => (Lit.int .i64 n).wf = true) a ∧ d = D.i64 a), (fun d => ∃ a : Int, (fun n => (Lit.int .i64 n).wf = true) a ∧ d = D.i64 a), (fun d => ∃ a : (List AutoEdge), (fun l => l.length ≤ maxLen ∧ ∀ a ∈ l, AutoEdge.ok a) a ∧ d = (D.list 2 AutoEdge.d) a), (fun d => ∃ a : (List AutoEdge), (fun l => l.length ≤ maxLen ∧ ∀ a ∈ l, AutoEdge.ok a) a ∧ d = (D.list 2 AutoEdge.d) a)] := by
  intro fs h
  have := h.symm.trans Try.underlying132
  simp only [Option.some.injEq, TypeDesc.struct.injEq] at this
  subst this
  exact ⟨by kernel_rfl, op_4, ⟨by kernel_rfl, op_4, ⟨by kernel_rfl, op_4, ⟨by kernel_rfl, op_4, ⟨by kernel_rfl, op_4, ⟨by kernel_rfl, op_4, ⟨by kernel_rfl, op_4, ⟨by kernel_rfl, op_4, ⟨by kernel_rfl, op_28, ⟨by kernel_rfl, op_3, ⟨by kernel_rfl, op_3, ⟨by kernel_rfl, op_130, ⟨by kernel_rfl, op_130, (show _ = _ from by kernel_rfl)⟩⟩⟩⟩⟩⟩⟩⟩⟩⟩⟩⟩⟩
theorem op_132 : OpensD Try.prog 132 (fun d => ∃ a : AutoState, AutoState.ok a ∧ d = AutoState.d a) := by
  refine (opens_struct Try.underlying132 (fo_132 _ Try.underlying132)).imp ?_
  rintro _ ⟨ds, h, rfl⟩
  rcases ds with _ | ⟨d0, ds⟩
  · exact h.elim
  obtain ⟨⟨a0, h0, rfl⟩, h⟩ := h
  rcases ds with _ | ⟨d1, ds⟩
  · exact h.elim
  obtain ⟨⟨a1, h1, rfl⟩, h⟩ := h
  rcases ds with _ | ⟨d2, ds⟩
  · exact h.elim
  obtain ⟨⟨a2, h2, rfl⟩, h⟩ := h
  rcases ds with _ | ⟨d3, ds⟩
  · exact h.elim
  obtain ⟨⟨a3, h3, rfl⟩, h⟩ := h
  rcases ds with _ | ⟨d4, ds⟩
  · exact h.elim
  obtain ⟨⟨a4, h4, rfl⟩, h⟩ := h
  rcases ds with _ | ⟨d5, ds⟩
  · exact h.elim
  obtain ⟨⟨a5, h5, rfl⟩, h⟩ := h
  rcases ds with _ | ⟨d6, ds⟩
  · exact h.elim
  obtain ⟨⟨a6, h6, rfl⟩, h⟩ := h
  rcases ds with _ | ⟨d7, ds⟩
  · exact h.elim
  obtain ⟨⟨a7, h7, rfl⟩, h⟩ := h
  rcases ds with _ | ⟨d8, ds⟩
  · exact h.elim
  obtain ⟨⟨a8, h8, rfl⟩, h⟩ := h
  rcases ds with _ | ⟨d9, ds⟩
  · exact h.elim
  obtain ⟨⟨a9, h9, rfl⟩, h⟩ := h
  rcases ds with _ | ⟨d10, ds⟩
  · exact h.elim
  obtain ⟨⟨a10, h10, rfl⟩, h⟩ := h
  rcases ds with _ | ⟨d11, ds⟩
  · exact h.elim
  obtain ⟨⟨a11, h11, rfl⟩, h⟩ := h
  rcases ds with _ | ⟨d12, ds⟩
  · exact h.elim
  obtain ⟨⟨a12, h12, rfl⟩, h⟩ := h
  rcases ds with _ | ⟨d, ds⟩
  · exact ⟨⟨a0, a1, a2, a3, a4, a5, a6, a7, a8, a9, a10, a11, a12⟩, ⟨h0, h1, h2, h3, h4, h5, h6, h7, h8, h9, h10, h11, h12⟩, rfl⟩
  · exact h.elim
theorem op_72 : OpensD Try.prog 72 (fun d => ∃ a : (List AutoState), (fun l => l.length ≤ maxLen ∧ ∀ a ∈ l, AutoState.ok a) a ∧ d = (D.list 13 AutoState.d) a) :=
  (opens_slice Try.underlying72 (by kernel_rfl) (by decide) op_132).imp fun d ⟨l, h1, h2, h3⟩ => ⟨l, ⟨h1, h2⟩, h3⟩
def AutoAuto.ok (b : AutoAuto) : Prop := (fun l => l.length ≤ maxLen ∧ ∀ a ∈ l, AutoState.ok a) b.1 ∧ (fun n => (Lit.int .i64 n).wf = true) b.2
theorem fo_74 : ∀ fs : Array Field, Try.prog.underlying 74 = some (.struct fs) → FieldsOpen Try.prog fs.toList 0 (Try.prog.cellsOf 74) [(fun d => ∃ a : (List AutoState), (fun l => l.length ≤ maxLen ∧ ∀ a ∈ l, AutoState.ok a) a ∧ d = (D.list 13 AutoState.d) a), (fun d => ∃ a : Int, (fun n => (Lit.int .i64 n).wf = true) a ∧ d = D.i64 a)] := by
  intro fs h
  have := h.symm.trans Try.underlying74
  simp only [Option.some.injEq, TypeDesc.struct.injEq] at this
  subst this
  exact ⟨by kernel_rfl, op_72, ⟨by kernel_rfl, op_3, (show _ = _ from by kernel_rfl)⟩⟩
theorem op_74 : OpensD Try.prog 74 (fun d => ∃ a : AutoAuto, AutoAuto.ok a ∧ d = AutoAuto.d a) := by
  refine (opens_struct Try.underlying74 (fo_74 _ Try.underlying74)).imp ?_
  rintro _ ⟨ds, h, rfl⟩
  rcases ds with _ | ⟨d0, ds⟩
  · exact h.elim
  obtain ⟨⟨a0, h0, rfl⟩, h⟩ := h
  rcases ds with _ | ⟨d1, ds⟩
  · exact h.elim
  obtain ⟨⟨a1, h1, rfl⟩, h⟩ := h
  rcases ds with _ | ⟨d, ds⟩
  · exact ⟨⟨a0, a1⟩, ⟨h0, h1⟩, rfl⟩
  · exact h.elim
theorem readableVarsTells : ∀ t ∈ #[74].toList, Try.prog.readableRec t = true ∧ t < Try.prog.types.size := by
  intro t ht
  simp only [List.mem_cons, List.not_mem_nil, or_false] at ht
  rcases ht with rfl <;> exact ⟨by kernel_rfl, of_decide_eq_true (by kernel_rfl)⟩
theorem liftedVarsTells (os : Os) (started : os.Started) (H : Type) (enc : TypeId × Value → H) :
    ReturnsInHanded {} Try.checked os 10 .any (Rows.varsTellsSpec.pre6 enc Try.prog Try.f10 Rows.varsTellsRow.domain false) (Rows.varsTellsSpec.post enc Try.prog Try.f10 false true false false) := by
  refine returnsInHanded_of_change (C := Try.checked) own started (by kernel_rfl) Try.func10
    (ChangeSpec.witness6 (enc := enc) (C := Try.checked) false ⟨#[], #[.agg #[.slice none 0 0, .int .i64 0]], []⟩ 8 (by kernel_rfl) (by kernel_rfl) (by kernel_rfl) (by kernel_rfl)) ?_
  intro W base args ds gs before hval0 hW hcnd _
  have hval : ∀ (j : Nat) t v, Try.f10.params[j]? = some t → args[j]? = some v → Value.okWide Try.prog W .any base t v := hval0
  have hW' := hW
  obtain ⟨p, q, hA0, hV, rfl, hfz, hnd⟩ := hW
  have hA : DataW.TrodAll enc Try.prog W 0 (fun _ => true) true Try.f10.params.toList args.toList ds p := hA0
  rw [Try.params10] at hA hval
  obtain ⟨v0, vs0, d0, ds0, p0, q0, hargs, rfl, rfl, t0, r0⟩ := trodAll_cons hA
  obtain ⟨rfl, rfl, rfl⟩ := trodAll_nil r0
  obtain rfl : args = #[v0] := by cases args; simp_all
  obtain ⟨rfl, rfl⟩ := trodVars_none hV
  obtain ⟨_, ⟨a0, h0, rfl⟩, c0⟩ := opens_arg op_74 (by rintro _ ⟨a, _, rfl⟩; rw [Try.underlying74]; rfl) (hval 0 74 v0 rfl rfl) t0
  refine (law_calls (vs := [v0]) (w_syntagmalaw28_VarsTells (law_VarsTells a0)) (by simp only [ConcL]; exact ⟨v0, _, rfl, c0, rfl⟩)).mono fun e W' ⟨he, bel⟩ => ?_
  exact ⟨_, he, law_post laidOutT hW' rfl rfl Try.underlying4 rfl rfl rfl (by rw [Try.params10]; exact readableVarsTells) bel⟩
theorem provedVarsTells : Rows.VarsTellsSaid :=
  OpenClaim.holds_of_wide 10 Try.f10 rfl rfl rfl rfl rfl rfl rfl ⟨rfl, rfl, rfl, rfl, rfl⟩ rfl rfl rfl rfl rfl (by kernel_rfl) Try.func10 (by kernel_rfl)
    (of_decide_eq_true (by kernel_rfl)) (by unfold Func.isWrapper; first | (rw [if_pos (by decide +kernel)]; kernel_rfl) | (rw [if_neg (by decide +kernel)]; exact ⟨rfl, rfl⟩))
    (fun os started H enc _ => liftedVarsTells os started H enc)
#print axioms provedVarsTells
end Go.Proofs.Ytafphfokopkhdaa
