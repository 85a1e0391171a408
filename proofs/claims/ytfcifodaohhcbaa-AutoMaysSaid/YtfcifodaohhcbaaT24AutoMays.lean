/- Part T24AutoMays of the proof: contracts of the functions that are walked, and what they compute; no condition. -/
import Derived.Test.YtfcifodaohhcbaaV17
import Derived.Test.YtfcifodaohhcbaaC24f
import Derived.Test.YtfcifodaohhcbaaRows
set_option linter.unusedVariables false
set_option linter.unusedSimpArgs false
set_option maxRecDepth 100000
namespace Go.Proofs.Ytfcifodaohhcbaa
open Go.V Go.ChangeShapes Go.WideShapes Go.ChangeAt Go.RowKit
theorem own : ownKnob Try.prog.godebug = none := by kernel_rfl
theorem laidOutT : laidOutB Try.prog = true := by kernel_rfl
theorem op_4 : OpensD Try.prog 4 (fun d => ∃ a : Bool, (fun _ => True) a ∧ d = D.bool a) := (opens_bool Try.underlying4).imp fun d ⟨b, h⟩ => ⟨b, trivial, h⟩
theorem op_3 : OpensD Try.prog 3 (fun d => ∃ a : Int, (fun n => (Lit.int .i64 n).wf = true) a ∧ d = D.i64 a) := opens_int Try.underlying3
theorem op_47 : OpensD Try.prog 47 (fun d => ∃ a : (List Int), (fun l => l.length ≤ maxLen ∧ ∀ a ∈ l, (fun n => (Lit.int .i64 n).wf = true) a) a ∧ d = (D.list 1 D.i64) a) :=
  (opens_slice Try.underlying47 (by kernel_rfl) (by decide) op_3).imp fun d ⟨l, h1, h2, h3⟩ => ⟨l, ⟨h1, h2⟩, h3⟩
theorem op_9 : OpensD Try.prog 9 (fun d => ∃ a : (List UInt8), (fun s => s.length ≤ maxLen) a ∧ d = D.str a) := opens_string Try.underlying9
def AutoEdge.ok (b : AutoEdge) : Prop := (fun s => s.length ≤ maxLen) b.1 ∧ (fun n => (Lit.int .i64 n).wf = true) b.2
theorem fo_144 : ∀ fs : Array Field, Try.prog.underlying 144 = some (.struct fs) → FieldsOpen Try.prog fs.toList 0 (Try.prog.cellsOf 144) [(fun d => ∃ a : (List UInt8), (fun s => s.length ≤ maxLen) a ∧ d = D.str a), (fun d => ∃ a : Int, (fun n => (Lit.int .i64 n).wf = true) a ∧ d = D.i64 a)] := by
  intro fs h
  have := h.symm.trans Try.underlying144
  simp only [Option.some.injEq, TypeDesc.struct.injEq] at this
  subst this
  exact ⟨by kernel_rfl, op_9, ⟨by kernel_rfl, op_3, (show _ = _ from by kernel_rfl)⟩⟩
theorem op_144 : OpensD Try.prog 144 (fun d => ∃ a : AutoEdge, AutoEdge.ok a ∧ d = AutoEdge.d a) := by
  refine (opens_struct Try.underlying144 (fo_144 _ Try.underlying144)).imp ?_
  rintro _ ⟨ds, h, rfl⟩
  rcases ds with _ | ⟨d0, ds⟩
  · exact h.elim
  obtain ⟨⟨a0, h0, rfl⟩, h⟩ := h
  rcases ds with _ | ⟨d1, ds⟩
  · exact h.elim
  obtain ⟨⟨a1, h1, rfl⟩, h⟩ := h
  rcases ds with _ | ⟨d, ds⟩
  · exact ⟨⟨a0, a1⟩, ⟨h0, h1⟩, rfl⟩
  · exact h.elim
theorem op_91 : OpensD Try.prog 91 (fun d => ∃ a : (List AutoEdge), (fun l => l.length ≤ maxLen ∧ ∀ a ∈ l, AutoEdge.ok a) a ∧ d = (D.list 2 AutoEdge.d) a) :=
  (opens_slice Try.underlying91 (by kernel_rfl) (by decide) op_144).imp fun d ⟨l, h1, h2, h3⟩ => ⟨l, ⟨h1, h2⟩, h3⟩
def AutoState.ok (b : AutoState) : Prop := (fun _ => True) b.1 ∧ (fun _ => True) b.2 ∧ (fun _ => True) b.3 ∧ (fun _ => True) b.4 ∧ (fun _ => True) b.5 ∧ (fun _ => True) b.6 ∧ (fun _ => True) b.7 ∧ (fun _ => True) b.8 ∧ (fun l => l.length ≤ maxLen ∧ ∀ a ∈ l, (fun n => (Lit.int .i64 n).wf = true) a) b.9 ∧ (fun n => (Lit.int .i64 n).wf = true) b.10 ∧ (fun n => (Lit.int .i64 n).wf = true) b.11 ∧ (fun l => l.length ≤ maxLen ∧ ∀ a ∈ l, AutoEdge.ok a) b.12 ∧ (fun l => l.length ≤ maxLen ∧ ∀ a ∈ l, AutoEdge.ok a) b.13
theorem fo_93 : ∀ fs : Array Field, Try.prog.underlying 93 = some (.struct fs) → FieldsOpen Try.prog fs.toList 0 (Try.prog.cellsOf 93) [(fun d => ∃ a : Bool, (fun _ => True) a ∧ d = D.bool a), (fun d => ∃ a : Bool, (fun _ => True) a ∧ d = D.bool a), (fun d => ∃ a : Bool, (fun _ => True) a ∧ d = D.bool a), (fun d => ∃ a : Bool, (fun _ => True) a ∧ d = D.bool a), (fun d => ∃ a : Bool, (fun _ => True) a ∧ d = D.bool a), (fun d => ∃ a : Bool, (fun _ => True) a ∧ d = D.bool a), (fun d => ∃ a : Bool, (fun _ => True) a ∧ d = D.bool a), (fun d => ∃ a : Bool, (fun _ => True) a ∧ d = D.bool a), (fun d => ∃ a : (List Int), (fun l => l.length ≤ maxLen ∧ ∀ a ∈ l, (fun n => (Lit.int .i64 n).wf = true) a) a ∧ d = (D.list 1 D.i64) a), (fun d => ∃ a : Int, (fun n => (Lit.int .i64 n).wf = true) a ∧ d = D.i64 a), (fun d => ∃ a : Int, (fun n => (Lit.int .i64 n).wf = true) a ∧ d = D.i64 a), (fun d => ∃ a : (List AutoEdge), (fun l => l.length ≤ maxLen ∧ ∀ a ∈ l, AutoEdge.ok a) a ∧ d = (D.list 2 AutoEdge.d) a), (fun d => ∃ a : (List AutoEdge), (fun l => l.length ≤ maxLen ∧ ∀ a ∈ l, AutoEdge.ok a) a ∧ d = (D.list 2 AutoEdge.d) a)] := by
  intro fs h
  have := h.symm.trans Try.underlying93
  simp only [Option.some.injEq, TypeDesc.struct.injEq] at this
  subst this
  exact ⟨by kernel_rfl, op_4, ⟨by kernel_rfl, op_4, ⟨by kernel_rfl, op_4, ⟨by kernel_rfl, op_4, ⟨by kernel_rfl, op_4, ⟨by kernel_rfl, op_4, ⟨by kernel_rfl, op_4, ⟨by kernel_rfl, op_4, ⟨by kernel_rfl, op_47, ⟨by kernel_rfl, op_3, ⟨by kernel_rfl, op_3, ⟨by kernel_rfl, op_91, ⟨by kernel_rfl, op_91, (show _ = _ from by kernel_rfl)⟩⟩⟩⟩⟩⟩⟩⟩⟩⟩⟩⟩⟩
theorem op_93 : OpensD Try.prog 93 (fun d => ∃ a : AutoState, AutoState.ok a ∧ d = AutoState.d a) := by
  refine (opens_struct Try.underlying93 (fo_93 _ Try.underlying93)).imp ?_
  rintro _ ⟨ds, h, rfl⟩
  rcases ds with _ | ⟨d0, ds⟩
  · exact h.elim
  obtain ⟨⟨a0, h0, rfl⟩, h⟩ := h
  rcases ds with _ | ⟨d1, ds⟩
  · exact h.elim
  obtain ⟨⟨a1, h1, rfl⟩, h⟩ := h
  rcases ds with _ | ⟨d2, ds⟩
  · exact h.elim
  obtain ⟨⟨a2, h2, rfl⟩, h⟩ := h
  rcases ds with _ | ⟨d3, ds⟩
  · exact h.elim
  obtain ⟨⟨a3, h3, rfl⟩, h⟩ := h
  rcases ds with _ | ⟨d4, ds⟩
  · exact h.elim
  obtain ⟨⟨a4, h4, rfl⟩, h⟩ := h
  rcases ds with _ | ⟨d5, ds⟩
  · exact h.elim
  obtain ⟨⟨a5, h5, rfl⟩, h⟩ := h
  rcases ds with _ | ⟨d6, ds⟩
  · exact h.elim
  obtain ⟨⟨a6, h6, rfl⟩, h⟩ := h
  rcases ds with _ | ⟨d7, ds⟩
  · exact h.elim
  obtain ⟨⟨a7, h7, rfl⟩, h⟩ := h
  rcases ds with _ | ⟨d8, ds⟩
  · exact h.elim
  obtain ⟨⟨a8, h8, rfl⟩, h⟩ := h
  rcases ds with _ | ⟨d9, ds⟩
  · exact h.elim
  obtain ⟨⟨a9, h9, rfl⟩, h⟩ := h
  rcases ds with _ | ⟨d10, ds⟩
  · exact h.elim
  obtain ⟨⟨a10, h10, rfl⟩, h⟩ := h
  rcases ds with _ | ⟨d11, ds⟩
  · exact h.elim
  obtain ⟨⟨a11, h11, rfl⟩, h⟩ := h
  rcases ds with _ | ⟨d12, ds⟩
  · exact h.elim
  obtain ⟨⟨a12, h12, rfl⟩, h⟩ := h
  rcases ds with _ | ⟨d, ds⟩
  · exact ⟨⟨a0, a1, a2, a3, a4, a5, a6, a7, a8, a9, a10, a11, a12⟩, ⟨h0, h1, h2, h3, h4, h5, h6, h7, h8, h9, h10, h11, h12⟩, rfl⟩
  · exact h.elim
theorem op_76 : OpensD Try.prog 76 (fun d => ∃ a : (List AutoState), (fun l => l.length ≤ maxLen ∧ ∀ a ∈ l, AutoState.ok a) a ∧ d = (D.list 13 AutoState.d) a) :=
  (opens_slice Try.underlying76 (by kernel_rfl) (by decide) op_93).imp fun d ⟨l, h1, h2, h3⟩ => ⟨l, ⟨h1, h2⟩, h3⟩
def AutoAuto.ok (b : AutoAuto) : Prop := (fun l => l.length ≤ maxLen ∧ ∀ a ∈ l, AutoState.ok a) b.1 ∧ (fun n => (Lit.int .i64 n).wf = true) b.2
theorem fo_78 : ∀ fs : Array Field, Try.prog.underlying 78 = some (.struct fs) → FieldsOpen Try.prog fs.toList 0 (Try.prog.cellsOf 78) [(fun d => ∃ a : (List AutoState), (fun l => l.length ≤ maxLen ∧ ∀ a ∈ l, AutoState.ok a) a ∧ d = (D.list 13 AutoState.d) a), (fun d => ∃ a : Int, (fun n => (Lit.int .i64 n).wf = true) a ∧ d = D.i64 a)] := by
  intro fs h
  have := h.symm.trans Try.underlying78
  simp only [Option.some.injEq, TypeDesc.struct.injEq] at this
  subst this
  exact ⟨by kernel_rfl, op_76, ⟨by kernel_rfl, op_3, (show _ = _ from by kernel_rfl)⟩⟩
theorem op_78 : OpensD Try.prog 78 (fun d => ∃ a : AutoAuto, AutoAuto.ok a ∧ d = AutoAuto.d a) := by
  refine (opens_struct Try.underlying78 (fo_78 _ Try.underlying78)).imp ?_
  rintro _ ⟨ds, h, rfl⟩
  rcases ds with _ | ⟨d0, ds⟩
  · exact h.elim
  obtain ⟨⟨a0, h0, rfl⟩, h⟩ := h
  rcases ds with _ | ⟨d1, ds⟩
  · exact h.elim
  obtain ⟨⟨a1, h1, rfl⟩, h⟩ := h
  rcases ds with _ | ⟨d, ds⟩
  · exact ⟨⟨a0, a1⟩, ⟨h0, h1⟩, rfl⟩
  · exact h.elim
theorem readableAutoMays : ∀ t ∈ #[78, 3].toList, Try.prog.readableRec t = true ∧ t < Try.prog.types.size := by
  intro t ht
  simp only [List.mem_cons, List.not_mem_nil, or_false] at ht
  rcases ht with rfl | rfl <;> exact ⟨by kernel_rfl, of_decide_eq_true (by kernel_rfl)⟩

theorem liftedAutoMays (os : Os) (started : os.Started) (H : Type) (enc : TypeId × Value → H) :
    ReturnsInHanded {} Try.checked os 10 .any (Rows.autoMaysSpec.pre6 enc Try.prog Try.f10 Rows.autoMaysRow.domain false) (Rows.autoMaysSpec.post enc Try.prog Try.f10 false true false false) := by
  refine returnsInHanded_of_change (C := Try.checked) own started (by kernel_rfl) Try.func10
    (ChangeSpec.witness6 (enc := enc) (C := Try.checked) false ⟨#[], #[.agg #[.slice none 0 0, .int .i64 0], .int .i64 0], []⟩ 8 (by kernel_rfl) (by kernel_rfl) (by kernel_rfl) (by kernel_rfl)) ?_
  intro W base args ds gs before hval0 hW hcnd _
  have hval : ∀ (j : Nat) t v, Try.f10.params[j]? = some t → args[j]? = some v → Value.okWide Try.prog W .any base t v := hval0
  have hW' := hW
  obtain ⟨p, q, hA0, hV, rfl, hfz, hnd⟩ := hW
  have hA : DataW.TrodAll enc Try.prog W 0 (fun _ => true) true Try.f10.params.toList args.toList ds p := hA0
  rw [Try.params10] at hA hval
  obtain ⟨v0, vs0, d0, ds0, p0, q0, hargs, rfl, rfl, t0, r0⟩ := trodAll_cons hA
  obtain ⟨v1, vs1, d1, ds1, p1, q1, rfl, rfl, rfl, t1, r1⟩ := trodAll_cons r0
  obtain ⟨rfl, rfl, rfl⟩ := trodAll_nil r1
  obtain rfl : args = #[v0, v1] := by cases args; simp_all
  obtain ⟨rfl, rfl⟩ := trodVars_none hV
  obtain ⟨_, ⟨a0, h0, rfl⟩, c0⟩ := opens_arg op_78 (by rintro _ ⟨a, _, rfl⟩; rw [Try.underlying78]; rfl) (hval 0 78 v0 rfl rfl) t0
  obtain ⟨_, ⟨a1, h1, rfl⟩, c1⟩ := opens_arg op_3 (by rintro _ ⟨a, _, rfl⟩; rw [Try.underlying3]; rfl) (hval 1 3 v1 rfl rfl) t1
  refine (law_calls (vs := [v0, v1]) (w_syntagmalaw24_AutoMays (law_AutoMays a0 a1)) (by simp only [ConcL]; exact ⟨v0, _, rfl, c0, ⟨v1, _, rfl, c1, rfl⟩⟩)).mono fun e W' ⟨he, bel⟩ => ?_
  exact ⟨_, he, law_post laidOutT hW' rfl rfl Try.underlying4 rfl rfl rfl (by rw [Try.params10]; exact readableAutoMays) bel⟩

theorem provedAutoMays : Rows.AutoMaysSaid :=
  OpenClaim.holds_of_wide 10 Try.f10 rfl rfl rfl rfl rfl rfl rfl ⟨rfl, rfl, rfl, rfl, rfl⟩ rfl rfl rfl rfl rfl (by kernel_rfl) Try.func10 (by kernel_rfl)
    (of_decide_eq_true (by kernel_rfl)) (by unfold Func.isWrapper; first | (rw [if_pos (by decide +kernel)]; kernel_rfl) | (rw [if_neg (by decide +kernel)]; exact ⟨rfl, rfl⟩))
    (fun os started H enc _ => liftedAutoMays os started H enc)
#print axioms provedAutoMays

end Go.Proofs.Ytfcifodaohhcbaa
