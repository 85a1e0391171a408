/- The statement, out of the parts ahead; no condition. -/
import Derived.Test.YtcoghblhdjmbfaaGreatb9
import Derived.Test.YtcoghblhdjmbfaaGreatRows
set_option linter.unusedVariables false
set_option linter.unusedSimpArgs false
set_option maxRecDepth 100000
namespace Go.Proofs.YtcoghblhdjmbfaaGreat
open Go.V Go.ChangeShapes Go.WideShapes Go.ChangeAt Go.RowKit
theorem own : ownKnob Tryz.prog.godebug = none := by kernel_rfl
theorem laidOutT : laidOutB Tryz.prog = true := by kernel_rfl
theorem op_4 : OpensD Tryz.prog 4 (fun d => ∃ a : Bool, (fun _ => True) a /\ d = D.bool a) := ((opens_bool Tryz.underlying4).imp fun d ⟨b, h⟩ => ⟨b, trivial, h⟩)
theorem op_3 : OpensD Tryz.prog 3 (fun d => ∃ a : Int, (fun n => (Lit.int .i64 n).wf = true) a /\ d = D.i64 a) := (opens_int Tryz.underlying3)
theorem op_43 : OpensD Tryz.prog 43 (fun d => ∃ a : (List Int), (fun l => l.length <= maxLen /\ ∀ a ∈ l, (fun n => (Lit.int .i64 n).wf = true) a) a /\ d = (D.list 1 D.i64) a) :=
 (opens_slice Tryz.underlying43 (by kernel_rfl) (by decide) op_3).imp fun d ⟨l, h1, h2, h3⟩ => ⟨l, ⟨h1, h2⟩, h3⟩
theorem op_9 : OpensD Tryz.prog 9 (fun d => ∃ a : (List UInt8), (fun s => s.length <= maxLen) a /\ d = D.str a) := opens_string Tryz.underlying9
def AutoEdge.ok (b : AutoEdge) : Prop := (fun s => s.length <= maxLen) b.1 /\ (fun n => (Lit.int .i64 n).wf = true) b.2
theorem fo_61 : ∀ fs : Array Field, Tryz.prog.underlying 61 = some (.struct fs) -> FieldsOpen Tryz.prog fs.toList 0 (Tryz.prog.cellsOf 61) [(fun d => ∃ a : (List UInt8), (fun s => s.length <= maxLen) a /\ d = D.str a), (fun d => ∃ a : Int, (fun n => (Lit.int .i64 n).wf = true) a /\ d = D.i64 a)] := by
 intro fs h
 have := h.symm.trans Tryz.underlying61
 simp only [Option.some.injEq, TypeDesc.struct.injEq] at this;subst this;exact ⟨by kernel_rfl, op_9, ⟨by kernel_rfl, op_3, (show _ = _ from by kernel_rfl)⟩⟩
theorem op_61 : OpensD Tryz.prog 61 (fun d => ∃ a : AutoEdge, AutoEdge.ok a /\ d = AutoEdge.d a) := by
 refine (opens_struct Tryz.underlying61 (fo_61 _ Tryz.underlying61)).imp ?_;rintro _ ⟨ds, h, rfl⟩
 rcases ds with _ | ⟨d0, ds⟩
 ·exact h.elim
 obtain ⟨⟨a0, h0, rfl⟩, h⟩ := h
 rcases ds with _ | ⟨d1, ds⟩
 ·exact h.elim
 obtain ⟨⟨a1, h1, rfl⟩, h⟩ := h
 rcases ds with _ | ⟨d, ds⟩
 ·exact ⟨⟨a0, a1⟩, ⟨h0, h1⟩, rfl⟩
 ·exact h.elim
theorem op_44 : OpensD Tryz.prog 44 (fun d => ∃ a : (List AutoEdge), (fun l => l.length <= maxLen /\ ∀ a ∈ l, AutoEdge.ok a) a /\ d = (D.list 2 AutoEdge.d) a) :=
 (opens_slice Tryz.underlying44 (by kernel_rfl) (by decide) op_61).imp fun d ⟨l, h1, h2, h3⟩ => ⟨l, ⟨h1, h2⟩, h3⟩
def AutoState.ok (b : AutoState) : Prop := (fun _ => True) b.1 /\ (fun _ => True) b.2 /\ (fun _ => True) b.3 /\ (fun _ => True) b.4 /\ (fun _ => True) b.5 /\ (fun _ => True) b.6 /\ (fun _ => True) b.7 /\ (fun _ => True) b.8 /\ (fun l => l.length <= maxLen /\ ∀ a ∈ l, (fun n => (Lit.int .i64 n).wf = true) a) b.9 /\ (fun n => (Lit.int .i64 n).wf = true) b.10 /\ (fun n => (Lit.int .i64 n).wf = true) b.11 /\ (fun l => l.length <= maxLen /\ ∀ a ∈ l, AutoEdge.ok a) b.12 /\ (fun l => l.length <= maxLen /\ ∀ a ∈ l, AutoEdge.ok a) b.13
theorem fo_46 : ∀ fs : Array Field, Tryz.prog.underlying 46 = some (.struct fs) -> FieldsOpen Tryz.prog fs.toList 0 (Tryz.prog.cellsOf 46) [(fun d => ∃ a : Bool, (fun _ => True) a /\ d = D.bool a), (fun d => ∃ a : Bool, (fun _ => True) a /\ d = D.bool a), (fun d => ∃ a : Bool, (fun _ => True) a /\ d = D.bool a), (fun d => ∃ a : Bool, (fun _ => True) a /\ d = D.bool a), (fun d => ∃ a : Bool, (fun _ => True) a /\ d = D.bool a), (fun d => ∃ a : Bool, (fun _ => True) a /\ d = D.bool a), (fun d => ∃ a : Bool, (fun _ => True) a /\ d = D.bool a), (fun d => ∃ a : Bool, (fun _ => True) a /\ d = D.bool a), (fun d => ∃ a : (List Int), (fun l => l.length <= maxLen /\ ∀ a ∈ l, (fun n => (Lit.int .i64 n).wf = true) a) a /\ d = (D.list 1 D.i64) a), (fun d => ∃ a : Int, (fun n => (Lit.int .i64 n).wf = true) a /\ d = D.i64 a), (fun d => ∃ a : Int, (fun n => (Lit.int .i64 n).wf = true) a /\ d = D.i64 a), (fun d => ∃ a : (List AutoEdge), (fun l => l.length <= maxLen /\ ∀ a ∈ l, AutoEdge.ok a) a /\ d = (D.list 2 AutoEdge.d) a), (fun d => ∃ a : (List AutoEdge), (fun l => l.length <= maxLen /\ ∀ a ∈ l, AutoEdge.ok a) a /\ d = (D.list 2 AutoEdge.d) a)] := by
 intro fs h
 have := h.symm.trans Tryz.underlying46
 simp only [Option.some.injEq, TypeDesc.struct.injEq] at this;subst this;exact ⟨by kernel_rfl, op_4, ⟨by kernel_rfl, op_4, ⟨by kernel_rfl, op_4, ⟨by kernel_rfl, op_4, ⟨by kernel_rfl, op_4, ⟨by kernel_rfl, op_4, ⟨by kernel_rfl, op_4, ⟨by kernel_rfl, op_4, ⟨by kernel_rfl, op_43, ⟨by kernel_rfl, op_3, ⟨by kernel_rfl, op_3, ⟨by kernel_rfl, op_44, ⟨by kernel_rfl, op_44, (show _ = _ from by kernel_rfl)⟩⟩⟩⟩⟩⟩⟩⟩⟩⟩⟩⟩⟩
theorem op_46 : OpensD Tryz.prog 46 (fun d => ∃ a : AutoState, AutoState.ok a /\ d = AutoState.d a) := by
 refine (opens_struct Tryz.underlying46 (fo_46 _ Tryz.underlying46)).imp ?_;rintro _ ⟨ds, h, rfl⟩
 rcases ds with _ | ⟨d0, ds⟩
 ·exact h.elim
 obtain ⟨⟨a0, h0, rfl⟩, h⟩ := h
 rcases ds with _ | ⟨d1, ds⟩
 ·exact h.elim
 obtain ⟨⟨a1, h1, rfl⟩, h⟩ := h
 rcases ds with _ | ⟨d2, ds⟩
 ·exact h.elim
 obtain ⟨⟨a2, h2, rfl⟩, h⟩ := h
 rcases ds with _ | ⟨d3, ds⟩
 ·exact h.elim
 obtain ⟨⟨a3, h3, rfl⟩, h⟩ := h
 rcases ds with _ | ⟨d4, ds⟩
 ·exact h.elim
 obtain ⟨⟨a4, h4, rfl⟩, h⟩ := h
 rcases ds with _ | ⟨d5, ds⟩
 ·exact h.elim
 obtain ⟨⟨a5, h5, rfl⟩, h⟩ := h
 rcases ds with _ | ⟨d6, ds⟩
 ·exact h.elim
 obtain ⟨⟨a6, h6, rfl⟩, h⟩ := h
 rcases ds with _ | ⟨d7, ds⟩
 ·exact h.elim
 obtain ⟨⟨a7, h7, rfl⟩, h⟩ := h
 rcases ds with _ | ⟨d8, ds⟩
 ·exact h.elim
 obtain ⟨⟨a8, h8, rfl⟩, h⟩ := h
 rcases ds with _ | ⟨d9, ds⟩
 ·exact h.elim
 obtain ⟨⟨a9, h9, rfl⟩, h⟩ := h
 rcases ds with _ | ⟨d10, ds⟩
 ·exact h.elim
 obtain ⟨⟨a10, h10, rfl⟩, h⟩ := h
 rcases ds with _ | ⟨d11, ds⟩
 ·exact h.elim
 obtain ⟨⟨a11, h11, rfl⟩, h⟩ := h
 rcases ds with _ | ⟨d12, ds⟩
 ·exact h.elim
 obtain ⟨⟨a12, h12, rfl⟩, h⟩ := h
 rcases ds with _ | ⟨d, ds⟩
 ·exact ⟨⟨a0, a1, a2, a3, a4, a5, a6, a7, a8, a9, a10, a11, a12⟩, ⟨h0, h1, h2, h3, h4, h5, h6, h7, h8, h9, h10, h11, h12⟩, rfl⟩
 ·exact h.elim
theorem op_22 : OpensD Tryz.prog 22 (fun d => ∃ a : (List AutoState), (fun l => l.length <= maxLen /\ ∀ a ∈ l, AutoState.ok a) a /\ d = (D.list 13 AutoState.d) a) :=
 (opens_slice Tryz.underlying22 (by kernel_rfl) (by decide) op_46).imp fun d ⟨l, h1, h2, h3⟩ => ⟨l, ⟨h1, h2⟩, h3⟩
def AutoAuto.ok (b : AutoAuto) : Prop := (fun l => l.length <= maxLen /\ ∀ a ∈ l, AutoState.ok a) b.1 /\ (fun n => (Lit.int .i64 n).wf = true) b.2
theorem fo_24 : ∀ fs : Array Field, Tryz.prog.underlying 24 = some (.struct fs) -> FieldsOpen Tryz.prog fs.toList 0 (Tryz.prog.cellsOf 24) [(fun d => ∃ a : (List AutoState), (fun l => l.length <= maxLen /\ ∀ a ∈ l, AutoState.ok a) a /\ d = (D.list 13 AutoState.d) a), (fun d => ∃ a : Int, (fun n => (Lit.int .i64 n).wf = true) a /\ d = D.i64 a)] := by
 intro fs h
 have := h.symm.trans Tryz.underlying24
 simp only [Option.some.injEq, TypeDesc.struct.injEq] at this;subst this;exact ⟨by kernel_rfl, op_22, ⟨by kernel_rfl, op_3, (show _ = _ from by kernel_rfl)⟩⟩
theorem op_24 : OpensD Tryz.prog 24 (fun d => ∃ a : AutoAuto, AutoAuto.ok a /\ d = AutoAuto.d a) := by
 refine (opens_struct Tryz.underlying24 (fo_24 _ Tryz.underlying24)).imp ?_;rintro _ ⟨ds, h, rfl⟩
 rcases ds with _ | ⟨d0, ds⟩
 ·exact h.elim
 obtain ⟨⟨a0, h0, rfl⟩, h⟩ := h
 rcases ds with _ | ⟨d1, ds⟩
 ·exact h.elim
 obtain ⟨⟨a1, h1, rfl⟩, h⟩ := h
 rcases ds with _ | ⟨d, ds⟩
 ·exact ⟨⟨a0, a1⟩, ⟨h0, h1⟩, rfl⟩
 ·exact h.elim
theorem readableBackTypes : ∀ t ∈ #[24].toList, Tryz.prog.readableRec t = true /\ t < Tryz.prog.types.size := by
 intro t ht
 simp only [List.mem_cons, List.not_mem_nil, or_false] at ht
 rcases ht with rfl <;> exact ⟨by kernel_rfl, of_decide_eq_true (by kernel_rfl)⟩
theorem liftedBackTypes (os : Os) (started : os.Started) (H : Type) (enc : TypeId × Value -> H) :
  ReturnsInHanded {} Tryz.checked os 3 .any (Rows.backTypesSpec.pre6 enc Tryz.prog Tryz.f3 Rows.backTypesRow.domain false) (Rows.backTypesSpec.post enc Tryz.prog Tryz.f3 false true false false) := by
 refine returnsInHanded_of_change (C := Tryz.checked) own started (by kernel_rfl) Tryz.func3
  (ChangeSpec.witness6 (enc := enc) (C := Tryz.checked) false ⟨#[], #[.agg #[.slice none 0 0, .int .i64 0]], []⟩ 8 (by kernel_rfl) (by kernel_rfl) (by kernel_rfl) (by kernel_rfl)) ?_
 intro W base args ds gs before hval0 hW hcnd _
 have hval : ∀ (j : Nat) t v, Tryz.f3.params[j]? = some t -> args[j]? = some v -> Value.okWide Tryz.prog W .any base t v := hval0
 have hW' := hW
 obtain ⟨p, q, hA0, hV, rfl, hfz, hnd⟩ := hW
 have hA : DataW.TrodAll enc Tryz.prog W 0 (fun _ => true) true Tryz.f3.params.toList args.toList ds p := hA0
 rw [Tryz.params3] at hA hval;obtain ⟨v0, vs0, d0, ds0, p0, q0, hargs, rfl, rfl, t0, r0⟩ := trodAll_cons hA;obtain ⟨rfl, rfl, rfl⟩ := trodAll_nil r0;obtain rfl : args = #[v0] := by cases args; simp_all
 obtain ⟨rfl, rfl⟩ := trodVars_none hV;obtain ⟨_, ⟨a0, h0, rfl⟩, c0⟩ := opens_arg op_24 (by rintro _ ⟨a, _, rfl⟩; rw [Tryz.underlying24]; rfl) (hval 0 24 v0 rfl rfl) t0;refine (law_calls (vs := [v0]) (w_syntagmalaw27_BackTypes (law_BackTypes a0)) (by simp only [ConcL]; exact ⟨v0, _, rfl, c0, rfl⟩)).mono fun e W' ⟨he, bel⟩ => ?_;exact ⟨_, he, law_post laidOutT hW' rfl rfl Tryz.underlying4 rfl rfl rfl (by rw [Tryz.params3]; exact readableBackTypes) bel⟩
theorem provedBackTypes : Rows.BackTypesSaid :=
 OpenClaim.holds_of_wide 3 Tryz.f3 rfl rfl rfl rfl rfl rfl rfl ⟨rfl, rfl, rfl, rfl, rfl⟩ rfl rfl rfl rfl rfl (by kernel_rfl) Tryz.func3 (by kernel_rfl)
  (of_decide_eq_true (by kernel_rfl)) (by unfold Func.isWrapper; first | (rw [if_pos (by decide +kernel)]; kernel_rfl) | (rw [if_neg (by decide +kernel)]; exact ⟨rfl, rfl⟩))
  (fun os started H enc _ => liftedBackTypes os started H enc)
#print axioms provedBackTypes
end Go.Proofs.YtcoghblhdjmbfaaGreat
