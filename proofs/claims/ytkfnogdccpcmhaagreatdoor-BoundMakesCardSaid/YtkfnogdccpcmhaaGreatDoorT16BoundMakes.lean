/- The statement, out of the parts ahead; no condition. -/
import Derived.Test.YtkfnogdccpcmhaaGreatDoorp11
import Derived.Test.YtkfnogdccpcmhaaGreatDoorRows
import Derived.Test.YtkfnogdccpcmhaaGreatDoorCards
import Derived.Test.YtkfnogdccpcmhaaGreatDoorTie
import Derived.SevenTiedAt
set_option linter.unusedVariables false
set_option linter.unusedSimpArgs false
set_option maxRecDepth 100000
namespace Go.Proofs.YtkfnogdccpcmhaaGreatDoor
open Go.V Go.ChangeShapes Go.WideShapes Go.ChangeAt Go.RowKit
theorem own : ownKnob Tryz.prog.godebug = none := by kernel_rfl
theorem laidOutT : laidOutB Tryz.prog = true := by kernel_rfl
theorem op_3 : OpensD Tryz.prog 3 (fun d => ∃ a : Int, (fun n => (Lit.int .i64 n).wf = true) a /\ d = D.i64 a) := (opens_int Tryz.underlying3)
theorem op_9 : OpensD Tryz.prog 9 (fun d => ∃ a : (List UInt8), (fun s => s.length <= maxLen) a /\ d = D.str a) := opens_string Tryz.underlying9
def AFd.ok (b : AFd) : Prop := (fun s => s.length <= maxLen) b.1 /\ (fun n => (Lit.int .i64 n).wf = true) b.2
theorem fo_98 : ∀ fs : Array Field, Tryz.prog.underlying 98 = some (.struct fs) -> FieldsOpen Tryz.prog fs.toList 0 (Tryz.prog.cellsOf 98) [(fun d => ∃ a : (List UInt8), (fun s => s.length <= maxLen) a /\ d = D.str a), (fun d => ∃ a : Int, (fun n => (Lit.int .i64 n).wf = true) a /\ d = D.i64 a)] := by
 intro fs h
 have := h.symm.trans Tryz.underlying98
 simp only [Option.some.injEq, TypeDesc.struct.injEq] at this;subst this;exact ⟨by kernel_rfl, op_9, ⟨by kernel_rfl, op_3, (show _ = _ from by kernel_rfl)⟩⟩
theorem op_98 : OpensD Tryz.prog 98 (fun d => ∃ a : AFd, AFd.ok a /\ d = AFd.d a) := by
 refine (opens_struct Tryz.underlying98 (fo_98 _ Tryz.underlying98)).imp ?_;rintro _ ⟨ds, h, rfl⟩
 rcases ds with _ | ⟨d0, ds⟩
 ·exact h.elim
 obtain ⟨⟨a0, h0, rfl⟩, h⟩ := h
 rcases ds with _ | ⟨d1, ds⟩
 ·exact h.elim
 obtain ⟨⟨a1, h1, rfl⟩, h⟩ := h
 rcases ds with _ | ⟨d, ds⟩
 ·exact ⟨⟨a0, a1⟩, ⟨h0, h1⟩, rfl⟩
 ·exact h.elim
theorem op_42 : OpensD Tryz.prog 42 (fun d => ∃ a : (List AFd), (fun l => l.length <= maxLen /\ ∀ a ∈ l, AFd.ok a) a /\ d = (D.list 2 AFd.d) a) :=
 (opens_slice Tryz.underlying42 (by kernel_rfl) (by decide) op_98).imp fun d ⟨l, h1, h2, h3⟩ => ⟨l, ⟨h1, h2⟩, h3⟩
def ANd.ok (b : ANd) : Prop := (fun n => (Lit.int .i64 n).wf = true) b.1 /\ (fun n => (Lit.int .i64 n).wf = true) b.2 /\ (fun n => (Lit.int .i64 n).wf = true) b.3 /\ (fun l => l.length <= maxLen /\ ∀ a ∈ l, AFd.ok a) b.4
theorem fo_44 : ∀ fs : Array Field, Tryz.prog.underlying 44 = some (.struct fs) -> FieldsOpen Tryz.prog fs.toList 0 (Tryz.prog.cellsOf 44) [(fun d => ∃ a : Int, (fun n => (Lit.int .i64 n).wf = true) a /\ d = D.i64 a), (fun d => ∃ a : Int, (fun n => (Lit.int .i64 n).wf = true) a /\ d = D.i64 a), (fun d => ∃ a : Int, (fun n => (Lit.int .i64 n).wf = true) a /\ d = D.i64 a), (fun d => ∃ a : (List AFd), (fun l => l.length <= maxLen /\ ∀ a ∈ l, AFd.ok a) a /\ d = (D.list 2 AFd.d) a)] := by
 intro fs h
 have := h.symm.trans Tryz.underlying44
 simp only [Option.some.injEq, TypeDesc.struct.injEq] at this;subst this;exact ⟨by kernel_rfl, op_3, ⟨by kernel_rfl, op_3, ⟨by kernel_rfl, op_3, ⟨by kernel_rfl, op_42, (show _ = _ from by kernel_rfl)⟩⟩⟩⟩
theorem op_44 : OpensD Tryz.prog 44 (fun d => ∃ a : ANd, ANd.ok a /\ d = ANd.d a) := by
 refine (opens_struct Tryz.underlying44 (fo_44 _ Tryz.underlying44)).imp ?_;rintro _ ⟨ds, h, rfl⟩
 rcases ds with _ | ⟨d0, ds⟩
 ·exact h.elim
 obtain ⟨⟨a0, h0, rfl⟩, h⟩ := h
 rcases ds with _ | ⟨d1, ds⟩
 ·exact h.elim
 obtain ⟨⟨a1, h1, rfl⟩, h⟩ := h
 rcases ds with _ | ⟨d2, ds⟩
 ·exact h.elim
 obtain ⟨⟨a2, h2, rfl⟩, h⟩ := h
 rcases ds with _ | ⟨d3, ds⟩
 ·exact h.elim
 obtain ⟨⟨a3, h3, rfl⟩, h⟩ := h
 rcases ds with _ | ⟨d, ds⟩
 ·exact ⟨⟨a0, a1, a2, a3⟩, ⟨h0, h1, h2, h3⟩, rfl⟩
 ·exact h.elim
theorem op_22 : OpensD Tryz.prog 22 (fun d => ∃ a : (List ANd), (fun l => l.length <= maxLen /\ ∀ a ∈ l, ANd.ok a) a /\ d = (D.list 4 ANd.d) a) :=
 (opens_slice Tryz.underlying22 (by kernel_rfl) (by decide) op_44).imp fun d ⟨l, h1, h2, h3⟩ => ⟨l, ⟨h1, h2⟩, h3⟩
def ATy.ok (b : ATy) : Prop := (fun l => l.length <= maxLen /\ ∀ a ∈ l, ANd.ok a) b.1 /\ (fun n => (Lit.int .i64 n).wf = true) b.2
theorem fo_24 : ∀ fs : Array Field, Tryz.prog.underlying 24 = some (.struct fs) -> FieldsOpen Tryz.prog fs.toList 0 (Tryz.prog.cellsOf 24) [(fun d => ∃ a : (List ANd), (fun l => l.length <= maxLen /\ ∀ a ∈ l, ANd.ok a) a /\ d = (D.list 4 ANd.d) a), (fun d => ∃ a : Int, (fun n => (Lit.int .i64 n).wf = true) a /\ d = D.i64 a)] := by
 intro fs h
 have := h.symm.trans Tryz.underlying24
 simp only [Option.some.injEq, TypeDesc.struct.injEq] at this;subst this;exact ⟨by kernel_rfl, op_22, ⟨by kernel_rfl, op_3, (show _ = _ from by kernel_rfl)⟩⟩
theorem op_24 : OpensD Tryz.prog 24 (fun d => ∃ a : ATy, ATy.ok a /\ d = ATy.d a) := by
 refine (opens_struct Tryz.underlying24 (fo_24 _ Tryz.underlying24)).imp ?_;rintro _ ⟨ds, h, rfl⟩
 rcases ds with _ | ⟨d0, ds⟩
 ·exact h.elim
 obtain ⟨⟨a0, h0, rfl⟩, h⟩ := h
 rcases ds with _ | ⟨d1, ds⟩
 ·exact h.elim
 obtain ⟨⟨a1, h1, rfl⟩, h⟩ := h
 rcases ds with _ | ⟨d, ds⟩
 ·exact ⟨⟨a0, a1⟩, ⟨h0, h1⟩, rfl⟩
 ·exact h.elim
theorem op_53 : OpensD Tryz.prog 53 (fun d => ∃ a : (List ATy), (fun l => l.length <= maxLen /\ ∀ a ∈ l, ATy.ok a) a /\ d = (D.list 2 ATy.d) a) :=
 (opens_slice Tryz.underlying53 (by kernel_rfl) (by decide) op_24).imp fun d ⟨l, h1, h2, h3⟩ => ⟨l, ⟨h1, h2⟩, h3⟩
theorem readableBoundMakes : ∀ t ∈ #[53].toList, Tryz.prog.readableRec t = true /\ t < Tryz.prog.types.size := by
 intro t ht
 simp only [List.mem_cons, List.not_mem_nil, or_false] at ht
 rcases ht with rfl <;> exact ⟨by kernel_rfl, of_decide_eq_true (by kernel_rfl)⟩
theorem liftedBoundMakes (os : Os) (started : os.Started) (H : Type) (enc : TypeId × Value -> H) :
  ReturnsInHanded {} Tryz.checked os 12 .any (fun w args => (Rows.boundMakesSpec.pre enc Tryz.prog Tryz.f12 Rows.boundMakesRow.domain false w args /\ laidMetH Tryz.prog Rows.boundMakesRow.laid w) /\ sizedMet enc Tryz.prog Tryz.f12 (OpenSpec.ofChange Rows.boundMakesSpec) false w args) (Rows.boundMakesSpec.post enc Tryz.prog Tryz.f12 false true false false) := by
 refine returnsInHanded_of_change_and (X := (fun w _ => laidMetH Tryz.prog Rows.boundMakesRow.laid w)) (fun w w' args h hx => laid_heap h hx) (C := Tryz.checked) own started (by kernel_rfl) Tryz.func12
  (ChangeSpec.witness_at (enc := enc) (C := Tryz.checked) (X := (fun w _ => laidMetH Tryz.prog Rows.boundMakesRow.laid w)) false (w0 os) #[.slice none 0 0] 8 rfl (by kernel_rfl) (by kernel_rfl) (by kernel_rfl) (by kernel_rfl) (by kernel_rfl) (met0 os _)) ?_
 intro W base args ds gs before hval0 hW hcnd hsz0 _ _
 have hval : ∀ (j : Nat) t v, Tryz.f12.params[j]? = some t -> args[j]? = some v -> Value.okWide Tryz.prog W .any base t v := hval0
 have hW' := hW
 obtain ⟨p, q, hA0, hV, rfl, hfz, hnd⟩ := hW
 have hA : DataW.TrodAll enc Tryz.prog W 0 (fun _ => true) true Tryz.f12.params.toList args.toList ds p := hA0
 rw [Tryz.params12] at hA hval;obtain ⟨v0, vs0, d0, ds0, p0, q0, hargs, rfl, rfl, t0, r0⟩ := trodAll_cons hA;obtain ⟨rfl, rfl, rfl⟩ := trodAll_nil r0;obtain rfl : args = #[v0] := by cases args; simp_all
 obtain ⟨rfl, rfl⟩ := trodVars_none hV;obtain ⟨_, ⟨a0, h0, rfl⟩, c0⟩ := opens_arg op_53 (by rintro _ ⟨a, _, rfl⟩; rw [Tryz.underlying53]; rfl) (hval 0 53 v0 rfl rfl) t0;refine (law_calls (vs := [v0]) (w_lo_BoundMakes (law_BoundMakes a0)) (by simp only [ConcL]; exact ⟨v0, _, rfl, c0, rfl⟩)).mono fun e W' ⟨he, bel⟩ => ?_;exact ⟨_, he, law_post laidOutT hW' rfl rfl Tryz.underlying4 rfl rfl rfl (by rw [Tryz.params12]; exact readableBoundMakes) bel⟩
theorem rowBoundMakes : Rows.BoundMakesSaid :=
 OpenClaim.holds_of_wide 12 Tryz.f12 rfl rfl rfl rfl rfl rfl rfl ⟨rfl, rfl, rfl, rfl, rfl⟩ rfl rfl rfl rfl rfl (by kernel_rfl) Tryz.func12 (by kernel_rfl)
  (of_decide_eq_true (by kernel_rfl)) (by unfold Func.isWrapper; first | (rw [if_pos (by decide +kernel)]; kernel_rfl) | (rw [if_neg (by decide +kernel)]; exact ⟨rfl, rfl⟩))
  (fun os started H enc _ => liftedBoundMakes os started H enc)
theorem provedBoundMakesCard : Rows.BoundMakesCardSaid :=
 Claim7.holds_tied_plain_at .later [] [.data, .data, .data] true (true, "54893003eaf57a44261ad56a99670f369a22ee2cb3d0daf7dfdab2f6f674b3c2") false rowBoundMakes (fun _ h => by cases h) (by kernel_rfl) (fun _ h => by cases h) boundMakes_row_tie rfl ⟨rfl, rfl⟩ (by kernel_rfl) rfl
  (fun f fn hf hfn => by
   obtain rfl : f = 12 := Option.some.inj ((show Tryz.prog.funcNamed Rows.boundMakesRow.func = some 12 by kernel_rfl).symm.trans hf) |>.symm;obtain rfl : fn = Tryz.f12 := (Option.some.inj (Tryz.func12.symm.trans hfn)).symm;exact ⟨by kernel_rfl, fun j t ht => by
    rw [Tryz.params12] at ht
    have hm : t ∈ [53] := by simpa using Array.mem_of_getElem? ht
    have hall : ([53].all fun u => !Tryz.prog.wantsStandIn u) = true := by kernel_rfl
    exact (show Tryz.prog.wantsStandIn t = false by simpa using List.all_eq_true.1 hall t hm)⟩)
  (by kernel_rfl)
#print axioms provedBoundMakesCard
end Go.Proofs.YtkfnogdccpcmhaaGreatDoor
