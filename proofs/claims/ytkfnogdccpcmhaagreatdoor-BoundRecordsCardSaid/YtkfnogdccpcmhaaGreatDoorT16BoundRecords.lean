/- The statement, out of the parts ahead; no condition. -/
import Derived.Test.YtkfnogdccpcmhaaGreatDoorp11
import Derived.Test.YtkfnogdccpcmhaaGreatDoorRows
import Derived.Test.YtkfnogdccpcmhaaGreatDoorCards
import Derived.Test.YtkfnogdccpcmhaaGreatDoorTie
import Derived.SevenTiedAt
set_option linter.unusedVariables false
set_option linter.unusedSimpArgs false
set_option maxRecDepth 100000
namespace Go.Proofs.YtkfnogdccpcmhaaGreatDoor
open Go.V Go.ChangeShapes Go.WideShapes Go.ChangeAt Go.RowKit
theorem own : ownKnob Tryz.prog.godebug = none := by kernel_rfl
theorem laidOutT : laidOutB Tryz.prog = true := by kernel_rfl
theorem op_9 : OpensD Tryz.prog 9 (fun d => ∃ a : (List UInt8), (fun s => s.length <= maxLen) a /\ d = D.str a) := opens_string Tryz.underlying9
theorem op_65 : OpensD Tryz.prog 65 (fun d => ∃ a : (List (List UInt8)), (fun l => l.length <= maxLen /\ ∀ a ∈ l, (fun s => s.length <= maxLen) a) a /\ d = (D.list 1 D.str) a) :=
 (opens_slice Tryz.underlying65 (by kernel_rfl) (by decide) op_9).imp fun d ⟨l, h1, h2, h3⟩ => ⟨l, ⟨h1, h2⟩, h3⟩
theorem op_3 : OpensD Tryz.prog 3 (fun d => ∃ a : Int, (fun n => (Lit.int .i64 n).wf = true) a /\ d = D.i64 a) := (opens_int Tryz.underlying3)
def AFd.ok (b : AFd) : Prop := (fun s => s.length <= maxLen) b.1 /\ (fun n => (Lit.int .i64 n).wf = true) b.2
theorem fo_98 : ∀ fs : Array Field, Tryz.prog.underlying 98 = some (.struct fs) -> FieldsOpen Tryz.prog fs.toList 0 (Tryz.prog.cellsOf 98) [(fun d => ∃ a : (List UInt8), (fun s => s.length <= maxLen) a /\ d = D.str a), (fun d => ∃ a : Int, (fun n => (Lit.int .i64 n).wf = true) a /\ d = D.i64 a)] := by
 intro fs h
 have := h.symm.trans Tryz.underlying98
 simp only [Option.some.injEq, TypeDesc.struct.injEq] at this;subst this;exact ⟨by kernel_rfl, op_9, ⟨by kernel_rfl, op_3, (show _ = _ from by kernel_rfl)⟩⟩
theorem op_98 : OpensD Tryz.prog 98 (fun d => ∃ a : AFd, AFd.ok a /\ d = AFd.d a) := by
 refine (opens_struct Tryz.underlying98 (fo_98 _ Tryz.underlying98)).imp ?_;rintro _ ⟨ds, h, rfl⟩
 rcases ds with _ | ⟨d0, ds⟩
 ·exact h.elim
 obtain ⟨⟨a0, h0, rfl⟩, h⟩ := h
 rcases ds with _ | ⟨d1, ds⟩
 ·exact h.elim
 obtain ⟨⟨a1, h1, rfl⟩, h⟩ := h
 rcases ds with _ | ⟨d, ds⟩
 ·exact ⟨⟨a0, a1⟩, ⟨h0, h1⟩, rfl⟩
 ·exact h.elim
theorem op_42 : OpensD Tryz.prog 42 (fun d => ∃ a : (List AFd), (fun l => l.length <= maxLen /\ ∀ a ∈ l, AFd.ok a) a /\ d = (D.list 2 AFd.d) a) :=
 (opens_slice Tryz.underlying42 (by kernel_rfl) (by decide) op_98).imp fun d ⟨l, h1, h2, h3⟩ => ⟨l, ⟨h1, h2⟩, h3⟩
def ANd.ok (b : ANd) : Prop := (fun n => (Lit.int .i64 n).wf = true) b.1 /\ (fun n => (Lit.int .i64 n).wf = true) b.2 /\ (fun n => (Lit.int .i64 n).wf = true) b.3 /\ (fun l => l.length <= maxLen /\ ∀ a ∈ l, AFd.ok a) b.4
theorem fo_44 : ∀ fs : Array Field, Tryz.prog.underlying 44 = some (.struct fs) -> FieldsOpen Tryz.prog fs.toList 0 (Tryz.prog.cellsOf 44) [(fun d => ∃ a : Int, (fun n => (Lit.int .i64 n).wf = true) a /\ d = D.i64 a), (fun d => ∃ a : Int, (fun n => (Lit.int .i64 n).wf = true) a /\ d = D.i64 a), (fun d => ∃ a : Int, (fun n => (Lit.int .i64 n).wf = true) a /\ d = D.i64 a), (fun d => ∃ a : (List AFd), (fun l => l.length <= maxLen /\ ∀ a ∈ l, AFd.ok a) a /\ d = (D.list 2 AFd.d) a)] := by
 intro fs h
 have := h.symm.trans Tryz.underlying44
 simp only [Option.some.injEq, TypeDesc.struct.injEq] at this;subst this;exact ⟨by kernel_rfl, op_3, ⟨by kernel_rfl, op_3, ⟨by kernel_rfl, op_3, ⟨by kernel_rfl, op_42, (show _ = _ from by kernel_rfl)⟩⟩⟩⟩
theorem op_44 : OpensD Tryz.prog 44 (fun d => ∃ a : ANd, ANd.ok a /\ d = ANd.d a) := by
 refine (opens_struct Tryz.underlying44 (fo_44 _ Tryz.underlying44)).imp ?_;rintro _ ⟨ds, h, rfl⟩
 rcases ds with _ | ⟨d0, ds⟩
 ·exact h.elim
 obtain ⟨⟨a0, h0, rfl⟩, h⟩ := h
 rcases ds with _ | ⟨d1, ds⟩
 ·exact h.elim
 obtain ⟨⟨a1, h1, rfl⟩, h⟩ := h
 rcases ds with _ | ⟨d2, ds⟩
 ·exact h.elim
 obtain ⟨⟨a2, h2, rfl⟩, h⟩ := h
 rcases ds with _ | ⟨d3, ds⟩
 ·exact h.elim
 obtain ⟨⟨a3, h3, rfl⟩, h⟩ := h
 rcases ds with _ | ⟨d, ds⟩
 ·exact ⟨⟨a0, a1, a2, a3⟩, ⟨h0, h1, h2, h3⟩, rfl⟩
 ·exact h.elim
theorem op_22 : OpensD Tryz.prog 22 (fun d => ∃ a : (List ANd), (fun l => l.length <= maxLen /\ ∀ a ∈ l, ANd.ok a) a /\ d = (D.list 4 ANd.d) a) :=
 (opens_slice Tryz.underlying22 (by kernel_rfl) (by decide) op_44).imp fun d ⟨l, h1, h2, h3⟩ => ⟨l, ⟨h1, h2⟩, h3⟩
def ATy.ok (b : ATy) : Prop := (fun l => l.length <= maxLen /\ ∀ a ∈ l, ANd.ok a) b.1 /\ (fun n => (Lit.int .i64 n).wf = true) b.2
theorem fo_24 : ∀ fs : Array Field, Tryz.prog.underlying 24 = some (.struct fs) -> FieldsOpen Tryz.prog fs.toList 0 (Tryz.prog.cellsOf 24) [(fun d => ∃ a : (List ANd), (fun l => l.length <= maxLen /\ ∀ a ∈ l, ANd.ok a) a /\ d = (D.list 4 ANd.d) a), (fun d => ∃ a : Int, (fun n => (Lit.int .i64 n).wf = true) a /\ d = D.i64 a)] := by
 intro fs h
 have := h.symm.trans Tryz.underlying24
 simp only [Option.some.injEq, TypeDesc.struct.injEq] at this;subst this;exact ⟨by kernel_rfl, op_22, ⟨by kernel_rfl, op_3, (show _ = _ from by kernel_rfl)⟩⟩
theorem op_24 : OpensD Tryz.prog 24 (fun d => ∃ a : ATy, ATy.ok a /\ d = ATy.d a) := by
 refine (opens_struct Tryz.underlying24 (fo_24 _ Tryz.underlying24)).imp ?_;rintro _ ⟨ds, h, rfl⟩
 rcases ds with _ | ⟨d0, ds⟩
 ·exact h.elim
 obtain ⟨⟨a0, h0, rfl⟩, h⟩ := h
 rcases ds with _ | ⟨d1, ds⟩
 ·exact h.elim
 obtain ⟨⟨a1, h1, rfl⟩, h⟩ := h
 rcases ds with _ | ⟨d, ds⟩
 ·exact ⟨⟨a0, a1⟩, ⟨h0, h1⟩, rfl⟩
 ·exact h.elim
theorem op_53 : OpensD Tryz.prog 53 (fun d => ∃ a : (List ATy), (fun l => l.length <= maxLen /\ ∀ a ∈ l, ATy.ok a) a /\ d = (D.list 2 ATy.d) a) :=
 (opens_slice Tryz.underlying53 (by kernel_rfl) (by decide) op_24).imp fun d ⟨l, h1, h2, h3⟩ => ⟨l, ⟨h1, h2⟩, h3⟩
theorem readableBoundRecords : ∀ t ∈ #[65, 53].toList, Tryz.prog.readableRec t = true /\ t < Tryz.prog.types.size := by
 intro t ht
 simp only [List.mem_cons, List.not_mem_nil, or_false] at ht
 rcases ht with rfl | rfl <;> exact ⟨by kernel_rfl, of_decide_eq_true (by kernel_rfl)⟩
theorem liftedBoundRecords (os : Os) (started : os.Started) (H : Type) (enc : TypeId × Value -> H) :
  ReturnsInHanded {} Tryz.checked os 13 .any (fun w args => (Rows.boundRecordsSpec.pre enc Tryz.prog Tryz.f13 Rows.boundRecordsRow.domain false w args /\ laidMetH Tryz.prog Rows.boundRecordsRow.laid w) /\ sizedMet enc Tryz.prog Tryz.f13 (OpenSpec.ofChange Rows.boundRecordsSpec) false w args) (Rows.boundRecordsSpec.post enc Tryz.prog Tryz.f13 false true false false) := by
 refine returnsInHanded_of_change_and (X := (fun w _ => laidMetH Tryz.prog Rows.boundRecordsRow.laid w)) (fun w w' args h hx => laid_heap h hx) (C := Tryz.checked) own started (by kernel_rfl) Tryz.func13
  (ChangeSpec.witness_at (enc := enc) (C := Tryz.checked) (X := (fun w _ => laidMetH Tryz.prog Rows.boundRecordsRow.laid w)) false (w0 os) #[.slice none 0 0, .slice none 0 0] 8 rfl (by kernel_rfl) (by kernel_rfl) (by kernel_rfl) (by kernel_rfl) (by kernel_rfl) (met0 os _)) ?_
 intro W base args ds gs before hval0 hW hcnd hsz0 _ _
 have hval : ∀ (j : Nat) t v, Tryz.f13.params[j]? = some t -> args[j]? = some v -> Value.okWide Tryz.prog W .any base t v := hval0
 have hW' := hW
 obtain ⟨p, q, hA0, hV, rfl, hfz, hnd⟩ := hW
 have hA : DataW.TrodAll enc Tryz.prog W 0 (fun _ => true) true Tryz.f13.params.toList args.toList ds p := hA0
 rw [Tryz.params13] at hA hval;obtain ⟨v0, vs0, d0, ds0, p0, q0, hargs, rfl, rfl, t0, r0⟩ := trodAll_cons hA;obtain ⟨v1, vs1, d1, ds1, p1, q1, rfl, rfl, rfl, t1, r1⟩ := trodAll_cons r0;obtain ⟨rfl, rfl, rfl⟩ := trodAll_nil r1;obtain rfl : args = #[v0, v1] := by cases args; simp_all
 obtain ⟨rfl, rfl⟩ := trodVars_none hV;obtain ⟨_, ⟨a0, h0, rfl⟩, c0⟩ := opens_arg op_65 (by rintro _ ⟨a, _, rfl⟩; rw [Tryz.underlying65]; rfl) (hval 0 65 v0 rfl rfl) t0;obtain ⟨_, ⟨a1, h1, rfl⟩, c1⟩ := opens_arg op_53 (by rintro _ ⟨a, _, rfl⟩; rw [Tryz.underlying53]; rfl) (hval 1 53 v1 rfl rfl) t1;refine (law_calls (vs := [v0, v1]) (w_lo_BoundRecords (law_BoundRecords a0 a1)) (by simp only [ConcL]; exact ⟨v0, _, rfl, c0, ⟨v1, _, rfl, c1, rfl⟩⟩)).mono fun e W' ⟨he, bel⟩ => ?_;exact ⟨_, he, law_post laidOutT hW' rfl rfl Tryz.underlying4 rfl rfl rfl (by rw [Tryz.params13]; exact readableBoundRecords) bel⟩
theorem rowBoundRecords : Rows.BoundRecordsSaid :=
 OpenClaim.holds_of_wide 13 Tryz.f13 rfl rfl rfl rfl rfl rfl rfl ⟨rfl, rfl, rfl, rfl, rfl⟩ rfl rfl rfl rfl rfl (by kernel_rfl) Tryz.func13 (by kernel_rfl)
  (of_decide_eq_true (by kernel_rfl)) (by unfold Func.isWrapper; first | (rw [if_pos (by decide +kernel)]; kernel_rfl) | (rw [if_neg (by decide +kernel)]; exact ⟨rfl, rfl⟩))
  (fun os started H enc _ => liftedBoundRecords os started H enc)
theorem provedBoundRecordsCard : Rows.BoundRecordsCardSaid :=
 Claim7.holds_tied_plain_at .later [] [.data, .data, .data] true (true, "54893003eaf57a44261ad56a99670f369a22ee2cb3d0daf7dfdab2f6f674b3c2") false rowBoundRecords (fun _ h => by cases h) (by kernel_rfl) (fun _ h => by cases h) boundRecords_row_tie rfl ⟨rfl, rfl⟩ (by kernel_rfl) rfl
  (fun f fn hf hfn => by
   obtain rfl : f = 13 := Option.some.inj ((show Tryz.prog.funcNamed Rows.boundRecordsRow.func = some 13 by kernel_rfl).symm.trans hf) |>.symm;obtain rfl : fn = Tryz.f13 := (Option.some.inj (Tryz.func13.symm.trans hfn)).symm;exact ⟨by kernel_rfl, fun j t ht => by
    rw [Tryz.params13] at ht
    have hm : t ∈ [65, 53] := by simpa using Array.mem_of_getElem? ht
    have hall : ([65, 53].all fun u => !Tryz.prog.wantsStandIn u) = true := by kernel_rfl
    exact (show Tryz.prog.wantsStandIn t = false by simpa using List.all_eq_true.1 hall t hm)⟩)
  (by kernel_rfl)
#print axioms provedBoundRecordsCard
end Go.Proofs.YtkfnogdccpcmhaaGreatDoor
