/- The statement, out of the parts ahead; no condition. -/
import Derived.Test.Ytcoghblhdjmbfaap5
import Derived.Test.YtcoghblhdjmbfaaRows
set_option linter.unusedVariables false
set_option linter.unusedSimpArgs false
set_option maxRecDepth 100000
namespace Go.Proofs.Ytcoghblhdjmbfaa
open Go.V Go.ChangeShapes Go.WideShapes Go.ChangeAt Go.RowKit
theorem own : ownKnob Try.prog.godebug = none := by kernel_rfl
theorem laidOutT : laidOutB Try.prog = true := by kernel_rfl
theorem op_3 : OpensD Try.prog 3 (fun d => ∃ a : Int, (fun n => (Lit.int .i64 n).wf = true) a /\ d = D.i64 a) := (opens_int Try.underlying3)
theorem op_9 : OpensD Try.prog 9 (fun d => ∃ a : (List UInt8), (fun s => s.length <= maxLen) a /\ d = D.str a) := opens_string Try.underlying9
def AFd.ok (b : AFd) : Prop := (fun s => s.length <= maxLen) b.1 /\ (fun n => (Lit.int .i64 n).wf = true) b.2
theorem fo_31 : ∀ fs : Array Field, Try.prog.underlying 31 = some (.struct fs) -> FieldsOpen Try.prog fs.toList 0 (Try.prog.cellsOf 31) [(fun d => ∃ a : (List UInt8), (fun s => s.length <= maxLen) a /\ d = D.str a), (fun d => ∃ a : Int, (fun n => (Lit.int .i64 n).wf = true) a /\ d = D.i64 a)] := by
 intro fs h
 have := h.symm.trans Try.underlying31
 simp only [Option.some.injEq, TypeDesc.struct.injEq] at this;subst this;exact ⟨by kernel_rfl, op_9, ⟨by kernel_rfl, op_3, (show _ = _ from by kernel_rfl)⟩⟩
theorem op_31 : OpensD Try.prog 31 (fun d => ∃ a : AFd, AFd.ok a /\ d = AFd.d a) := by
 refine (opens_struct Try.underlying31 (fo_31 _ Try.underlying31)).imp ?_;rintro _ ⟨ds, h, rfl⟩
 rcases ds with _ | ⟨d0, ds⟩
 ·exact h.elim
 obtain ⟨⟨a0, h0, rfl⟩, h⟩ := h
 rcases ds with _ | ⟨d1, ds⟩
 ·exact h.elim
 obtain ⟨⟨a1, h1, rfl⟩, h⟩ := h
 rcases ds with _ | ⟨d, ds⟩
 ·exact ⟨⟨a0, a1⟩, ⟨h0, h1⟩, rfl⟩
 ·exact h.elim
theorem op_22 : OpensD Try.prog 22 (fun d => ∃ a : (List AFd), (fun l => l.length <= maxLen /\ ∀ a ∈ l, AFd.ok a) a /\ d = (D.list 2 AFd.d) a) :=
 (opens_slice Try.underlying22 (by kernel_rfl) (by decide) op_31).imp fun d ⟨l, h1, h2, h3⟩ => ⟨l, ⟨h1, h2⟩, h3⟩
theorem readableStoreVoid : ∀ t ∈ #[3, 3, 3, 22].toList, Try.prog.readableRec t = true /\ t < Try.prog.types.size := by
 intro t ht
 simp only [List.mem_cons, List.not_mem_nil, or_false] at ht
 rcases ht with rfl | rfl | rfl | rfl <;> exact ⟨by kernel_rfl, of_decide_eq_true (by kernel_rfl)⟩
theorem liftedStoreVoid (os : Os) (started : os.Started) (H : Type) (enc : TypeId × Value -> H) :
  ReturnsInHanded {} Try.checked os 3 .any (Rows.storeVoidSpec.pre6 enc Try.prog Try.f3 Rows.storeVoidRow.domain false) (Rows.storeVoidSpec.post enc Try.prog Try.f3 false true false false) := by
 refine returnsInHanded_of_change (C := Try.checked) own started (by kernel_rfl) Try.func3
  (ChangeSpec.witness6 (enc := enc) (C := Try.checked) false ⟨#[], #[.int .i64 0, .int .i64 0, .int .i64 0, .slice none 0 0], []⟩ 8 (by kernel_rfl) (by kernel_rfl) (by kernel_rfl) (by kernel_rfl)) ?_
 intro W base args ds gs before hval0 hW hcnd _
 have hval : ∀ (j : Nat) t v, Try.f3.params[j]? = some t -> args[j]? = some v -> Value.okWide Try.prog W .any base t v := hval0
 have hW' := hW
 obtain ⟨p, q, hA0, hV, rfl, hfz, hnd⟩ := hW
 have hA : DataW.TrodAll enc Try.prog W 0 (fun _ => true) true Try.f3.params.toList args.toList ds p := hA0
 rw [Try.params3] at hA hval;obtain ⟨v0, vs0, d0, ds0, p0, q0, hargs, rfl, rfl, t0, r0⟩ := trodAll_cons hA;obtain ⟨v1, vs1, d1, ds1, p1, q1, rfl, rfl, rfl, t1, r1⟩ := trodAll_cons r0;obtain ⟨v2, vs2, d2, ds2, p2, q2, rfl, rfl, rfl, t2, r2⟩ := trodAll_cons r1;obtain ⟨v3, vs3, d3, ds3, p3, q3, rfl, rfl, rfl, t3, r3⟩ := trodAll_cons r2;obtain ⟨rfl, rfl, rfl⟩ := trodAll_nil r3;obtain rfl : args = #[v0, v1, v2, v3] := by cases args; simp_all
 obtain ⟨rfl, rfl⟩ := trodVars_none hV;obtain ⟨_, ⟨a0, h0, rfl⟩, c0⟩ := opens_arg op_3 (by rintro _ ⟨a, _, rfl⟩; rw [Try.underlying3]; rfl) (hval 0 3 v0 rfl rfl) t0;obtain ⟨_, ⟨a1, h1, rfl⟩, c1⟩ := opens_arg op_3 (by rintro _ ⟨a, _, rfl⟩; rw [Try.underlying3]; rfl) (hval 1 3 v1 rfl rfl) t1;obtain ⟨_, ⟨a2, h2, rfl⟩, c2⟩ := opens_arg op_3 (by rintro _ ⟨a, _, rfl⟩; rw [Try.underlying3]; rfl) (hval 2 3 v2 rfl rfl) t2;obtain ⟨_, ⟨a3, h3, rfl⟩, c3⟩ := opens_arg op_22 (by rintro _ ⟨a, _, rfl⟩; rw [Try.underlying22]; rfl) (hval 3 22 v3 rfl rfl) t3;refine (law_calls (vs := [v0, v1, v2, v3]) (w_syntagmalaw20_StoreVoid (law_StoreVoid a0 a1 a2 a3)) (by simp only [ConcL]; exact ⟨v0, _, rfl, c0, ⟨v1, _, rfl, c1, ⟨v2, _, rfl, c2, ⟨v3, _, rfl, c3, rfl⟩⟩⟩⟩)).mono fun e W' ⟨he, bel⟩ => ?_;exact ⟨_, he, law_post laidOutT hW' rfl rfl Try.underlying4 rfl rfl rfl (by rw [Try.params3]; exact readableStoreVoid) bel⟩
theorem provedStoreVoid : Rows.StoreVoidSaid :=
 OpenClaim.holds_of_wide 3 Try.f3 rfl rfl rfl rfl rfl rfl rfl ⟨rfl, rfl, rfl, rfl, rfl⟩ rfl rfl rfl rfl rfl (by kernel_rfl) Try.func3 (by kernel_rfl)
  (of_decide_eq_true (by kernel_rfl)) (by unfold Func.isWrapper; first | (rw [if_pos (by decide +kernel)]; kernel_rfl) | (rw [if_neg (by decide +kernel)]; exact ⟨rfl, rfl⟩))
  (fun os started H enc _ => liftedStoreVoid os started H enc)
#print axioms provedStoreVoid
end Go.Proofs.Ytcoghblhdjmbfaa
