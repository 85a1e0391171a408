/- Part 5 of the proof: a program logic, what the functions compute, and what these answer; no condition. -/
import Derived.Test.Ytnnjgbcojdnhhaap4
import Derived.Test.YtnnjgbcojdnhhaaProg
set_option linter.unusedVariables false
set_option linter.unusedSimpArgs false
set_option maxRecDepth 100000
set_option maxHeartbeats 2000000
namespace Go.Proofs.Ytnnjgbcojdnhhaa
open Go.V
theorem w_syntagmaref06_binds {n1 : ApiNode} {child1 : Int} {name1 : (List UInt8)} {r_1 : Int} (hm : m_syntagmaref06_binds n1 child1 name1 = some r_1) : Fn0 Try.prog 90 [ApiNode.d n1, .i64 child1, .str name1] (.i64 r_1) := by
  unfold m_syntagmaref06_binds at hm
  refine fn_intro Try.func90 rfl Try.ntmps90 rfl fun H0 fr w0 => ?_
  refine g_seq ?_
  refine g_region ?_
  refine go_p rfl rfl rfl (o_box rfl rfl) ?_
  refine go_p rfl rfl rfl (o_assign rfl) ?_
  refine go_nil ?_
  refine g_seq ?_
  refine g_seq ?_
  refine g_region ?_
  refine go_p rfl rfl rfl (o_fieldAddr fi_40_0 rfl rfl rfl) ?_
  refine go_p rfl rfl rfl (o_load Try.isAgg3 rfl rfl) ?_
  refine go_p rfl rfl rfl (o_cmp rfl rfl rfl) ?_
  refine go_p rfl rfl rfl (o_move rfl) ?_
  apply go_and [(1, _), (2, _), (3, _)] 5 16 (t := 11) ⟨rfl, rfl, rfl, trivial⟩ rfl
  · intro hg_1 hk1
    refine go_wantp rfl rfl rfl hg_1 rfl rfl (o_fieldAddr fi_40_5 rfl rfl rfl) ?_
    refine go_wantp rfl rfl rfl hg_1 rfl rfl (o_load Try.isAgg9 rfl rfl) ?_
    refine go_wantp rfl rfl rfl hg_1 rfl rfl (o_move rfl) ?_
    refine go_wantp rfl rfl rfl hg_1 rfl rfl (o_cmps rfl rfl rfl) ?_
    refine go_p rfl rfl rfl (o_pickT rfl hg_1 rfl) ?_
    exact go_meet hk1 (rfl) ⟨rfl, rfl, rfl, trivial⟩
  · intro hg_1 hk1
    refine go_skip rfl rfl rfl hg_1 rfl rfl ?_
    refine go_skip rfl rfl rfl hg_1 rfl rfl ?_
    refine go_skip rfl rfl rfl hg_1 rfl rfl ?_
    refine go_skip rfl rfl rfl hg_1 rfl rfl ?_
    refine go_p rfl rfl rfl (o_pickF rfl hg_1 rfl) ?_
    exact go_meet hk1 (rfl) ⟨rfl, rfl, rfl, trivial⟩
  refine go_p rfl rfl rfl (o_move rfl) ?_
  apply go_or [(1, _), (2, _), (3, _)] 16 33 (t := 17) ⟨rfl, rfl, rfl, trivial⟩ rfl
  · intro hg_2 hk2
    refine go_wantp rfl rfl rfl hg_2 rfl rfl (o_fieldAddr fi_40_0 rfl rfl rfl) ?_
    refine go_wantp rfl rfl rfl hg_2 rfl rfl (o_load Try.isAgg3 rfl rfl) ?_
    refine go_wantp rfl rfl rfl hg_2 rfl rfl (o_cmp rfl rfl rfl) ?_
    refine go_wantp rfl rfl rfl hg_2 rfl rfl (o_move rfl) ?_
    apply go_and [(1, _), (2, _), (3, _), (17, _)] 5 26 (t := 21) ⟨rfl, rfl, rfl, rfl, trivial⟩ rfl
    · intro hg_3 hk3
      refine go_wantp rfl rfl rfl hg_3 rfl rfl (o_fieldAddr fi_40_5 rfl rfl rfl) ?_
      refine go_wantp rfl rfl rfl hg_3 rfl rfl (o_load Try.isAgg9 rfl rfl) ?_
      refine go_wantp rfl rfl rfl hg_3 rfl rfl (o_move rfl) ?_
      refine go_wantp rfl rfl rfl hg_3 rfl rfl (o_cmps rfl rfl rfl) ?_
      refine go_wantp rfl rfl rfl hg_2 rfl rfl (o_pickT rfl hg_3 rfl) ?_
      exact go_meet hk3 (rfl) ⟨rfl, rfl, rfl, rfl, trivial⟩
    · intro hg_3 hk3
      refine go_skip rfl rfl rfl hg_3 rfl rfl ?_
      refine go_skip rfl rfl rfl hg_3 rfl rfl ?_
      refine go_skip rfl rfl rfl hg_3 rfl rfl ?_
      refine go_skip rfl rfl rfl hg_3 rfl rfl ?_
      refine go_wantp rfl rfl rfl hg_2 rfl rfl (o_pickF rfl hg_3 rfl) ?_
      exact go_meet hk3 (rfl) ⟨rfl, rfl, rfl, rfl, trivial⟩
    refine go_wantp rfl rfl rfl hg_2 rfl rfl (o_move rfl) ?_
    apply go_and [(1, _), (2, _), (3, _), (17, _)] 5 32 (t := 27) ⟨rfl, rfl, rfl, rfl, trivial⟩ rfl
    · intro hg_4 hk4
      refine go_wantp rfl rfl rfl hg_4 rfl rfl (o_move rfl) ?_
      refine go_wantp rfl rfl rfl hg_4 rfl rfl (o_fieldAddr fi_40_2 rfl rfl rfl) ?_
      refine go_wantp rfl rfl rfl hg_4 rfl rfl (o_load Try.isAgg3 rfl rfl) ?_
      refine go_wantp rfl rfl rfl hg_4 rfl rfl (o_cmp rfl rfl rfl) ?_
      refine go_wantp rfl rfl rfl hg_2 rfl rfl (o_pickT rfl hg_4 rfl) ?_
      exact go_meet hk4 (rfl) ⟨rfl, rfl, rfl, rfl, trivial⟩
    · intro hg_4 hk4
      refine go_skip rfl rfl rfl hg_4 rfl rfl ?_
      refine go_skip rfl rfl rfl hg_4 rfl rfl ?_
      refine go_skip rfl rfl rfl hg_4 rfl rfl ?_
      refine go_skip rfl rfl rfl hg_4 rfl rfl ?_
      refine go_wantp rfl rfl rfl hg_2 rfl rfl (o_pickF rfl hg_4 rfl) ?_
      exact go_meet hk4 (rfl) ⟨rfl, rfl, rfl, rfl, trivial⟩
    refine go_p rfl rfl rfl (o_pickF rfl hg_2 rfl) ?_
    exact go_meet hk2 (rfl) ⟨rfl, rfl, rfl, trivial⟩
  · intro hg_2 hk2
    refine go_skip rfl rfl rfl hg_2 rfl rfl ?_
    refine go_skip rfl rfl rfl hg_2 rfl rfl ?_
    refine go_skip rfl rfl rfl hg_2 rfl rfl ?_
    refine go_skip rfl rfl rfl hg_2 rfl rfl ?_
    refine go_skipu rfl rfl rfl rfl rfl ?_
    refine go_skipu rfl rfl rfl rfl rfl ?_
    refine go_skipu rfl rfl rfl rfl rfl ?_
    refine go_skipu rfl rfl rfl rfl rfl ?_
    refine go_skip rfl rfl rfl hg_2 rfl rfl ?_
    refine go_skip rfl rfl rfl hg_2 rfl rfl ?_
    refine go_skipu rfl rfl rfl rfl rfl ?_
    refine go_skipu rfl rfl rfl rfl rfl ?_
    refine go_skipu rfl rfl rfl rfl rfl ?_
    refine go_skipu rfl rfl rfl rfl rfl ?_
    refine go_skip rfl rfl rfl hg_2 rfl rfl ?_
    refine go_p rfl rfl rfl (o_pickT rfl hg_2 rfl) ?_
    exact go_meet hk2 (rfl) ⟨rfl, rfl, rfl, trivial⟩
  refine go_p rfl rfl rfl (o_move rfl) ?_
  apply go_or [(1, _), (2, _), (3, _)] 10 44 (t := 34) ⟨rfl, rfl, rfl, trivial⟩ rfl
  · intro hg_5 hk5
    refine go_wantp rfl rfl rfl hg_5 rfl rfl (o_fieldAddr fi_40_0 rfl rfl rfl) ?_
    refine go_wantp rfl rfl rfl hg_5 rfl rfl (o_load Try.isAgg3 rfl rfl) ?_
    refine go_wantp rfl rfl rfl hg_5 rfl rfl (o_cmp rfl rfl rfl) ?_
    refine go_wantp rfl rfl rfl hg_5 rfl rfl (o_move rfl) ?_
    apply go_and [(1, _), (2, _), (3, _), (34, _)] 5 43 (t := 38) ⟨rfl, rfl, rfl, rfl, trivial⟩ rfl
    · intro hg_6 hk6
      refine go_wantp rfl rfl rfl hg_6 rfl rfl (o_fieldAddr fi_40_5 rfl rfl rfl) ?_
      refine go_wantp rfl rfl rfl hg_6 rfl rfl (o_load Try.isAgg9 rfl rfl) ?_
      refine go_wantp rfl rfl rfl hg_6 rfl rfl (o_move rfl) ?_
      refine go_wantp rfl rfl rfl hg_6 rfl rfl (o_cmps rfl rfl rfl) ?_
      refine go_wantp rfl rfl rfl hg_5 rfl rfl (o_pickT rfl hg_6 rfl) ?_
      exact go_meet hk6 (rfl) ⟨rfl, rfl, rfl, rfl, trivial⟩
    · intro hg_6 hk6
      refine go_skip rfl rfl rfl hg_6 rfl rfl ?_
      refine go_skip rfl rfl rfl hg_6 rfl rfl ?_
      refine go_skip rfl rfl rfl hg_6 rfl rfl ?_
      refine go_skip rfl rfl rfl hg_6 rfl rfl ?_
      refine go_wantp rfl rfl rfl hg_5 rfl rfl (o_pickF rfl hg_6 rfl) ?_
      exact go_meet hk6 (rfl) ⟨rfl, rfl, rfl, rfl, trivial⟩
    refine go_p rfl rfl rfl (o_pickF rfl hg_5 rfl) ?_
    exact go_meet hk5 (rfl) ⟨rfl, rfl, rfl, trivial⟩
  · intro hg_5 hk5
    refine go_skip rfl rfl rfl hg_5 rfl rfl ?_
    refine go_skip rfl rfl rfl hg_5 rfl rfl ?_
    refine go_skip rfl rfl rfl hg_5 rfl rfl ?_
    refine go_skip rfl rfl rfl hg_5 rfl rfl ?_
    refine go_skipu rfl rfl rfl rfl rfl ?_
    refine go_skipu rfl rfl rfl rfl rfl ?_
    refine go_skipu rfl rfl rfl rfl rfl ?_
    refine go_skipu rfl rfl rfl rfl rfl ?_
    refine go_skip rfl rfl rfl hg_5 rfl rfl ?_
    refine go_p rfl rfl rfl (o_pickT rfl hg_5 rfl) ?_
    exact go_meet hk5 (rfl) ⟨rfl, rfl, rfl, trivial⟩
  refine go_nil ?_
  refine g_cond rfl (fun hc1 => ?_) (fun hc1 => ?_)
  · replace hm := cond_t hc1 hm
    refine g_seq ?_
    refine g_region ?_
    refine go_p rfl rfl rfl (o_assign rfl) ?_
    refine go_nil ?_
    refine g_ret ?_
    exact retK (ret_one' rfl (ret_tmp rfl) (perm_drop _)) (congrArg (fun (p : Int) => (.i64 p : D)) (some_eq hm))
  · replace hm := cond_f hc1 hm
    refine g_skip ?_
    refine g_seq ?_
    refine g_seq ?_
    refine g_region ?_
    refine go_p rfl rfl rfl (o_fieldAddr fi_40_0 rfl rfl rfl) ?_
    refine go_p rfl rfl rfl (o_load Try.isAgg3 rfl rfl) ?_
    refine go_p rfl rfl rfl (o_cmp rfl rfl rfl) ?_
    refine go_nil ?_
    refine g_cond rfl (fun hc2 => ?_) (fun hc2 => ?_)
    · replace hm := cond_t hc2 hm
      refine g_seq ?_
      refine g_region ?_
      refine go_p rfl rfl rfl (o_assign rfl) ?_
      refine go_nil ?_
      obtain ⟨o_1, hj1, hm1⟩ := bind_some hm
      refine g_cut_m [] [] (fun (st : Unit) (hid : Unit) => match st, hid with | _, _ => []) (fun F (st : Unit) (hid : Unit) => match st, hid with | _, _ => []) (fun st => Out.go (st) = o_1) trivial trivial ?_ ?_
      · skip
        refine g_block ?_
        refine g_loop_m [(1, _), (2, _), (3, _)] [] (fun (st : Int) (hid : Unit) => match st, hid with | k1, _ => [(7, .i64 k1)]) (fun F (st : Int) (hid : Unit) => match st, hid with | k1, _ => []) () hj1 (fun _ => rfl) ⟨rfl, rfl, rfl, trivial⟩ trivial ⟨rfl, trivial⟩ rfl ?_
        rintro n k1 _ hj1
        rw [m_syntagmaref06_binds_l1] at hj1
        refine g_norm (L' := [(7, .i64 k1), (1, _), (2, _), (3, _)]) (ms' := []) rfl rfl ?_
        refine g_seq ?_
        refine g_seq ?_
        refine g_region ?_
        refine go_p rfl rfl rfl (o_move rfl) ?_
        refine go_p rfl rfl rfl (o_fieldAddr fi_40_7 rfl rfl rfl) ?_
        refine go_p rfl rfl rfl (o_load Try.isAgg38 rfl rfl) ?_
        refine go_p rfl rfl rfl (o_len Try.runUnderlying38 rfl) ?_
        refine go_p rfl rfl rfl (o_cmp rfl rfl rfl) ?_
        refine go_nil ?_
        refine g_cond rfl (fun hc3 => ?_) (fun hc3 => ?_)
        · replace hj1 := cond_t hc3 hj1
          refine g_skip ?_
          refine g_seq ?_
          refine g_block ?_
          refine g_seq ?_
          refine g_region ?_
          refine go_p rfl rfl rfl (o_fieldAddr fi_40_7 rfl rfl rfl) ?_
          refine go_p rfl rfl rfl (o_load Try.isAgg38 rfl rfl) ?_
          refine go_p rfl rfl rfl (o_move rfl) ?_
          obtain ⟨x1, hx1, hj1⟩ := bind_some hj1
          refine go_p rfl rfl rfl (o_indexAddr_m Try.runUnderlying38 Try.sizeOf102 rfl rfl hx1) ?_
          refine go_p rfl rfl rfl (o_fieldAddr fi_102_2 rfl rfl rfl) ?_
          refine go_p rfl rfl rfl (o_load Try.isAgg3 rfl rfl) ?_
          refine go_p rfl rfl rfl (o_move rfl) ?_
          refine go_p rfl rfl rfl (o_cmp rfl rfl rfl) ?_
          refine go_p rfl rfl rfl (o_move rfl) ?_
          obtain ⟨p1, hp_7, hj1⟩ := bind_some hj1
          refine go_two [(1, _), (2, _), (3, _), (7, _)] 9 72 p1 (t := 63) ⟨rfl, rfl, rfl, rfl, trivial⟩ rfl (fun hg_7 hk7 => ?_) (fun hg_7 hk7 => ?_) ?_
          · replace hp_7 := cond_t hg_7 hp_7
            refine go_wantp rfl rfl rfl hg_7 rfl rfl (o_fieldAddr fi_40_7 rfl rfl rfl) ?_
            refine go_wantp rfl rfl rfl hg_7 rfl rfl (o_load Try.isAgg38 rfl rfl) ?_
            refine go_wantp rfl rfl rfl hg_7 rfl rfl (o_move rfl) ?_
            obtain ⟨x2, hx2, hp_7⟩ := bind_some hp_7
            refine go_wantp rfl rfl rfl hg_7 rfl rfl (o_indexAddr_m Try.runUnderlying38 Try.sizeOf102 rfl rfl hx2) ?_
            refine go_wantp rfl rfl rfl hg_7 rfl rfl (o_fieldAddr fi_102_1 rfl rfl rfl) ?_
            refine go_wantp rfl rfl rfl hg_7 rfl rfl (o_load Try.isAgg9 rfl rfl) ?_
            refine go_wantp rfl rfl rfl hg_7 rfl rfl (o_move rfl) ?_
            refine go_wantp rfl rfl rfl hg_7 rfl rfl (o_cmps rfl rfl rfl) ?_
            refine go_p rfl rfl rfl (o_pickT rfl hg_7 rfl) ?_
            exact go_meet hk7 (congrArg (fun b => some (D.bool b)) (some_eq hp_7)) ⟨rfl, rfl, rfl, rfl, trivial⟩
          · replace hp_7 := cond_f hg_7 hp_7
            refine go_skip rfl rfl rfl hg_7 rfl rfl ?_
            refine go_skip rfl rfl rfl hg_7 rfl rfl ?_
            refine go_skip rfl rfl rfl hg_7 rfl rfl ?_
            refine go_skip rfl rfl rfl hg_7 rfl rfl ?_
            refine go_skip rfl rfl rfl hg_7 rfl rfl ?_
            refine go_skip rfl rfl rfl hg_7 rfl rfl ?_
            refine go_skip rfl rfl rfl hg_7 rfl rfl ?_
            refine go_skip rfl rfl rfl hg_7 rfl rfl ?_
            refine go_p rfl rfl rfl (o_pickF rfl hg_7 rfl) ?_
            exact go_meet hk7 (congrArg (fun b => some (D.bool b)) (some_eq hp_7)) ⟨rfl, rfl, rfl, rfl, trivial⟩
          refine go_nil ?_
          refine g_cond rfl (fun hc4 => ?_) (fun hc4 => ?_)
          · replace hj1 := cond_t hc4 hj1
            refine g_seq ?_
            refine g_region ?_
            refine go_p rfl rfl rfl (o_move rfl) ?_
            refine go_p rfl rfl rfl (o_assign rfl) ?_
            refine go_nil ?_
            refine g_ret ?_
            obtain rfl := some_eq hj1
            replace hm1 := on_ret hm1
            exact retK (ret_one' rfl (ret_tmp rfl) (perm_drop _)) (congrArg (fun (p : Int) => (.i64 p : D)) (some_eq hm1))
          · replace hj1 := cond_f hc4 hj1
            refine g_skip ?_
            refine g_region ?_
            refine go_p rfl rfl rfl (o_move rfl) ?_
            obtain ⟨hg3, hj1⟩ := grd_some hj1
            refine go_p rfl rfl rfl (o_add rfl rfl (i64_id hg3)) ?_
            refine go_p rfl rfl rfl (o_assign rfl) ?_
            refine go_nil ?_
            exact ⟨_, (), hj1, ⟨rfl, trivial⟩, ⟨rfl, rfl, rfl, trivial⟩, [], rfl⟩
        · replace hj1 := cond_f hc3 hj1
          refine g_exit ?_
          exact ⟨_, (), some_eq hj1, trivial, trivial, [], rfl⟩
      · rintro _ _ hst
        subst hst
        replace hm1 := on_go hm1
        refine k_norm (L' := []) (ms' := []) rfl rfl ?_
        refine g_seq ?_
        refine g_region ?_
        refine go_p rfl rfl rfl (o_assign rfl) ?_
        refine go_nil ?_
        refine g_ret ?_
        exact retK (ret_one' rfl (ret_tmp rfl) (perm_drop _)) (congrArg (fun (p : Int) => (.i64 p : D)) (some_eq hm1))
    · replace hm := cond_f hc2 hm
      refine g_skip ?_
      refine g_seq ?_
      refine g_region ?_
      refine go_p rfl rfl rfl (o_assign rfl) ?_
      refine go_nil ?_
      refine g_ret ?_
      exact retK (ret_one' rfl (ret_tmp rfl) (perm_drop _)) (congrArg (fun (p : Int) => (.i64 p : D)) (some_eq hm))
structure Syntagmaref06Binder where
  node : Int
  branch : Int
def Syntagmaref06Binder.d (x : Syntagmaref06Binder) : D := .agg [.i64 x.node, .i64 x.branch]
theorem pl_79 : ∀ fs, (∀ w, (underlying 79).run Try.prog w = .ok (.struct fs) w) → placesOf Try.prog fs [(0, 1), (1, 1)] := by
  intro fs h w
  have := (h w).symm.trans (Try.runUnderlying79 w)
  simp only [Result.ok.injEq, TypeDesc.struct.injEq, and_true] at this
  subst this
  simp [Try.sizeOf3, Sem.run]
theorem fi_79_0 : FieldIs Try.prog 79 0 0 1 false := ⟨⟨_, _, Try.runUnderlying79, rfl, rfl, Try.sizeOf3, by decide, Try.isAgg3⟩⟩
def m_syntagmaref06_Binders_l2 (e1 : ApiExpr) (x1 : (List Int)) (i1 : Int) : Nat → (Int × Int × Int × Int) → Option (Int × Int)
  | 0, _ => none
  | n + 1, (child1, up1, z3, z4) =>
    bif ((decide (0 ≤ up1)) && (decide (z3 < 0))) then
      (idx e1.l up1).bind fun x4 =>
      (idx e1.l i1).bind fun x5 =>
      (m_syntagmaref06_binds x4 child1 x5.name).bind fun x6 =>
      bif (decide ((-2) < x6)) then
        (idx x1 up1).bind fun x7 =>
        m_syntagmaref06_Binders_l2 e1 x1 i1 n (up1, x7, up1, x6)
      else
        (idx x1 up1).bind fun x8 =>
        m_syntagmaref06_Binders_l2 e1 x1 i1 n (up1, x8, z3, z4)
    else
      some (z3, z4)
def m_syntagmaref06_Binders_l1 (e1 : ApiExpr) (x1 : (List Int)) : Nat → (Int × (List Syntagmaref06Binder)) → Option (List Syntagmaref06Binder)
  | 0, _ => none
  | n + 1, (i1, l2) =>
    bif (decide (i1 < (e1.l.length : Int))) then
      (idx e1.l i1).bind fun x2 =>
      (bif (decide (x2.kind = 4)) then
        (idx x1 i1).bind fun x3 =>
        m_syntagmaref06_Binders_l2 e1 x1 i1 FU (i1, x3, (-1), (-1))
      else
        some ((-1), (-1)) : Option (Int × Int)).bind fun (z1, z2) =>
      grd ((l2.length + ([(⟨z1, z2⟩ : Syntagmaref06Binder)] : List _).length) * 16 ≤ 140737488355328) <|
      grd (InR (i1 + 1)) <|
      m_syntagmaref06_Binders_l1 e1 x1 n ((i1 + 1), (l2 ++ [(⟨z1, z2⟩ : Syntagmaref06Binder)]))
    else
      some l2
def m_syntagmaref06_Binders (e1 : ApiExpr) : Option (List Syntagmaref06Binder) :=
  (m_syntagmaref06_parents e1).bind fun x1 =>
  (m_syntagmaref06_Binders_l1 e1 x1 FU (0, []) : Option (List Syntagmaref06Binder)).bind fun l1 =>
  some l1
theorem w_syntagmaref06_Binders {e1 : ApiExpr} {r_1 : (List Syntagmaref06Binder)} (hm : m_syntagmaref06_Binders e1 = some r_1) : Fn0 Try.prog 54 [ApiExpr.d e1] (.list 2 Syntagmaref06Binder.d r_1) := by
  unfold m_syntagmaref06_Binders at hm
  refine fn_intro Try.func54 rfl Try.ntmps54 rfl fun H0 fr w0 => ?_
  refine g_seq ?_
  refine g_region ?_
  refine go_p rfl rfl rfl (o_box rfl rfl) ?_
  refine go_p rfl rfl rfl (o_assign rfl) ?_
  refine go_conv (nilE (i := 2) (sz := 2) (f := Syntagmaref06Binder.d) rfl).refines ?_
  refine go_nil ?_
  refine g_seq ?_
  refine g_region ?_
  refine go_p rfl rfl rfl (o_load_agg Try.isAgg37 Try.sizeOf37 rfl rfl) ?_
  obtain ⟨x1, hx1, hm⟩ := bind_some hm
  refine go_p rfl rfl rfl (o_call0 Try.call89 rfl (w_syntagmaref06_parents hx1)) ?_
  refine go_op rfl rfl rfl (o_buildSlice_row (xs := []) (f := Syntagmaref06Binder.d) (l := []) Try.runUnderlying75 Try.sizeOf79 Try.zeroValue79 rfl rfl rfl (fun _ => ⟨rfl, rfl, rfl⟩) rfl (by simp [maxLen])) ?_
  rintro _ _ ⟨a_r1, rfl, rfl⟩
  refine go_p rfl rfl rfl (o_assign rfl) ?_
  refine go_p rfl rfl rfl (o_assign rfl) ?_
  refine go_nil ?_
  refine g_seq ?_
  refine g_seq ?_
  refine g_region ?_
  refine go_p rfl rfl rfl (o_assign rfl) ?_
  refine go_nil ?_
  obtain ⟨o_1, hj1, hm1⟩ := bind_some hm
  refine g_cut_m [] [] (fun (st : (List Syntagmaref06Binder)) (hid : (Option Addr × Nat)) => match st, hid with | l1, (a_r1, cap_r1) => [(4, .v (.slice a_r1 l1.length cap_r1))]) (fun F (st : (List Syntagmaref06Binder)) (hid : (Option Addr × Nat)) => match st, hid with | l1, (a_r1, cap_r1) => [row a_r1 cap_r1 79 2 Syntagmaref06Binder.d l1]) (fun st => st = o_1) trivial trivial ?_ ?_
  · skip
    refine g_block ?_
    refine g_loop_m [(1, _), (3, _)] [] (fun (st : (Int × (List Syntagmaref06Binder))) (hid : (Option Addr × Nat)) => match st, hid with | (i1, l2), (a_r1, cap_r1) => [(4, .v (.slice a_r1 l2.length cap_r1)), (5, .i64 i1)]) (fun F (st : (Int × (List Syntagmaref06Binder))) (hid : (Option Addr × Nat)) => match st, hid with | (i1, l2), (a_r1, cap_r1) => [row a_r1 cap_r1 79 2 Syntagmaref06Binder.d l2]) (_, _) hj1 (fun _ => rfl) ⟨rfl, rfl, trivial⟩ trivial ⟨rfl, rfl, trivial⟩ rfl ?_
    rintro n ⟨i1, l2⟩ ⟨a_r1, cap_r1⟩ hj1
    rw [m_syntagmaref06_Binders_l1] at hj1
    refine g_norm (L' := [(4, .v (.slice a_r1 l2.length cap_r1)), (5, .i64 i1), (1, _), (3, _)]) (ms' := [row a_r1 cap_r1 79 2 Syntagmaref06Binder.d l2]) rfl rfl ?_
    refine g_seq ?_
    refine g_seq ?_
    refine g_region ?_
    refine go_p rfl rfl rfl (o_move rfl) ?_
    refine go_p rfl rfl rfl (o_fieldAddr fi_37_0 rfl rfl rfl) ?_
    refine go_p rfl rfl rfl (o_load Try.isAgg35 rfl rfl) ?_
    refine go_p rfl rfl rfl (o_len Try.runUnderlying35 rfl) ?_
    refine go_p rfl rfl rfl (o_cmp rfl rfl rfl) ?_
    refine go_nil ?_
    refine g_cond rfl (fun hc1 => ?_) (fun hc1 => ?_)
    · replace hj1 := cond_t hc1 hj1
      refine g_skip ?_
      refine g_seq ?_
      refine g_block ?_
      refine g_seq ?_
      refine g_region ?_
      refine go_p rfl rfl rfl (o_build (zs := [.v (.int .i64 0), .v (.int .i64 0)]) Try.runUnderlying79 Try.zeroValue79 (pl_79 _ Try.runUnderlying79) rfl rfl rfl rfl) ?_
      refine go_op rfl rfl rfl (o_alloc_own Try.zeroValue79 (cs := [.i64 0, .i64 0]) rfl) ?_
      rintro _ _ ⟨b1, rfl, rfl⟩
      refine go_u rfl rfl (o_store_box 0 Try.sizeOf79 rfl rfl rfl rfl rfl rfl rfl rfl (Nat.le_of_ble_eq_true rfl)) ?_
      rintro _ _ rfl
      refine go_ms (ms' := [box b1 79 [_, _], _]) rfl ?_
      refine go_nil ?_
      refine g_seq ?_
      refine g_seq ?_
      refine g_region ?_
      refine go_p rfl rfl rfl (o_fieldAddr fi_37_0 rfl rfl rfl) ?_
      refine go_p rfl rfl rfl (o_load Try.isAgg35 rfl rfl) ?_
      refine go_p rfl rfl rfl (o_move rfl) ?_
      obtain ⟨x2, hx2, hj1⟩ := bind_some hj1
      refine go_p rfl rfl rfl (o_indexAddr_m Try.runUnderlying35 Try.sizeOf40 rfl rfl hx2) ?_
      refine go_p rfl rfl rfl (o_fieldAddr fi_40_0 rfl rfl rfl) ?_
      refine go_p rfl rfl rfl (o_load Try.isAgg3 rfl rfl) ?_
      refine go_p rfl rfl rfl (o_cmp rfl rfl rfl) ?_
      refine go_nil ?_
      obtain ⟨o_2, hj2, hm2⟩ := bind_some hj1
      refine g_cut_m [(1, _), (3, _), (4, _), (5, _), (6, _)] [(1, _)] (fun (st : (Int × Int)) (hid : Unit) => match st, hid with | (z1, z2), _ => []) (fun F (st : (Int × Int)) (hid : Unit) => match st, hid with | (z1, z2), _ => [box b1 79 [.i64 z1, .i64 z2], (nthF F 0)]) (fun st => st = o_2) ⟨rfl, rfl, rfl, rfl, rfl, trivial⟩ ⟨rfl, trivial⟩ ?_ ?_
      · skip
        refine g_cond rfl (fun hc2 => ?_) (fun hc2 => ?_)
        · replace hj2 := cond_t hc2 hj2
          refine g_seq ?_
          refine g_region ?_
          refine go_p rfl rfl rfl (o_move rfl) ?_
          refine go_p rfl rfl rfl (o_assign rfl) ?_
          refine go_nil ?_
          refine g_seq ?_
          refine g_region ?_
          refine go_p rfl rfl rfl (o_move rfl) ?_
          refine go_p rfl rfl rfl (o_move rfl) ?_
          obtain ⟨x3, hx3, hj2⟩ := bind_some hj2
          refine go_p rfl rfl rfl (o_indexAddr_m Try.runUnderlying46 Try.sizeOf3 rfl rfl hx3) ?_
          refine go_p rfl rfl rfl (o_load Try.isAgg3 rfl rfl) ?_
          refine go_p rfl rfl rfl (o_assign rfl) ?_
          refine go_nil ?_
          refine g_block ?_
          refine g_loop_m [(1, _), (3, _), (4, _), (5, _), (6, _)] [(1, _)] (fun (st : (Int × Int × Int × Int)) (hid : Unit) => match st, hid with | (child1, up1, z3, z4), _ => [(7, .i64 child1), (8, .i64 up1)]) (fun F (st : (Int × Int × Int × Int)) (hid : Unit) => match st, hid with | (child1, up1, z3, z4), _ => [box b1 79 [.i64 z3, .i64 z4], (nthF F 0)]) () hj2 (fun _ => rfl) ⟨rfl, rfl, rfl, rfl, rfl, trivial⟩ ⟨rfl, trivial⟩ ⟨rfl, rfl, trivial⟩ rfl ?_
          rintro n ⟨child1, up1, z3, z4⟩ _ hj2
          rw [m_syntagmaref06_Binders_l2] at hj2
          refine g_norm (L' := [(7, .i64 child1), (8, .i64 up1), (1, _), (3, _), (4, _), (5, _), (6, _)]) (ms' := [box b1 79 [.i64 z3, .i64 z4], _]) rfl rfl ?_
          refine g_seq ?_
          refine g_seq ?_
          refine g_region ?_
          refine go_p rfl rfl rfl (o_move rfl) ?_
          refine go_p rfl rfl rfl (o_cmp rfl rfl rfl) ?_
          refine go_p rfl rfl rfl (o_move rfl) ?_
          apply go_and [(1, _), (3, _), (4, _), (5, _), (6, _), (7, _), (8, _)] 4 39 (t := 35) ⟨rfl, rfl, rfl, rfl, rfl, rfl, rfl, trivial⟩ rfl
          · intro hg_1 hk1
            refine go_wantp rfl rfl rfl hg_1 rfl rfl (o_fieldAddr_box fi_79_0 rfl) ?_
            refine go_wantp rfl rfl rfl hg_1 rfl rfl (o_load_box 0 Try.isAgg3 rfl rfl rfl rfl) ?_
            refine go_wantp rfl rfl rfl hg_1 rfl rfl (o_cmp rfl rfl rfl) ?_
            refine go_p rfl rfl rfl (o_pickT rfl hg_1 rfl) ?_
            exact go_meet hk1 (rfl) ⟨rfl, rfl, rfl, rfl, rfl, rfl, rfl, trivial⟩
          · intro hg_1 hk1
            refine go_skip rfl rfl rfl hg_1 rfl rfl ?_
            refine go_skip rfl rfl rfl hg_1 rfl rfl ?_
            refine go_skip rfl rfl rfl hg_1 rfl rfl ?_
            refine go_p rfl rfl rfl (o_pickF rfl hg_1 rfl) ?_
            exact go_meet hk1 (rfl) ⟨rfl, rfl, rfl, rfl, rfl, rfl, rfl, trivial⟩
          refine go_nil ?_
          refine g_cond rfl (fun hc3 => ?_) (fun hc3 => ?_)
          · replace hj2 := cond_t hc3 hj2
            refine g_skip ?_
            refine g_seq ?_
            refine g_block ?_
            refine g_seq ?_
            refine g_seq ?_
            obtain ⟨x4, hx4, hj2⟩ := bind_some hj2
            obtain ⟨x5, hx5, hj2⟩ := bind_some hj2
            obtain ⟨x6, hx6, hj2⟩ := bind_some hj2
            refine g_draw 14 Try_mixed (by decide +kernel) ?_
            refine gd_p rfl rfl rfl (o_fieldAddr fi_37_0 rfl rfl rfl) ?_
            refine gd_p rfl rfl rfl (o_load Try.isAgg35 rfl rfl) ?_
            refine gd_p rfl rfl rfl (o_move rfl) ?_
            refine gd_p rfl rfl rfl (o_indexAddr_m Try.runUnderlying35 Try.sizeOf40 rfl rfl hx4) ?_
            refine gd_p rfl rfl rfl (o_load_agg Try.isAgg40 Try.sizeOf40 rfl rfl) ?_
            refine gd_p rfl rfl rfl (o_move rfl) ?_
            refine gd_p rfl rfl rfl (o_fieldAddr fi_37_0 rfl rfl rfl) ?_
            refine gd_p rfl rfl rfl (o_load Try.isAgg35 rfl rfl) ?_
            refine gd_p rfl rfl rfl (o_move rfl) ?_
            refine gd_p rfl rfl rfl (o_indexAddr_m Try.runUnderlying35 Try.sizeOf40 rfl rfl hx5) ?_
            refine gd_p rfl rfl rfl (o_fieldAddr fi_40_5 rfl rfl rfl) ?_
            refine gd_p rfl rfl rfl (o_load Try.isAgg9 rfl rfl) ?_
            refine gd_p rfl rfl rfl (o_call0 Try.call90 rfl (w_syntagmaref06_binds hx6)) ?_
            refine gd_p rfl rfl rfl (o_assign rfl) ?_
            refine gd_nil ?_
            refine go_nil ?_
            refine g_seq ?_
            refine g_region ?_
            refine go_p rfl rfl rfl (o_move rfl) ?_
            refine go_p rfl rfl rfl (o_cmp rfl rfl rfl) ?_
            refine go_nil ?_
            refine g_cond rfl (fun hc4 => ?_) (fun hc4 => ?_)
            · replace hj2 := cond_t hc4 hj2
              refine g_region ?_
              refine go_p rfl rfl rfl (o_move rfl) ?_
              refine go_p rfl rfl rfl (o_move rfl) ?_
              refine go_p rfl rfl rfl (o_build (zs := [.v (.int .i64 0), .v (.int .i64 0)]) Try.runUnderlying79 Try.zeroValue79 (pl_79 _ Try.runUnderlying79) rfl rfl rfl rfl) ?_
              refine go_u rfl rfl (o_store_box 0 Try.sizeOf79 rfl rfl rfl rfl rfl rfl rfl rfl (Nat.le_of_ble_eq_true rfl)) ?_
              rintro _ _ rfl
              refine go_ms (ms' := [box b1 79 [_, _], _]) rfl ?_
              refine go_nil ?_
              refine g_region ?_
              refine go_p rfl rfl rfl (o_move rfl) ?_
              refine go_p rfl rfl rfl (o_assign rfl) ?_
              refine go_nil ?_
              refine g_region ?_
              refine go_p rfl rfl rfl (o_move rfl) ?_
              refine go_p rfl rfl rfl (o_move rfl) ?_
              obtain ⟨x7, hx7, hj2⟩ := bind_some hj2
              refine go_p rfl rfl rfl (o_indexAddr_m Try.runUnderlying46 Try.sizeOf3 rfl rfl hx7) ?_
              refine go_p rfl rfl rfl (o_load Try.isAgg3 rfl rfl) ?_
              refine go_p rfl rfl rfl (o_assign rfl) ?_
              refine go_nil ?_
              exact ⟨_, (), hj2, ⟨rfl, rfl, trivial⟩, ⟨rfl, rfl, rfl, rfl, rfl, trivial⟩, [], rfl⟩
            · replace hj2 := cond_f hc4 hj2
              refine g_skip ?_
              refine g_region ?_
              refine go_p rfl rfl rfl (o_move rfl) ?_
              refine go_p rfl rfl rfl (o_assign rfl) ?_
              refine go_nil ?_
              refine g_region ?_
              refine go_p rfl rfl rfl (o_move rfl) ?_
              refine go_p rfl rfl rfl (o_move rfl) ?_
              obtain ⟨x8, hx8, hj2⟩ := bind_some hj2
              refine go_p rfl rfl rfl (o_indexAddr_m Try.runUnderlying46 Try.sizeOf3 rfl rfl hx8) ?_
              refine go_p rfl rfl rfl (o_load Try.isAgg3 rfl rfl) ?_
              refine go_p rfl rfl rfl (o_assign rfl) ?_
              refine go_nil ?_
              exact ⟨_, (), hj2, ⟨rfl, rfl, trivial⟩, ⟨rfl, rfl, rfl, rfl, rfl, trivial⟩, [], rfl⟩
          · replace hj2 := cond_f hc3 hj2
            refine g_exit ?_
            exact ⟨_, (), some_eq hj2, trivial, ⟨rfl, rfl, rfl, rfl, rfl, trivial⟩, [], rfl⟩
        · replace hj2 := cond_f hc2 hj2
          refine g_skip ?_
          exact ⟨_, (), some_eq hj2, trivial, ⟨rfl, rfl, rfl, rfl, rfl, trivial⟩, [], rfl⟩
      · rintro ⟨z1, z2⟩ _ hst
        subst hst
        refine k_norm (L' := [(1, _), (3, _), (4, _), (5, _), (6, _)]) (ms' := [box b1 79 [.i64 z1, .i64 z2], _]) rfl rfl ?_
        refine g_region ?_
        refine go_p rfl rfl rfl (o_move rfl) ?_
        refine go_p rfl rfl rfl (o_load_box_agg 0 Try.isAgg79 Try.sizeOf79 rfl rfl rfl rfl (Nat.le_of_ble_eq_true rfl)) ?_
        refine go_p rfl rfl rfl (o_buildSlice (xs := [_]) (f := Syntagmaref06Binder.d) (l := [(⟨z1, z2⟩ : Syntagmaref06Binder)]) Try.runUnderlying75 Try.sizeOf79 Try.zeroValue79 rfl rfl rfl (fun _ => ⟨rfl, rfl, rfl⟩) rfl) ?_
        obtain ⟨hg9, hm2⟩ := grd_some hm2
        refine go_op rfl rfl rfl (o_append (a := _) 1 Try.underlying75 Try.type79 rfl rfl rfl rfl rfl rfl rfl (fun _ => rfl) (fun _ => rfl) hg9 (app_len hg9 rfl)) ?_
        rintro _ _ ⟨a_r1, cap_r1, rfl, rfl⟩
        refine go_ms (ms' := [box b1 79 [_, _], _]) rfl ?_
        refine go_p rfl rfl rfl (o_assign rfl) ?_
        refine go_nil ?_
        refine g_region ?_
        refine go_p rfl rfl rfl (o_move rfl) ?_
        obtain ⟨hg10, hm2⟩ := grd_some hm2
        refine go_p rfl rfl rfl (o_add rfl rfl (i64_id hg10)) ?_
        refine go_p rfl rfl rfl (o_assign rfl) ?_
        refine go_nil ?_
        exact ⟨_, (_, _), hm2, ⟨rfl, rfl, trivial⟩, ⟨rfl, rfl, trivial⟩, [_], rfl⟩
    · replace hj1 := cond_f hc1 hj1
      refine g_exit ?_
      exact ⟨_, (_, _), some_eq hj1, ⟨rfl, trivial⟩, trivial, [], rfl⟩
  · rintro l1 ⟨a_r1, cap_r1⟩ hst
    subst hst
    refine k_norm (L' := [(4, .v (.slice a_r1 l1.length cap_r1))]) (ms' := [row a_r1 cap_r1 79 2 Syntagmaref06Binder.d l1]) rfl rfl ?_
    refine g_seq ?_
    refine g_region ?_
    refine go_p rfl rfl rfl (o_move rfl) ?_
    refine go_p rfl rfl rfl (o_assign rfl) ?_
    refine go_nil ?_
    refine g_conv (peekE (i := 2) 0 rfl rfl rfl).refines ?_
    refine g_ret ?_
    exact retK (ret_one' rfl (ret_tmp rfl) (perm_drop _)) (congrArg (fun (p : (List Syntagmaref06Binder)) => (.list 2 Syntagmaref06Binder.d p : D)) (some_eq hm1))
def m_syntagmaref06_Closed_l1 (e1 : ApiExpr) (x1 : (List Syntagmaref06Binder)) : Nat → Int → Option (Out Int Unit)
  | 0, _ => none
  | n + 1, i1 =>
    bif (decide (i1 < (e1.l.length : Int))) then
      (idx e1.l i1).bind fun x2 =>
      (bif (decide (x2.kind = 4)) then ((idx x1 i1).bind fun x3 =>
      some (decide (x3.node < 0))) else (some false)).bind fun p1 =>
      bif p1 then
        some (Out.ret i1)
      else
        grd (InR (i1 + 1)) <|
        m_syntagmaref06_Closed_l1 e1 x1 n (i1 + 1)
    else
      some (Out.go (()))
def m_syntagmaref06_Closed (e1 : ApiExpr) : Option Int :=
  (m_syntagmaref06_Binders e1).bind fun x1 =>
  ((m_syntagmaref06_Closed_l1 e1 x1 FU 0 : Option (Out Int Unit))).bind (fun oo => oo.on (fun r1 => some r1) (fun _ =>
  some (-1)))
theorem w_syntagmaref06_Closed {e1 : ApiExpr} {r_1 : Int} (hm : m_syntagmaref06_Closed e1 = some r_1) : Fn0 Try.prog 48 [ApiExpr.d e1] (.i64 r_1) := by
  unfold m_syntagmaref06_Closed at hm
  refine fn_intro Try.func48 rfl Try.ntmps48 rfl fun H0 fr w0 => ?_
  refine g_seq ?_
  refine g_region ?_
  refine go_p rfl rfl rfl (o_box rfl rfl) ?_
  refine go_p rfl rfl rfl (o_assign rfl) ?_
  refine go_nil ?_
  refine g_seq ?_
  refine g_region ?_
  refine go_p rfl rfl rfl (o_load_agg Try.isAgg37 Try.sizeOf37 rfl rfl) ?_
  obtain ⟨x1, hx1, hm⟩ := bind_some hm
  refine go_p rfl rfl rfl (o_call0 Try.call54 rfl (w_syntagmaref06_Binders hx1)) ?_
  refine go_p rfl rfl rfl (o_assign rfl) ?_
  refine go_nil ?_
  refine g_seq ?_
  refine g_seq ?_
  refine g_region ?_
  refine go_p rfl rfl rfl (o_assign rfl) ?_
  refine go_nil ?_
  obtain ⟨o_1, hj1, hm1⟩ := bind_some hm
  refine g_cut_m [] [] (fun (st : Unit) (hid : Unit) => match st, hid with | _, _ => []) (fun F (st : Unit) (hid : Unit) => match st, hid with | _, _ => []) (fun st => Out.go (st) = o_1) trivial trivial ?_ ?_
  · skip
    refine g_block ?_
    refine g_loop_m [(1, _), (3, _)] [] (fun (st : Int) (hid : Unit) => match st, hid with | i1, _ => [(4, .i64 i1)]) (fun F (st : Int) (hid : Unit) => match st, hid with | i1, _ => []) () hj1 (fun _ => rfl) ⟨rfl, rfl, trivial⟩ trivial ⟨rfl, trivial⟩ rfl ?_
    rintro n i1 _ hj1
    rw [m_syntagmaref06_Closed_l1] at hj1
    refine g_norm (L' := [(4, .i64 i1), (1, _), (3, _)]) (ms' := []) rfl rfl ?_
    refine g_seq ?_
    refine g_seq ?_
    refine g_region ?_
    refine go_p rfl rfl rfl (o_move rfl) ?_
    refine go_p rfl rfl rfl (o_fieldAddr fi_37_0 rfl rfl rfl) ?_
    refine go_p rfl rfl rfl (o_load Try.isAgg35 rfl rfl) ?_
    refine go_p rfl rfl rfl (o_len Try.runUnderlying35 rfl) ?_
    refine go_p rfl rfl rfl (o_cmp rfl rfl rfl) ?_
    refine go_nil ?_
    refine g_cond rfl (fun hc1 => ?_) (fun hc1 => ?_)
    · replace hj1 := cond_t hc1 hj1
      refine g_skip ?_
      refine g_seq ?_
      refine g_block ?_
      refine g_seq ?_
      refine g_region ?_
      refine go_p rfl rfl rfl (o_fieldAddr fi_37_0 rfl rfl rfl) ?_
      refine go_p rfl rfl rfl (o_load Try.isAgg35 rfl rfl) ?_
      refine go_p rfl rfl rfl (o_move rfl) ?_
      obtain ⟨x2, hx2, hj1⟩ := bind_some hj1
      refine go_p rfl rfl rfl (o_indexAddr_m Try.runUnderlying35 Try.sizeOf40 rfl rfl hx2) ?_
      refine go_p rfl rfl rfl (o_fieldAddr fi_40_0 rfl rfl rfl) ?_
      refine go_p rfl rfl rfl (o_load Try.isAgg3 rfl rfl) ?_
      refine go_p rfl rfl rfl (o_cmp rfl rfl rfl) ?_
      refine go_p rfl rfl rfl (o_move rfl) ?_
      obtain ⟨p1, hp_1, hj1⟩ := bind_some hj1
      refine go_two [(1, _), (3, _), (4, _)] 7 28 p1 (t := 21) ⟨rfl, rfl, rfl, trivial⟩ rfl (fun hg_1 hk1 => ?_) (fun hg_1 hk1 => ?_) ?_
      · replace hp_1 := cond_t hg_1 hp_1
        refine go_wantp rfl rfl rfl hg_1 rfl rfl (o_move rfl) ?_
        refine go_wantp rfl rfl rfl hg_1 rfl rfl (o_move rfl) ?_
        obtain ⟨x3, hx3, hp_1⟩ := bind_some hp_1
        refine go_wantp rfl rfl rfl hg_1 rfl rfl (o_indexAddr_m Try.runUnderlying75 Try.sizeOf79 rfl rfl hx3) ?_
        refine go_wantp rfl rfl rfl hg_1 rfl rfl (o_fieldAddr fi_79_0 rfl rfl rfl) ?_
        refine go_wantp rfl rfl rfl hg_1 rfl rfl (o_load Try.isAgg3 rfl rfl) ?_
        refine go_wantp rfl rfl rfl hg_1 rfl rfl (o_cmp rfl rfl rfl) ?_
        refine go_p rfl rfl rfl (o_pickT rfl hg_1 rfl) ?_
        exact go_meet hk1 (congrArg (fun b => some (D.bool b)) (some_eq hp_1)) ⟨rfl, rfl, rfl, trivial⟩
      · replace hp_1 := cond_f hg_1 hp_1
        refine go_skip rfl rfl rfl hg_1 rfl rfl ?_
        refine go_skip rfl rfl rfl hg_1 rfl rfl ?_
        refine go_skip rfl rfl rfl hg_1 rfl rfl ?_
        refine go_skip rfl rfl rfl hg_1 rfl rfl ?_
        refine go_skip rfl rfl rfl hg_1 rfl rfl ?_
        refine go_skip rfl rfl rfl hg_1 rfl rfl ?_
        refine go_p rfl rfl rfl (o_pickF rfl hg_1 rfl) ?_
        exact go_meet hk1 (congrArg (fun b => some (D.bool b)) (some_eq hp_1)) ⟨rfl, rfl, rfl, trivial⟩
      refine go_nil ?_
      refine g_cond rfl (fun hc2 => ?_) (fun hc2 => ?_)
      · replace hj1 := cond_t hc2 hj1
        refine g_seq ?_
        refine g_region ?_
        refine go_p rfl rfl rfl (o_move rfl) ?_
        refine go_p rfl rfl rfl (o_assign rfl) ?_
        refine go_nil ?_
        refine g_ret ?_
        obtain rfl := some_eq hj1
        replace hm1 := on_ret hm1
        exact retK (ret_one' rfl (ret_tmp rfl) (perm_drop _)) (congrArg (fun (p : Int) => (.i64 p : D)) (some_eq hm1))
      · replace hj1 := cond_f hc2 hj1
        refine g_skip ?_
        refine g_region ?_
        refine go_p rfl rfl rfl (o_move rfl) ?_
        obtain ⟨hg4, hj1⟩ := grd_some hj1
        refine go_p rfl rfl rfl (o_add rfl rfl (i64_id hg4)) ?_
        refine go_p rfl rfl rfl (o_assign rfl) ?_
        refine go_nil ?_
        exact ⟨_, (), hj1, ⟨rfl, trivial⟩, ⟨rfl, rfl, trivial⟩, [], rfl⟩
    · replace hj1 := cond_f hc1 hj1
      refine g_exit ?_
      exact ⟨_, (), some_eq hj1, trivial, trivial, [], rfl⟩
  · rintro _ _ hst
    subst hst
    replace hm1 := on_go hm1
    refine k_norm (L' := []) (ms' := []) rfl rfl ?_
    refine g_seq ?_
    refine g_region ?_
    refine go_p rfl rfl rfl (o_assign rfl) ?_
    refine go_nil ?_
    refine g_ret ?_
    exact retK (ret_one' rfl (ret_tmp rfl) (perm_drop _)) (congrArg (fun (p : Int) => (.i64 p : D)) (some_eq hm1))
def m_subst_made (e1 : ApiExpr) : Option (ApiExpr × Int) :=
  (m_tree_May e1).bind fun x1 =>
  bif (!decide (x1 = 0)) then
    some ((⟨([] : List ApiNode)⟩ : ApiExpr), x1)
  else
    some ((⟨e1.l⟩ : ApiExpr), 0)
theorem w_subst_made {e1 : ApiExpr} {r_1 : ApiExpr} {r_2 : Int} (hm : m_subst_made e1 = some (r_1, r_2)) : Fn0 Try.prog 92 [ApiExpr.d e1] (.tup [ApiExpr.d r_1, .i64 r_2]) := by
  unfold m_subst_made at hm
  refine fn_intro Try.func92 rfl Try.ntmps92 rfl fun H0 fr w0 => ?_
  refine g_seq ?_
  refine g_region ?_
  refine go_p rfl rfl rfl (o_box rfl rfl) ?_
  refine go_op rfl rfl rfl (o_alloc_own Try.zeroValue37 (cs := [.list 9 ApiNode.d []]) rfl) ?_
  rintro _ _ ⟨b1, rfl, rfl⟩
  refine go_p rfl rfl rfl (o_assign rfl) ?_
  refine go_nil ?_
  refine g_seq ?_
  refine g_seq ?_
  refine g_region ?_
  refine go_p rfl rfl rfl (o_load_agg Try.isAgg37 Try.sizeOf37 rfl rfl) ?_
  obtain ⟨x1, hx1, hm⟩ := bind_some hm
  refine go_p rfl rfl rfl (o_call0 Try.call28 rfl (w_tree_May hx1)) ?_
  refine go_p rfl rfl rfl (o_assign rfl) ?_
  refine go_nil ?_
  refine g_seq ?_
  refine g_region ?_
  refine go_p rfl rfl rfl (o_move rfl) ?_
  refine go_p rfl rfl rfl (o_cmp rfl rfl rfl) ?_
  refine go_nil ?_
  refine g_cond rfl (fun hc1 => ?_) (fun hc1 => ?_)
  · replace hm := cond_t hc1 hm
    refine g_seq ?_
    refine g_region ?_
    refine go_p rfl rfl rfl (o_build (zs := [.list 9 ApiNode.d []]) Try.runUnderlying37 Try.zeroValue37 (pl_37 _ Try.runUnderlying37) rfl rfl rfl rfl) ?_
    refine go_p rfl rfl rfl (o_move rfl) ?_
    refine go_u rfl rfl (o_store_box 0 Try.sizeOf37 rfl rfl rfl rfl rfl rfl rfl rfl (Nat.le_of_ble_eq_true rfl)) ?_
    rintro _ _ rfl
    refine go_ms (ms' := [box b1 37 [_]]) rfl ?_
    refine go_p rfl rfl rfl (o_assign rfl) ?_
    refine go_nil ?_
    refine g_ret ?_
    exact retK (ret_many (ds := [_, _]) rfl (by decide) ⟨ret_cell 0 rfl rfl rfl Try.isAgg37 Try.sizeOf37 rfl, ⟨ret_tmp rfl, rfl⟩⟩ (perm_drop _)) (congrArg (fun (p : (ApiExpr × Int)) => D.tup [ApiExpr.d p.1, .i64 p.2]) (some_eq hm))
  · replace hm := cond_f hc1 hm
    refine g_skip ?_
    refine g_seq ?_
    refine g_region ?_
    refine go_p rfl rfl rfl (o_load_agg Try.isAgg37 Try.sizeOf37 rfl rfl) ?_
    refine go_u rfl rfl (o_store_box 0 Try.sizeOf37 rfl rfl rfl rfl rfl rfl rfl rfl (Nat.le_of_ble_eq_true rfl)) ?_
    rintro _ _ rfl
    refine go_ms (ms' := [box b1 37 [_]]) rfl ?_
    refine go_p rfl rfl rfl (o_assign rfl) ?_
    refine go_nil ?_
    refine g_ret ?_
    exact retK (ret_many (ds := [_, _]) rfl (by decide) ⟨ret_cell 0 rfl rfl rfl Try.isAgg37 Try.sizeOf37 rfl, ⟨ret_tmp rfl, rfl⟩⟩ (perm_drop _)) (congrArg (fun (p : (ApiExpr × Int)) => D.tup [ApiExpr.d p.1, .i64 p.2]) (some_eq hm))
def m_subst_sub (e1 : ApiExpr) (i1 : Int) : Option ApiExpr :=
  (m_tree_Sub e1 i1).bind fun (x1, x2) =>
  some (⟨x1.l⟩ : ApiExpr)
theorem w_subst_sub {e1 : ApiExpr} {i1 : Int} {r_1 : ApiExpr} (hm : m_subst_sub e1 i1 = some r_1) : Fn0 Try.prog 99 [ApiExpr.d e1, .i64 i1] (ApiExpr.d r_1) := by
  unfold m_subst_sub at hm
  refine fn_intro Try.func99 rfl Try.ntmps99 rfl fun H0 fr w0 => ?_
  refine g_seq ?_
  refine g_region ?_
  refine go_p rfl rfl rfl (o_box rfl rfl) ?_
  refine go_op rfl rfl rfl (o_alloc_own Try.zeroValue37 (cs := [.list 9 ApiNode.d []]) rfl) ?_
  rintro _ _ ⟨b1, rfl, rfl⟩
  refine go_nil ?_
  refine g_seq ?_
  refine g_region ?_
  refine go_p rfl rfl rfl (o_load_agg Try.isAgg37 Try.sizeOf37 rfl rfl) ?_
  refine go_p rfl rfl rfl (o_move rfl) ?_
  obtain ⟨⟨x1, x2⟩, hx1, hm⟩ := bind_some hm
  refine go_p rfl rfl rfl (o_call0 Try.call38 rfl (w_tree_Sub hx1)) ?_
  refine go_p rfl rfl rfl (o_move rfl) ?_
  refine go_p rfl rfl rfl (o_extract rfl rfl) ?_
  refine go_p rfl rfl rfl (o_extract rfl rfl) ?_
  refine go_op rfl rfl rfl (o_alloc_own Try.zeroValue37 (cs := [.list 9 ApiNode.d []]) rfl) ?_
  rintro _ _ ⟨b2, rfl, rfl⟩
  refine go_u rfl rfl (o_store_box 0 Try.sizeOf37 rfl rfl rfl rfl rfl rfl rfl rfl (Nat.le_of_ble_eq_true rfl)) ?_
  rintro _ _ rfl
  refine go_ms (ms' := [box b2 37 [_], box b1 37 [_]]) rfl ?_
  refine go_p rfl rfl rfl (o_assign rfl) ?_
  refine go_nil ?_
  refine g_seq ?_
  refine g_region ?_
  refine go_p rfl rfl rfl (o_load_box_agg 0 Try.isAgg37 Try.sizeOf37 rfl rfl rfl rfl (Nat.le_of_ble_eq_true rfl)) ?_
  refine go_u rfl rfl (o_store_box 1 Try.sizeOf37 rfl rfl rfl rfl rfl rfl rfl rfl (Nat.le_of_ble_eq_true rfl)) ?_
  rintro _ _ rfl
  refine go_ms (ms' := [box b2 37 [_], box b1 37 [_]]) rfl ?_
  refine go_nil ?_
  refine g_ret ?_
  exact retK (ret_one' rfl (ret_cell 1 rfl rfl rfl Try.isAgg37 Try.sizeOf37 rfl) (perm_drop _)) (congrArg (fun (p : ApiExpr) => (ApiExpr.d p : D)) (some_eq hm))
def m_subst_hides (n1 : ApiNode) (k1 : Int) (x1 : (List UInt8)) : Option Bool :=
  (bif (decide (n1.kind = 5)) then
    some (decide (n1.kind = 5))
  else
    some (decide (n1.kind = 8)) : Option Bool).bind fun x2 =>
  bif x2 then
    some (decide ((n1.name : List UInt8) = x1))
  else
    bif (decide (n1.kind = 7)) then
      some ((decide ((n1.name : List UInt8) = x1)) && (decide (k1 = 1)))
    else
      bif (decide (n1.kind = 14)) then
        (bif (decide (0 < k1)) then (grd (InR (k1 - 1)) <|
        (idx n1.l (k1 - 1)).bind fun x3 =>
        some (decide ((x3.var : List UInt8) = x1))) else (some false)).bind fun p1 =>
        some p1
      else
        some false
theorem w_subst_hides {n1 : ApiNode} {k1 : Int} {x1 : (List UInt8)} {r_1 : Bool} (hm : m_subst_hides n1 k1 x1 = some r_1) : Fn0 Try.prog 128 [ApiNode.d n1, .i64 k1, .str x1] (.bool r_1) := by
  unfold m_subst_hides at hm
  refine fn_intro Try.func128 rfl Try.ntmps128 rfl fun H0 fr w0 => ?_
  refine g_seq ?_
  refine g_region ?_
  refine go_p rfl rfl rfl (o_box rfl rfl) ?_
  refine go_p rfl rfl rfl (o_assign rfl) ?_
  refine go_nil ?_
  refine g_seq ?_
  refine g_seq ?_
  refine g_region ?_
  refine go_p rfl rfl rfl (o_fieldAddr fi_40_0 rfl rfl rfl) ?_
  refine go_p rfl rfl rfl (o_load Try.isAgg3 rfl rfl) ?_
  refine go_nil ?_
  refine g_block ?_
  refine g_seq ?_
  refine g_seq ?_
  refine g_region ?_
  refine go_p rfl rfl rfl (o_cmp rfl rfl rfl) ?_
  refine go_p rfl rfl rfl (o_assign rfl) ?_
  refine go_nil ?_
  obtain ⟨o_1, hj1, hm1⟩ := bind_some hm
  refine g_cut_m [(1, _), (2, _), (3, _), (8, _)] [] (fun (st : Bool) (hid : Unit) => match st, hid with | x2, _ => [(9, .bool x2)]) (fun F (st : Bool) (hid : Unit) => match st, hid with | x2, _ => []) (fun st => st = o_1) ⟨rfl, rfl, rfl, rfl, trivial⟩ trivial ?_ ?_
  · skip
    refine g_cond rfl (fun hc1 => ?_) (fun hc1 => ?_)
    · replace hj1 := cond_t hc1 hj1
      refine g_skip ?_
      exact ⟨_, (), some_eq hj1, ⟨rfl, trivial⟩, ⟨rfl, rfl, rfl, rfl, trivial⟩, [], rfl⟩
    · replace hj1 := cond_f hc1 hj1
      refine g_region ?_
      refine go_p rfl rfl rfl (o_cmp rfl rfl rfl) ?_
      refine go_p rfl rfl rfl (o_assign rfl) ?_
      refine go_nil ?_
      exact ⟨_, (), some_eq hj1, ⟨rfl, trivial⟩, ⟨rfl, rfl, rfl, rfl, trivial⟩, [], rfl⟩
  · rintro x2 _ hst
    subst hst
    refine k_norm (L' := [(9, .bool x2), (1, _), (2, _), (3, _), (8, _)]) (ms' := []) rfl rfl ?_
    refine g_cond rfl (fun hc2 => ?_) (fun hc2 => ?_)
    · replace hm1 := cond_t hc2 hm1
      refine g_seq ?_
      refine g_region ?_
      refine go_p rfl rfl rfl (o_fieldAddr fi_40_5 rfl rfl rfl) ?_
      refine go_p rfl rfl rfl (o_load Try.isAgg9 rfl rfl) ?_
      refine go_p rfl rfl rfl (o_move rfl) ?_
      refine go_p rfl rfl rfl (o_cmps rfl rfl rfl) ?_
      refine go_p rfl rfl rfl (o_assign rfl) ?_
      refine go_nil ?_
      refine g_ret ?_
      exact retK (ret_one' rfl (ret_tmp rfl) (perm_drop _)) (congrArg (fun (p : Bool) => (.bool p : D)) (some_eq hm1))
    · replace hm1 := cond_f hc2 hm1
      refine g_seq ?_
      refine g_region ?_
      refine go_p rfl rfl rfl (o_cmp rfl rfl rfl) ?_
      refine go_p rfl rfl rfl (o_assign rfl) ?_
      refine go_nil ?_
      refine g_cond rfl (fun hc3 => ?_) (fun hc3 => ?_)
      · replace hm1 := cond_t hc3 hm1
        refine g_seq ?_
        refine g_region ?_
        refine go_p rfl rfl rfl (o_fieldAddr fi_40_5 rfl rfl rfl) ?_
        refine go_p rfl rfl rfl (o_load Try.isAgg9 rfl rfl) ?_
        refine go_p rfl rfl rfl (o_move rfl) ?_
        refine go_p rfl rfl rfl (o_cmps rfl rfl rfl) ?_
        refine go_p rfl rfl rfl (o_move rfl) ?_
        apply go_and [] 3 25 (t := 22) trivial rfl
        · intro hg_1 hk1
          refine go_wantp rfl rfl rfl hg_1 rfl rfl (o_move rfl) ?_
          refine go_wantp rfl rfl rfl hg_1 rfl rfl (o_cmp rfl rfl rfl) ?_
          refine go_p rfl rfl rfl (o_pickT rfl hg_1 rfl) ?_
          exact go_meet hk1 (rfl) trivial
        · intro hg_1 hk1
          refine go_skip rfl rfl rfl hg_1 rfl rfl ?_
          refine go_skip rfl rfl rfl hg_1 rfl rfl ?_
          refine go_p rfl rfl rfl (o_pickF rfl hg_1 rfl) ?_
          exact go_meet hk1 (rfl) trivial
        refine go_p rfl rfl rfl (o_assign rfl) ?_
        refine go_nil ?_
        refine g_ret ?_
        exact retK (ret_one' rfl (ret_tmp rfl) (perm_drop _)) (congrArg (fun (p : Bool) => (.bool p : D)) (some_eq hm1))
      · replace hm1 := cond_f hc3 hm1
        refine g_seq ?_
        refine g_region ?_
        refine go_p rfl rfl rfl (o_cmp rfl rfl rfl) ?_
        refine go_p rfl rfl rfl (o_assign rfl) ?_
        refine go_nil ?_
        refine g_cond rfl (fun hc4 => ?_) (fun hc4 => ?_)
        · replace hm1 := cond_t hc4 hm1
          refine g_seq ?_
          refine g_region ?_
          refine go_p rfl rfl rfl (o_move rfl) ?_
          refine go_p rfl rfl rfl (o_cmp rfl rfl rfl) ?_
          refine go_p rfl rfl rfl (o_move rfl) ?_
          obtain ⟨p1, hp_2, hm1⟩ := bind_some hm1
          refine go_two [] 10 40 p1 (t := 30) trivial rfl (fun hg_2 hk2 => ?_) (fun hg_2 hk2 => ?_) ?_
          · replace hp_2 := cond_t hg_2 hp_2
            refine go_wantp rfl rfl rfl hg_2 rfl rfl (o_fieldAddr fi_40_7 rfl rfl rfl) ?_
            refine go_wantp rfl rfl rfl hg_2 rfl rfl (o_load Try.isAgg38 rfl rfl) ?_
            refine go_wantp rfl rfl rfl hg_2 rfl rfl (o_move rfl) ?_
            obtain ⟨hg1, hp_2⟩ := grd_some hp_2
            refine go_wantp rfl rfl rfl hg_2 rfl rfl (o_sub rfl rfl (i64_id hg1)) ?_
            obtain ⟨x3, hx2, hp_2⟩ := bind_some hp_2
            refine go_wantp rfl rfl rfl hg_2 rfl rfl (o_indexAddr_m Try.runUnderlying38 Try.sizeOf102 rfl rfl hx2) ?_
            refine go_wantp rfl rfl rfl hg_2 rfl rfl (o_fieldAddr fi_102_1 rfl rfl rfl) ?_
            refine go_wantp rfl rfl rfl hg_2 rfl rfl (o_load Try.isAgg9 rfl rfl) ?_
            refine go_wantp rfl rfl rfl hg_2 rfl rfl (o_move rfl) ?_
            refine go_wantp rfl rfl rfl hg_2 rfl rfl (o_cmps rfl rfl rfl) ?_
            refine go_p rfl rfl rfl (o_pickT rfl hg_2 rfl) ?_
            exact go_meet hk2 (congrArg (fun b => some (D.bool b)) (some_eq hp_2)) trivial
          · replace hp_2 := cond_f hg_2 hp_2
            refine go_skip rfl rfl rfl hg_2 rfl rfl ?_
            refine go_skip rfl rfl rfl hg_2 rfl rfl ?_
            refine go_skip rfl rfl rfl hg_2 rfl rfl ?_
            refine go_skip rfl rfl rfl hg_2 rfl rfl ?_
            refine go_skip rfl rfl rfl hg_2 rfl rfl ?_
            refine go_skip rfl rfl rfl hg_2 rfl rfl ?_
            refine go_skip rfl rfl rfl hg_2 rfl rfl ?_
            refine go_skip rfl rfl rfl hg_2 rfl rfl ?_
            refine go_skip rfl rfl rfl hg_2 rfl rfl ?_
            refine go_p rfl rfl rfl (o_pickF rfl hg_2 rfl) ?_
            exact go_meet hk2 (congrArg (fun b => some (D.bool b)) (some_eq hp_2)) trivial
          refine go_p rfl rfl rfl (o_assign rfl) ?_
          refine go_nil ?_
          refine g_ret ?_
          exact retK (ret_one' rfl (ret_tmp rfl) (perm_drop _)) (congrArg (fun (p : Bool) => (.bool p : D)) (some_eq hm1))
        · replace hm1 := cond_f hc4 hm1
          refine g_skip ?_
          refine g_seq ?_
          refine g_region ?_
          refine go_p rfl rfl rfl (o_assign rfl) ?_
          refine go_nil ?_
          refine g_ret ?_
          exact retK (ret_one' rfl (ret_tmp rfl) (perm_drop _)) (congrArg (fun (p : Bool) => (.bool p : D)) (some_eq hm1))
def m_subst_put_1_l1 (self : Int → Option ApiExpr) (c1 : ApiExpr) (c2 : (List UInt8)) (x1 : ApiNode) (x2 : (List Int)) : Nat → (Int × (List ApiExpr)) → Option (List ApiExpr)
  | 0, _ => none
  | n + 1, (x3, l2) =>
    bif (decide (x3 < (x2.length : Int))) then
      (idx x2 x3).bind fun x4 =>
      (m_subst_hides (⟨x1.kind, x1.a, x1.b, x1.c, x1.n_, x1.name, x1.s, x1.l, x1.pos⟩ : ApiNode) x3 c2).bind fun x5 =>
      bif x5 then
        (m_subst_sub c1 x4).bind fun x6 =>
        grd ((l2.length + ([x6] : List _).length) * 24 ≤ 140737488355328) <|
        grd (InR (x3 + 1)) <|
        m_subst_put_1_l1 self c1 c2 x1 x2 n ((x3 + 1), (l2 ++ [x6]))
      else
        (self x4).bind fun x7 =>
        grd ((l2.length + ([x7] : List _).length) * 24 ≤ 140737488355328) <|
        grd (InR (x3 + 1)) <|
        m_subst_put_1_l1 self c1 c2 x1 x2 n ((x3 + 1), (l2 ++ [x7]))
    else
      some l2
def m_subst_put_1F (self : Int → Option ApiExpr) (i1 : Int) (c1 : ApiExpr) (c2 : (List UInt8)) (c3 : ApiExpr) : Option ApiExpr :=
  (idx c1.l i1).bind fun x1 =>
  bif ((decide (x1.kind = 4)) && (decide ((x1.name : List UInt8) = c2))) then
    some (⟨c3.l⟩ : ApiExpr)
  else
    (m_tree_Kids (⟨x1.kind, x1.a, x1.b, x1.c, x1.n_, x1.name, x1.s, x1.l, x1.pos⟩ : ApiNode)).bind fun x2 =>
    (m_subst_put_1_l1 self c1 c2 x1 x2 FU (0, []) : Option (List ApiExpr)).bind fun l1 =>
    (m_tree_Join (⟨x1.kind, x1.a, x1.b, x1.c, x1.n_, x1.name, x1.s, x1.l, x1.pos⟩ : ApiNode) l1).bind fun x8 =>
    some (⟨x8.l⟩ : ApiExpr)
def m_subst_put_1 (c1 : ApiExpr) (c2 : (List UInt8)) (c3 : ApiExpr) : Nat → Int → Option ApiExpr
  | 0 => fun _ => none
  | n + 1 => fun i1 => m_subst_put_1F (m_subst_put_1 c1 c2 c3 n) i1 c1 c2 c3
theorem wF_subst_put_1 {c1 : ApiExpr} {c2 : (List UInt8)} {c3 : ApiExpr} (self : Int → Option ApiExpr) (hself : ∀ {i1 : Int} {r_1 : ApiExpr} {b_q4 : Nat}, self i1 = some r_1 → Go.V.Fn Try.prog 127 [.i64 i1, .ref (ApiExpr.d c1), .ref (.str c2), .ref (ApiExpr.d c3), .v (.pointer (some ⟨b_q4, 0, none⟩))] [box b_q4 137 [.clo (.func 127) [] [.ref (ApiExpr.d c1), .ref (.str c2), .ref (ApiExpr.d c3), .v (.pointer (some ⟨b_q4, 0, none⟩))]]] (fun d ms' => d = ApiExpr.d r_1 ∧ ms' = [box b_q4 137 [.clo (.func 127) [] [.ref (ApiExpr.d c1), .ref (.str c2), .ref (ApiExpr.d c3), .v (.pointer (some ⟨b_q4, 0, none⟩))]]])) {i1 : Int} {r_1 : ApiExpr} {b_q4 : Nat} (hm : m_subst_put_1F self i1 c1 c2 c3 = some r_1) : Go.V.Fn Try.prog 127 [.i64 i1, .ref (ApiExpr.d c1), .ref (.str c2), .ref (ApiExpr.d c3), .v (.pointer (some ⟨b_q4, 0, none⟩))] [box b_q4 137 [.clo (.func 127) [] [.ref (ApiExpr.d c1), .ref (.str c2), .ref (ApiExpr.d c3), .v (.pointer (some ⟨b_q4, 0, none⟩))]]] (fun d ms' => d = ApiExpr.d r_1 ∧ ms' = [box b_q4 137 [.clo (.func 127) [] [.ref (ApiExpr.d c1), .ref (.str c2), .ref (ApiExpr.d c3), .v (.pointer (some ⟨b_q4, 0, none⟩))]]]) := by
  unfold m_subst_put_1F at hm
  refine fn_intro Try.func127 rfl Try.ntmps127 rfl fun H0 fr w0 => ?_
  refine g_seq ?_
  refine g_region ?_
  refine go_op rfl rfl rfl (o_alloc_own Try.zeroValue37 (cs := [.list 9 ApiNode.d []]) rfl) ?_
  rintro _ _ ⟨b1, rfl, rfl⟩
  refine go_nil ?_
  refine g_seq ?_
  refine g_region ?_
  refine go_p rfl rfl rfl (o_fieldAddr fi_37_0 rfl rfl rfl) ?_
  refine go_p rfl rfl rfl (o_load Try.isAgg35 rfl rfl) ?_
  refine go_p rfl rfl rfl (o_move rfl) ?_
  obtain ⟨x1, hx1, hm⟩ := bind_some hm
  refine go_p rfl rfl rfl (o_indexAddr_m Try.runUnderlying35 Try.sizeOf40 rfl rfl hx1) ?_
  refine go_p rfl rfl rfl (o_load_agg Try.isAgg40 Try.sizeOf40 rfl rfl) ?_
  refine go_op rfl rfl rfl (o_alloc_own Try.zeroValue40 (cs := [.i64 0, .i64 0, .i64 0, .i64 0, .i64 0, .str ([] : List UInt8), .str ([] : List UInt8), .list 3 ApiField.d [], .i64 0]) rfl) ?_
  rintro _ _ ⟨b2, rfl, rfl⟩
  refine go_u rfl rfl (o_store_box 0 Try.sizeOf40 rfl rfl rfl rfl rfl rfl rfl rfl (Nat.le_of_ble_eq_true rfl)) ?_
  rintro _ _ rfl
  refine go_ms (ms' := [box b2 40 [_, _, _, _, _, _, _, _, _], box b1 37 [_], box b_q4 137 [_]]) rfl ?_
  refine go_nil ?_
  refine g_seq ?_
  refine g_seq ?_
  refine g_region ?_
  refine go_p rfl rfl rfl (o_fieldAddr_box fi_40_0 rfl) ?_
  refine go_p rfl rfl rfl (o_load_box 0 Try.isAgg3 rfl rfl rfl rfl) ?_
  refine go_p rfl rfl rfl (o_cmp rfl rfl rfl) ?_
  refine go_p rfl rfl rfl (o_move rfl) ?_
  apply go_and [(1, _), (2, _), (3, _), (4, _), (6, _), (7, _)] 5 24 (t := 19) ⟨rfl, rfl, rfl, rfl, rfl, rfl, trivial⟩ rfl
  · intro hg_1 hk1
    refine go_wantp rfl rfl rfl hg_1 rfl rfl (o_fieldAddr_box fi_40_5 rfl) ?_
    refine go_wantp rfl rfl rfl hg_1 rfl rfl (o_load_box 0 Try.isAgg9 rfl rfl rfl rfl) ?_
    refine go_wantp rfl rfl rfl hg_1 rfl rfl (o_load Try.isAgg9 rfl rfl) ?_
    refine go_wantp rfl rfl rfl hg_1 rfl rfl (o_cmps rfl rfl rfl) ?_
    refine go_p rfl rfl rfl (o_pickT rfl hg_1 rfl) ?_
    exact go_meet hk1 (rfl) ⟨rfl, rfl, rfl, rfl, rfl, rfl, trivial⟩
  · intro hg_1 hk1
    refine go_skip rfl rfl rfl hg_1 rfl rfl ?_
    refine go_skip rfl rfl rfl hg_1 rfl rfl ?_
    refine go_skip rfl rfl rfl hg_1 rfl rfl ?_
    refine go_skip rfl rfl rfl hg_1 rfl rfl ?_
    refine go_p rfl rfl rfl (o_pickF rfl hg_1 rfl) ?_
    exact go_meet hk1 (rfl) ⟨rfl, rfl, rfl, rfl, rfl, rfl, trivial⟩
  refine go_nil ?_
  refine g_cond rfl (fun hc1 => ?_) (fun hc1 => ?_)
  · replace hm := cond_t hc1 hm
    refine g_seq ?_
    refine g_region ?_
    refine go_p rfl rfl rfl (o_load_agg Try.isAgg37 Try.sizeOf37 rfl rfl) ?_
    refine go_u rfl rfl (o_store_box 1 Try.sizeOf37 rfl rfl rfl rfl rfl rfl rfl rfl (Nat.le_of_ble_eq_true rfl)) ?_
    rintro _ _ rfl
    refine go_ms (ms' := [box b2 40 [_, _, _, _, _, _, _, _, _], box b1 37 [_], box b_q4 137 [_]]) rfl ?_
    refine go_nil ?_
    refine g_ret ?_
    obtain rfl := some_eq hm
    exact retK (ret_one' rfl (ret_cell 1 rfl rfl rfl Try.isAgg37 Try.sizeOf37 rfl) (permA 2 rfl permN)) ⟨rfl, rfl⟩
  · replace hm := cond_f hc1 hm
    refine g_skip ?_
    refine g_seq ?_
    refine g_region ?_
    refine go_p rfl rfl rfl (o_assign rfl) ?_
    refine go_conv (refines_newrow (T := 37) (sz := 1) (f := ApiExpr.d)) ?_
    refine go_nil ?_
    refine g_seq ?_
    refine g_seq ?_
    refine g_region ?_
    refine go_p rfl rfl rfl (o_load_box_agg 1 Try.isAgg40 Try.sizeOf40 rfl rfl rfl rfl (Nat.le_of_ble_eq_true rfl)) ?_
    obtain ⟨x2, hx2, hm⟩ := bind_some hm
    refine go_p rfl rfl rfl (o_call0 Try.call31 rfl (w_tree_Kids hx2)) ?_
    refine go_p rfl rfl rfl (o_len Try.runUnderlying46 rfl) ?_
    refine go_p rfl rfl rfl (o_move rfl) ?_
    refine go_nil ?_
    obtain ⟨o_1, hj1, hm1⟩ := bind_some hm
    refine g_cut_m [(6, _), (7, _)] [(1, _), (2, _), (3, _)] (fun (st : (List ApiExpr)) (hid : (Option Addr × Nat)) => match st, hid with | l1, (a_r1, cap_r1) => [(8, .v (.slice a_r1 l1.length cap_r1))]) (fun F (st : (List ApiExpr)) (hid : (Option Addr × Nat)) => match st, hid with | l1, (a_r1, cap_r1) => [row a_r1 cap_r1 37 1 ApiExpr.d l1, (nthF F 0), (nthF F 1), (nthF F 2)]) (fun st => st = o_1) ⟨rfl, rfl, trivial⟩ ⟨rfl, rfl, rfl, trivial⟩ ?_ ?_
    · skip
      refine g_block ?_
      refine g_loop_m [(1, _), (2, _), (4, _), (6, _), (7, _), (27, _), (28, _)] [(1, _), (2, _), (3, _)] (fun (st : (Int × (List ApiExpr))) (hid : (Option Addr × Nat)) => match st, hid with | (x3, l2), (a_r1, cap_r1) => [(8, .v (.slice a_r1 l2.length cap_r1)), (29, .i64 x3)]) (fun F (st : (Int × (List ApiExpr))) (hid : (Option Addr × Nat)) => match st, hid with | (x3, l2), (a_r1, cap_r1) => [row a_r1 cap_r1 37 1 ApiExpr.d l2, (nthF F 0), (nthF F 1), (nthF F 2)]) (_, _) hj1 (fun _ => rfl) ⟨rfl, rfl, rfl, rfl, rfl, rfl, rfl, trivial⟩ ⟨rfl, rfl, rfl, trivial⟩ ⟨rfl, rfl, trivial⟩ rfl ?_
      rintro n ⟨x3, l2⟩ ⟨a_r1, cap_r1⟩ hj1
      rw [m_subst_put_1_l1] at hj1
      refine g_norm (L' := [(8, .v (.slice a_r1 l2.length cap_r1)), (29, .i64 x3), (1, _), (2, _), (4, _), (6, _), (7, _), (27, _), (28, _)]) (ms' := [row a_r1 cap_r1 37 1 ApiExpr.d l2, _, _, _]) rfl rfl ?_
      refine g_seq ?_
      refine g_region ?_
      refine go_p rfl rfl rfl (o_cmp rfl rfl rfl) ?_
      refine go_nil ?_
      refine g_seq ?_
      refine g_cond rfl (fun hc2 => ?_) (fun hc2 => ?_)
      · replace hj1 := cond_t hc2 hj1
        refine g_skip ?_
        refine g_seq ?_
        refine g_block ?_
        refine g_seq ?_
        refine g_region ?_
        refine go_p rfl rfl rfl (o_move rfl) ?_
        obtain ⟨x4, hx3, hj1⟩ := bind_some hj1
        refine go_p rfl rfl rfl (o_indexAddr_m Try.runUnderlying46 Try.sizeOf3 rfl rfl hx3) ?_
        refine go_p rfl rfl rfl (o_load Try.isAgg3 rfl rfl) ?_
        refine go_p rfl rfl rfl (o_assign rfl) ?_
        refine go_p rfl rfl rfl (o_assign rfl) ?_
        refine go_nil ?_
        refine g_seq ?_
        refine g_seq ?_
        refine g_region ?_
        refine go_p rfl rfl rfl (o_load_box_agg 1 Try.isAgg40 Try.sizeOf40 rfl rfl rfl rfl (Nat.le_of_ble_eq_true rfl)) ?_
        refine go_p rfl rfl rfl (o_move rfl) ?_
        refine go_p rfl rfl rfl (o_load Try.isAgg9 rfl rfl) ?_
        obtain ⟨x5, hx4, hj1⟩ := bind_some hj1
        refine go_p rfl rfl rfl (o_call0 Try.call128 rfl (w_subst_hides hx4)) ?_
        refine go_nil ?_
        refine g_cond rfl (fun hc3 => ?_) (fun hc3 => ?_)
        · replace hj1 := cond_t hc3 hj1
          refine g_seq ?_
          refine g_region ?_
          refine go_p rfl rfl rfl (o_move rfl) ?_
          refine go_p rfl rfl rfl (o_load_agg Try.isAgg37 Try.sizeOf37 rfl rfl) ?_
          refine go_p rfl rfl rfl (o_move rfl) ?_
          obtain ⟨x6, hx5, hj1⟩ := bind_some hj1
          refine go_p rfl rfl rfl (o_call0 Try.call99 rfl (w_subst_sub hx5)) ?_
          refine go_p rfl rfl rfl (o_buildSlice (xs := [_]) (f := ApiExpr.d) (l := [_]) Try.runUnderlying49 Try.sizeOf37 Try.zeroValue37 rfl rfl rfl (fun _ => ⟨rfl, rfl, rfl⟩) rfl) ?_
          obtain ⟨hg6, hj1⟩ := grd_some hj1
          refine go_op rfl rfl rfl (o_append (a := _) 0 Try.underlying49 Try.type37 rfl rfl rfl rfl rfl rfl rfl (fun _ => rfl) (fun _ => rfl) hg6 (app_len hg6 rfl)) ?_
          rintro _ _ ⟨a_r1, cap_r1, rfl, rfl⟩
          refine go_ms (ms' := [_, box b2 40 [_, _, _, _, _, _, _, _, _], box b1 37 [_], box b_q4 137 [_]]) rfl ?_
          refine go_p rfl rfl rfl (o_assign rfl) ?_
          refine go_nil ?_
          refine g_exit ?_
          refine g_region ?_
          obtain ⟨hg7, hj1⟩ := grd_some hj1
          refine go_p rfl rfl rfl (o_add rfl rfl (i64_id hg7)) ?_
          refine go_p rfl rfl rfl (o_move rfl) ?_
          refine go_nil ?_
          exact ⟨_, (_, _), hj1, ⟨rfl, rfl, trivial⟩, ⟨rfl, rfl, rfl, rfl, rfl, rfl, rfl, trivial⟩, [], rfl⟩
        · replace hj1 := cond_f hc3 hj1
          refine g_skip ?_
          refine g_region ?_
          refine go_p rfl rfl rfl (o_move rfl) ?_
          refine go_p rfl rfl rfl (o_load_box 3 Try.isAgg137 rfl rfl rfl rfl) ?_
          refine go_p rfl rfl rfl (o_move rfl) ?_
          obtain ⟨x7, hx8, hj1⟩ := bind_some hj1
          refine go_op rfl rfl rfl (o_callv_own [3] rfl rfl rfl (getL_c rfl getL_n) (fv_clo Try.call127 (hself hx8)) (by rintro _ _ ⟨rfl, rfl⟩; rfl)) ?_
          rintro _ _ ⟨_, ⟨rfl, rfl⟩, rfl⟩
          refine go_ms (ms' := [_, box b2 40 [_, _, _, _, _, _, _, _, _], box b1 37 [_], box b_q4 137 [_]]) rfl ?_
          refine go_p rfl rfl rfl (o_buildSlice (xs := [_]) (f := ApiExpr.d) (l := [_]) Try.runUnderlying49 Try.sizeOf37 Try.zeroValue37 rfl rfl rfl (fun _ => ⟨rfl, rfl, rfl⟩) rfl) ?_
          obtain ⟨hg9, hj1⟩ := grd_some hj1
          refine go_op rfl rfl rfl (o_append (a := _) 0 Try.underlying49 Try.type37 rfl rfl rfl rfl rfl rfl rfl (fun _ => rfl) (fun _ => rfl) hg9 (app_len hg9 rfl)) ?_
          rintro _ _ ⟨a_r1, cap_r1, rfl, rfl⟩
          refine go_ms (ms' := [_, box b2 40 [_, _, _, _, _, _, _, _, _], box b1 37 [_], box b_q4 137 [_]]) rfl ?_
          refine go_p rfl rfl rfl (o_assign rfl) ?_
          refine go_nil ?_
          refine g_region ?_
          obtain ⟨hg10, hj1⟩ := grd_some hj1
          refine go_p rfl rfl rfl (o_add rfl rfl (i64_id hg10)) ?_
          refine go_p rfl rfl rfl (o_move rfl) ?_
          refine go_nil ?_
          exact ⟨_, (_, _), hj1, ⟨rfl, rfl, trivial⟩, ⟨rfl, rfl, rfl, rfl, rfl, rfl, rfl, trivial⟩, [], rfl⟩
      · replace hj1 := cond_f hc2 hj1
        refine g_exit ?_
        exact ⟨_, (_, _), some_eq hj1, ⟨rfl, trivial⟩, ⟨rfl, rfl, trivial⟩, [], rfl⟩
    · rintro l1 ⟨a_r1, cap_r1⟩ hst
      subst hst
      refine k_norm (L' := [(8, .v (.slice a_r1 l1.length cap_r1)), (6, _), (7, _)]) (ms' := [row a_r1 cap_r1 37 1 ApiExpr.d l1, _, _, _]) rfl rfl ?_
      refine g_seq ?_
      refine g_region ?_
      refine go_p rfl rfl rfl (o_load_box_agg 1 Try.isAgg40 Try.sizeOf40 rfl rfl rfl rfl (Nat.le_of_ble_eq_true rfl)) ?_
      refine go_p rfl rfl rfl (o_move rfl) ?_
      obtain ⟨x8, hx11, hm1⟩ := bind_some hm1
      refine go_p rfl rfl rfl (.view (peekE (i := 52) 0 rfl rfl rfl) (o_call0 Try.call35 rfl (w_tree_Join hx11))) ?_
      refine go_u rfl rfl (o_store_box 2 Try.sizeOf37 rfl rfl rfl rfl rfl rfl rfl rfl (Nat.le_of_ble_eq_true rfl)) ?_
      rintro _ _ rfl
      refine go_ms (ms' := [_, box b2 40 [_, _, _, _, _, _, _, _, _], box b1 37 [_], box b_q4 137 [_]]) rfl ?_
      refine go_nil ?_
      refine g_ret ?_
      obtain rfl := some_eq hm1
      exact retK (ret_one' rfl (ret_cell 2 rfl rfl rfl Try.isAgg37 Try.sizeOf37 rfl) (permA 3 rfl permN)) ⟨rfl, rfl⟩
theorem wn_subst_put_1 {c1 : ApiExpr} {c2 : (List UInt8)} {c3 : ApiExpr} : ∀ (n : Nat) {i1 : Int} {r_1 : ApiExpr} {b_q4 : Nat}, m_subst_put_1 c1 c2 c3 n i1 = some r_1 → Go.V.Fn Try.prog 127 [.i64 i1, .ref (ApiExpr.d c1), .ref (.str c2), .ref (ApiExpr.d c3), .v (.pointer (some ⟨b_q4, 0, none⟩))] [box b_q4 137 [.clo (.func 127) [] [.ref (ApiExpr.d c1), .ref (.str c2), .ref (ApiExpr.d c3), .v (.pointer (some ⟨b_q4, 0, none⟩))]]] (fun d ms' => d = ApiExpr.d r_1 ∧ ms' = [box b_q4 137 [.clo (.func 127) [] [.ref (ApiExpr.d c1), .ref (.str c2), .ref (ApiExpr.d c3), .v (.pointer (some ⟨b_q4, 0, none⟩))]]])
  | 0 => by intros; rename_i h; cases h
  | n + 1 => by intros; rename_i h; exact wF_subst_put_1 (m_subst_put_1 c1 c2 c3 n) (fun h => wn_subst_put_1 n h) h
theorem w_subst_put_1 {c1 : ApiExpr} {c2 : (List UInt8)} {c3 : ApiExpr} {i1 : Int} {r_1 : ApiExpr} {b_q4 : Nat} (hm : m_subst_put_1 c1 c2 c3 FU i1 = some r_1) : Go.V.Fn Try.prog 127 [.i64 i1, .ref (ApiExpr.d c1), .ref (.str c2), .ref (ApiExpr.d c3), .v (.pointer (some ⟨b_q4, 0, none⟩))] [box b_q4 137 [.clo (.func 127) [] [.ref (ApiExpr.d c1), .ref (.str c2), .ref (ApiExpr.d c3), .v (.pointer (some ⟨b_q4, 0, none⟩))]]] (fun d ms' => d = ApiExpr.d r_1 ∧ ms' = [box b_q4 137 [.clo (.func 127) [] [.ref (ApiExpr.d c1), .ref (.str c2), .ref (ApiExpr.d c3), .v (.pointer (some ⟨b_q4, 0, none⟩))]]]) := wn_subst_put_1 FU hm
def m_subst_put (e1 : ApiExpr) (x1 : (List UInt8)) (v1 : ApiExpr) : Option ApiExpr :=
  grd (InR ((e1.l.length : Int) - 1)) <|
  (m_subst_put_1 e1 x1 v1 FU ((e1.l.length : Int) - 1)).bind fun x2 =>
  some (⟨x2.l⟩ : ApiExpr)
theorem w_subst_put {e1 : ApiExpr} {x1 : (List UInt8)} {v1 : ApiExpr} {r_1 : ApiExpr} (hm : m_subst_put e1 x1 v1 = some r_1) : Fn0 Try.prog 93 [ApiExpr.d e1, .str x1, ApiExpr.d v1] (ApiExpr.d r_1) := by
  unfold m_subst_put at hm
  refine fn_intro Try.func93 rfl Try.ntmps93 rfl fun H0 fr w0 => ?_
  refine g_seq ?_
  refine g_region ?_
  refine go_p rfl rfl rfl (o_box rfl rfl) ?_
  refine go_p rfl rfl rfl (o_box rfl rfl) ?_
  refine go_p rfl rfl rfl (o_box rfl rfl) ?_
  refine go_op rfl rfl rfl (o_alloc_own Try.zeroValue37 (cs := [.list 9 ApiNode.d []]) rfl) ?_
  rintro _ _ ⟨b1, rfl, rfl⟩
  refine go_nil ?_
  refine g_seq ?_
  refine g_region ?_
  refine go_op rfl rfl rfl (o_alloc_own Try.zeroValue137 (cs := [.v .nilFunc]) rfl) ?_
  rintro _ _ ⟨b2, rfl, rfl⟩
  refine go_nil ?_
  refine g_seq ?_
  refine g_region ?_
  refine go_p rfl rfl rfl (o_makeFunc rfl rfl) ?_
  refine go_u rfl rfl (o_store_box 0 Try.sizeOf137 rfl rfl rfl rfl rfl rfl rfl rfl (Nat.le_of_ble_eq_true rfl)) ?_
  rintro _ _ rfl
  refine go_ms (ms' := [box b2 137 [_], box b1 37 [_]]) rfl ?_
  refine go_nil ?_
  refine g_seq ?_
  refine g_region ?_
  refine go_p rfl rfl rfl (o_load_box 0 Try.isAgg137 rfl rfl rfl rfl) ?_
  refine go_p rfl rfl rfl (o_fieldAddr fi_37_0 rfl rfl rfl) ?_
  refine go_p rfl rfl rfl (o_load Try.isAgg35 rfl rfl) ?_
  refine go_p rfl rfl rfl (o_len Try.runUnderlying35 rfl) ?_
  obtain ⟨hg1, hm⟩ := grd_some hm
  refine go_p rfl rfl rfl (o_sub rfl rfl (i64_id hg1)) ?_
  obtain ⟨x2, hx2, hm⟩ := bind_some hm
  refine go_op rfl rfl rfl (o_callv_own [0] rfl rfl rfl (getL_c rfl getL_n) (fv_clo Try.call127 (w_subst_put_1 hx2)) (by rintro _ _ ⟨rfl, rfl⟩; rfl)) ?_
  rintro _ _ ⟨_, ⟨rfl, rfl⟩, rfl⟩
  refine go_ms (ms' := [box b2 137 [_], box b1 37 [_]]) rfl ?_
  refine go_u rfl rfl (o_store_box 1 Try.sizeOf37 rfl rfl rfl rfl rfl rfl rfl rfl (Nat.le_of_ble_eq_true rfl)) ?_
  rintro _ _ rfl
  refine go_ms (ms' := [box b2 137 [_], box b1 37 [_]]) rfl ?_
  refine go_nil ?_
  refine g_ret ?_
  exact retK (ret_one' rfl (ret_cell 1 rfl rfl rfl Try.isAgg37 Try.sizeOf37 rfl) (perm_drop _)) (congrArg (fun (p : ApiExpr) => (ApiExpr.d p : D)) (some_eq hm))
def m_subst_Put (e1 : ApiExpr) (x1 : (List UInt8)) (v1 : ApiExpr) : Option (ApiExpr × Int) :=
  (m_tree_May e1).bind fun x2 =>
  bif (!decide (x2 = 0)) then
    some ((⟨([] : List ApiNode)⟩ : ApiExpr), x2)
  else
    (m_tree_Norm v1).bind fun (x3, x4) =>
    bif (!decide (x4 = 0)) then
      some ((⟨([] : List ApiNode)⟩ : ApiExpr), x4)
    else
      (m_name_Name x1).bind fun x5 =>
      bif (!x5) then
        some ((⟨([] : List ApiNode)⟩ : ApiExpr), 2)
      else
        (m_scope_Closed (⟨x3.l⟩ : ApiExpr)).bind fun (x6, x7) =>
        bif (!decide (x7 = 0)) then
          some ((⟨([] : List ApiNode)⟩ : ApiExpr), x7)
        else
          (m_subst_put e1 x1 (⟨x3.l⟩ : ApiExpr)).bind fun x8 =>
          (m_subst_made x8).bind fun (x9, x10) =>
          some ((⟨x9.l⟩ : ApiExpr), x10)
theorem w_subst_Put {e1 : ApiExpr} {x1 : (List UInt8)} {v1 : ApiExpr} {r_1 : ApiExpr} {r_2 : Int} (hm : m_subst_Put e1 x1 v1 = some (r_1, r_2)) : Fn0 Try.prog 56 [ApiExpr.d e1, .str x1, ApiExpr.d v1] (.tup [ApiExpr.d r_1, .i64 r_2]) := by
  unfold m_subst_Put at hm
  refine fn_intro Try.func56 rfl Try.ntmps56 rfl fun H0 fr w0 => ?_
  refine g_seq ?_
  refine g_region ?_
  refine go_p rfl rfl rfl (o_box rfl rfl) ?_
  refine go_p rfl rfl rfl (o_box rfl rfl) ?_
  refine go_op rfl rfl rfl (o_alloc_own Try.zeroValue37 (cs := [.list 9 ApiNode.d []]) rfl) ?_
  rintro _ _ ⟨b1, rfl, rfl⟩
  refine go_p rfl rfl rfl (o_assign rfl) ?_
  refine go_nil ?_
  refine g_seq ?_
  refine g_seq ?_
  refine g_region ?_
  refine go_p rfl rfl rfl (o_load_agg Try.isAgg37 Try.sizeOf37 rfl rfl) ?_
  obtain ⟨x2, hx1, hm⟩ := bind_some hm
  refine go_p rfl rfl rfl (o_call0 Try.call28 rfl (w_tree_May hx1)) ?_
  refine go_p rfl rfl rfl (o_assign rfl) ?_
  refine go_nil ?_
  refine g_seq ?_
  refine g_region ?_
  refine go_p rfl rfl rfl (o_move rfl) ?_
  refine go_p rfl rfl rfl (o_cmp rfl rfl rfl) ?_
  refine go_nil ?_
  refine g_cond rfl (fun hc1 => ?_) (fun hc1 => ?_)
  · replace hm := cond_t hc1 hm
    refine g_seq ?_
    refine g_region ?_
    refine go_p rfl rfl rfl (o_build (zs := [.list 9 ApiNode.d []]) Try.runUnderlying37 Try.zeroValue37 (pl_37 _ Try.runUnderlying37) rfl rfl rfl rfl) ?_
    refine go_p rfl rfl rfl (o_move rfl) ?_
    refine go_u rfl rfl (o_store_box 0 Try.sizeOf37 rfl rfl rfl rfl rfl rfl rfl rfl (Nat.le_of_ble_eq_true rfl)) ?_
    rintro _ _ rfl
    refine go_ms (ms' := [box b1 37 [_]]) rfl ?_
    refine go_p rfl rfl rfl (o_assign rfl) ?_
    refine go_nil ?_
    refine g_ret ?_
    exact retK (ret_many (ds := [_, _]) rfl (by decide) ⟨ret_cell 0 rfl rfl rfl Try.isAgg37 Try.sizeOf37 rfl, ⟨ret_tmp rfl, rfl⟩⟩ (perm_drop _)) (congrArg (fun (p : (ApiExpr × Int)) => D.tup [ApiExpr.d p.1, .i64 p.2]) (some_eq hm))
  · replace hm := cond_f hc1 hm
    refine g_skip ?_
    refine g_seq ?_
    refine g_region ?_
    refine go_p rfl rfl rfl (o_load_agg Try.isAgg37 Try.sizeOf37 rfl rfl) ?_
    obtain ⟨⟨x3, x4⟩, hx2, hm⟩ := bind_some hm
    refine go_p rfl rfl rfl (o_call0 Try.call37 rfl (w_tree_Norm hx2)) ?_
    refine go_p rfl rfl rfl (o_move rfl) ?_
    refine go_p rfl rfl rfl (o_extract rfl rfl) ?_
    refine go_p rfl rfl rfl (o_extract rfl rfl) ?_
    refine go_op rfl rfl rfl (o_alloc_own Try.zeroValue37 (cs := [.list 9 ApiNode.d []]) rfl) ?_
    rintro _ _ ⟨b2, rfl, rfl⟩
    refine go_u rfl rfl (o_store_box 0 Try.sizeOf37 rfl rfl rfl rfl rfl rfl rfl rfl (Nat.le_of_ble_eq_true rfl)) ?_
    rintro _ _ rfl
    refine go_ms (ms' := [box b2 37 [_], box b1 37 [_]]) rfl ?_
    refine go_p rfl rfl rfl (o_assign rfl) ?_
    refine go_nil ?_
    refine g_seq ?_
    refine g_seq ?_
    refine g_region ?_
    refine go_p rfl rfl rfl (o_move rfl) ?_
    refine go_p rfl rfl rfl (o_cmp rfl rfl rfl) ?_
    refine go_nil ?_
    refine g_cond rfl (fun hc2 => ?_) (fun hc2 => ?_)
    · replace hm := cond_t hc2 hm
      refine g_seq ?_
      refine g_region ?_
      refine go_p rfl rfl rfl (o_build (zs := [.list 9 ApiNode.d []]) Try.runUnderlying37 Try.zeroValue37 (pl_37 _ Try.runUnderlying37) rfl rfl rfl rfl) ?_
      refine go_p rfl rfl rfl (o_move rfl) ?_
      refine go_u rfl rfl (o_store_box 1 Try.sizeOf37 rfl rfl rfl rfl rfl rfl rfl rfl (Nat.le_of_ble_eq_true rfl)) ?_
      rintro _ _ rfl
      refine go_ms (ms' := [box b2 37 [_], box b1 37 [_]]) rfl ?_
      refine go_p rfl rfl rfl (o_assign rfl) ?_
      refine go_nil ?_
      refine g_ret ?_
      exact retK (ret_many (ds := [_, _]) rfl (by decide) ⟨ret_cell 1 rfl rfl rfl Try.isAgg37 Try.sizeOf37 rfl, ⟨ret_tmp rfl, rfl⟩⟩ (perm_drop _)) (congrArg (fun (p : (ApiExpr × Int)) => D.tup [ApiExpr.d p.1, .i64 p.2]) (some_eq hm))
    · replace hm := cond_f hc2 hm
      refine g_skip ?_
      refine g_seq ?_
      refine g_seq ?_
      refine g_region ?_
      refine go_p rfl rfl rfl (o_move rfl) ?_
      obtain ⟨x5, hx3, hm⟩ := bind_some hm
      refine go_p rfl rfl rfl (o_call0 Try.call91 rfl (w_name_Name hx3)) ?_
      refine go_p rfl rfl rfl (o_not rfl) ?_
      refine go_nil ?_
      refine g_cond rfl (fun hc3 => ?_) (fun hc3 => ?_)
      · replace hm := cond_t hc3 hm
        refine g_seq ?_
        refine g_region ?_
        refine go_p rfl rfl rfl (o_build (zs := [.list 9 ApiNode.d []]) Try.runUnderlying37 Try.zeroValue37 (pl_37 _ Try.runUnderlying37) rfl rfl rfl rfl) ?_
        refine go_u rfl rfl (o_store_box 1 Try.sizeOf37 rfl rfl rfl rfl rfl rfl rfl rfl (Nat.le_of_ble_eq_true rfl)) ?_
        rintro _ _ rfl
        refine go_ms (ms' := [box b2 37 [_], box b1 37 [_]]) rfl ?_
        refine go_p rfl rfl rfl (o_assign rfl) ?_
        refine go_nil ?_
        refine g_ret ?_
        exact retK (ret_many (ds := [_, _]) rfl (by decide) ⟨ret_cell 1 rfl rfl rfl Try.isAgg37 Try.sizeOf37 rfl, ⟨ret_tmp rfl, rfl⟩⟩ (perm_drop _)) (congrArg (fun (p : (ApiExpr × Int)) => D.tup [ApiExpr.d p.1, .i64 p.2]) (some_eq hm))
      · replace hm := cond_f hc3 hm
        refine g_skip ?_
        refine g_seq ?_
        refine g_seq ?_
        refine g_region ?_
        refine go_p rfl rfl rfl (o_load_box_agg 0 Try.isAgg37 Try.sizeOf37 rfl rfl rfl rfl (Nat.le_of_ble_eq_true rfl)) ?_
        obtain ⟨⟨x6, x7⟩, hx4, hm⟩ := bind_some hm
        refine go_p rfl rfl rfl (o_call0 Try.call46 rfl (w_scope_Closed hx4)) ?_
        refine go_p rfl rfl rfl (o_move rfl) ?_
        refine go_p rfl rfl rfl (o_extract rfl rfl) ?_
        refine go_p rfl rfl rfl (o_extract rfl rfl) ?_
        refine go_p rfl rfl rfl (o_assign rfl) ?_
        refine go_p rfl rfl rfl (o_assign rfl) ?_
        refine go_nil ?_
        refine g_seq ?_
        refine g_region ?_
        refine go_p rfl rfl rfl (o_move rfl) ?_
        refine go_p rfl rfl rfl (o_cmp rfl rfl rfl) ?_
        refine go_nil ?_
        refine g_cond rfl (fun hc4 => ?_) (fun hc4 => ?_)
        · replace hm := cond_t hc4 hm
          refine g_seq ?_
          refine g_region ?_
          refine go_p rfl rfl rfl (o_build (zs := [.list 9 ApiNode.d []]) Try.runUnderlying37 Try.zeroValue37 (pl_37 _ Try.runUnderlying37) rfl rfl rfl rfl) ?_
          refine go_p rfl rfl rfl (o_move rfl) ?_
          refine go_u rfl rfl (o_store_box 1 Try.sizeOf37 rfl rfl rfl rfl rfl rfl rfl rfl (Nat.le_of_ble_eq_true rfl)) ?_
          rintro _ _ rfl
          refine go_ms (ms' := [box b2 37 [_], box b1 37 [_]]) rfl ?_
          refine go_p rfl rfl rfl (o_assign rfl) ?_
          refine go_nil ?_
          refine g_ret ?_
          exact retK (ret_many (ds := [_, _]) rfl (by decide) ⟨ret_cell 1 rfl rfl rfl Try.isAgg37 Try.sizeOf37 rfl, ⟨ret_tmp rfl, rfl⟩⟩ (perm_drop _)) (congrArg (fun (p : (ApiExpr × Int)) => D.tup [ApiExpr.d p.1, .i64 p.2]) (some_eq hm))
        · replace hm := cond_f hc4 hm
          refine g_skip ?_
          refine g_seq ?_
          refine g_region ?_
          refine go_p rfl rfl rfl (o_load_agg Try.isAgg37 Try.sizeOf37 rfl rfl) ?_
          refine go_p rfl rfl rfl (o_move rfl) ?_
          refine go_p rfl rfl rfl (o_load_box_agg 0 Try.isAgg37 Try.sizeOf37 rfl rfl rfl rfl (Nat.le_of_ble_eq_true rfl)) ?_
          obtain ⟨x8, hx5, hm⟩ := bind_some hm
          refine go_p rfl rfl rfl (o_call0 Try.call93 rfl (w_subst_put hx5)) ?_
          obtain ⟨⟨x9, x10⟩, hx6, hm⟩ := bind_some hm
          refine go_p rfl rfl rfl (o_call0 Try.call92 rfl (w_subst_made hx6)) ?_
          refine go_p rfl rfl rfl (o_extract rfl rfl) ?_
          refine go_p rfl rfl rfl (o_extract rfl rfl) ?_
          refine go_u rfl rfl (o_store_box 1 Try.sizeOf37 rfl rfl rfl rfl rfl rfl rfl rfl (Nat.le_of_ble_eq_true rfl)) ?_
          rintro _ _ rfl
          refine go_ms (ms' := [box b2 37 [_], box b1 37 [_]]) rfl ?_
          refine go_p rfl rfl rfl (o_assign rfl) ?_
          refine go_nil ?_
          refine g_ret ?_
          exact retK (ret_many (ds := [_, _]) rfl (by decide) ⟨ret_cell 1 rfl rfl rfl Try.isAgg37 Try.sizeOf37 rfl, ⟨ret_tmp rfl, rfl⟩⟩ (perm_drop _)) (congrArg (fun (p : (ApiExpr × Int)) => D.tup [ApiExpr.d p.1, .i64 p.2]) (some_eq hm))
def m_syntagmaref09_put_l1 (self : ApiExpr → Int → (List UInt8) → ApiExpr → Option ApiExpr) (e1 : ApiExpr) (x1 : (List UInt8)) (v1 : ApiExpr) (x2 : ApiNode) (x4 : (List Int)) : Nat → (Int × (List ApiExpr)) → Option (List ApiExpr)
  | 0, _ => none
  | n + 1, (k1, l2) =>
    bif (decide (k1 < (x4.length : Int))) then
      (bif ((decide (x2.kind = 14)) && (decide (0 < k1))) then
        grd (InR (k1 - 1)) <|
        (idx x2.l (k1 - 1)).bind fun x5 =>
        some (decide ((x5.var : List UInt8) = x1))
      else
        some ((decide ((x2.name : List UInt8) = x1)) && (((decide (x2.kind = 5)) || (decide (x2.kind = 8))) || ((decide (x2.kind = 7)) && (decide (k1 = 1))))) : Option Bool).bind fun hidden1 =>
      bif hidden1 then
        (idx x4 k1).bind fun x6 =>
        (m_syntagmaref05_Sub e1 x6).bind fun x7 =>
        grd ((l2.length + ([x7] : List _).length) * 24 ≤ 140737488355328) <|
        grd (InR (k1 + 1)) <|
        m_syntagmaref09_put_l1 self e1 x1 v1 x2 x4 n ((k1 + 1), (l2 ++ [x7]))
      else
        (idx x4 k1).bind fun x8 =>
        (self e1 x8 x1 v1).bind fun x9 =>
        grd ((l2.length + ([x9] : List _).length) * 24 ≤ 140737488355328) <|
        grd (InR (k1 + 1)) <|
        m_syntagmaref09_put_l1 self e1 x1 v1 x2 x4 n ((k1 + 1), (l2 ++ [x9]))
    else
      some l2
def m_syntagmaref09_putF (self : ApiExpr → Int → (List UInt8) → ApiExpr → Option ApiExpr) (e1 : ApiExpr) (i1 : Int) (x1 : (List UInt8)) (v1 : ApiExpr)  : Option ApiExpr :=
  (idx e1.l i1).bind fun x2 =>
  bif ((decide (x2.kind = 4)) && (decide ((x2.name : List UInt8) = x1))) then
    (m_syntagmaref05_Norm v1).bind fun x3 =>
    some (⟨x3.l⟩ : ApiExpr)
  else
    (m_syntagmaref05_Kids (⟨x2.kind, x2.a, x2.b, x2.c, x2.n_, x2.name, x2.s, x2.l, x2.pos⟩ : ApiNode)).bind fun x4 =>
    (m_syntagmaref09_put_l1 self e1 x1 v1 x2 x4 FU (0, []) : Option (List ApiExpr)).bind fun l1 =>
    (m_syntagmaref05_Join (⟨x2.kind, x2.a, x2.b, x2.c, x2.n_, x2.name, x2.s, x2.l, x2.pos⟩ : ApiNode) l1).bind fun x10 =>
    some (⟨x10.l⟩ : ApiExpr)
def m_syntagmaref09_put  : Nat → ApiExpr → Int → (List UInt8) → ApiExpr → Option ApiExpr
  | 0 => fun _ _ _ _ => none
  | n + 1 => fun e1 i1 x1 v1 => m_syntagmaref09_putF (m_syntagmaref09_put n) e1 i1 x1 v1
theorem wF_syntagmaref09_put  (self : ApiExpr → Int → (List UInt8) → ApiExpr → Option ApiExpr) (hself : ∀ {e1 : ApiExpr} {i1 : Int} {x1 : (List UInt8)} {v1 : ApiExpr} {r_1 : ApiExpr}, self e1 i1 x1 v1 = some r_1 → Fn0 Try.prog 129 [ApiExpr.d e1, .i64 i1, .str x1, ApiExpr.d v1] (ApiExpr.d r_1)) {e1 : ApiExpr} {i1 : Int} {x1 : (List UInt8)} {v1 : ApiExpr} {r_1 : ApiExpr} (hm : m_syntagmaref09_putF self e1 i1 x1 v1 = some r_1) : Fn0 Try.prog 129 [ApiExpr.d e1, .i64 i1, .str x1, ApiExpr.d v1] (ApiExpr.d r_1) := by
  unfold m_syntagmaref09_putF at hm
  refine fn_intro Try.func129 rfl Try.ntmps129 rfl fun H0 fr w0 => ?_
  refine g_seq ?_
  refine g_region ?_
  refine go_p rfl rfl rfl (o_box rfl rfl) ?_
  refine go_p rfl rfl rfl (o_box rfl rfl) ?_
  refine go_op rfl rfl rfl (o_alloc_own Try.zeroValue37 (cs := [.list 9 ApiNode.d []]) rfl) ?_
  rintro _ _ ⟨b1, rfl, rfl⟩
  refine go_nil ?_
  refine g_seq ?_
  refine g_region ?_
  refine go_p rfl rfl rfl (o_fieldAddr fi_37_0 rfl rfl rfl) ?_
  refine go_p rfl rfl rfl (o_load Try.isAgg35 rfl rfl) ?_
  refine go_p rfl rfl rfl (o_move rfl) ?_
  obtain ⟨x2, hx1, hm⟩ := bind_some hm
  refine go_p rfl rfl rfl (o_indexAddr_m Try.runUnderlying35 Try.sizeOf40 rfl rfl hx1) ?_
  refine go_p rfl rfl rfl (o_load_agg Try.isAgg40 Try.sizeOf40 rfl rfl) ?_
  refine go_op rfl rfl rfl (o_alloc_own Try.zeroValue40 (cs := [.i64 0, .i64 0, .i64 0, .i64 0, .i64 0, .str ([] : List UInt8), .str ([] : List UInt8), .list 3 ApiField.d [], .i64 0]) rfl) ?_
  rintro _ _ ⟨b2, rfl, rfl⟩
  refine go_u rfl rfl (o_store_box 0 Try.sizeOf40 rfl rfl rfl rfl rfl rfl rfl rfl (Nat.le_of_ble_eq_true rfl)) ?_
  rintro _ _ rfl
  refine go_ms (ms' := [box b2 40 [_, _, _, _, _, _, _, _, _], box b1 37 [_]]) rfl ?_
  refine go_nil ?_
  refine g_seq ?_
  refine g_seq ?_
  refine g_region ?_
  refine go_p rfl rfl rfl (o_fieldAddr_box fi_40_0 rfl) ?_
  refine go_p rfl rfl rfl (o_load_box 0 Try.isAgg3 rfl rfl rfl rfl) ?_
  refine go_p rfl rfl rfl (o_cmp rfl rfl rfl) ?_
  refine go_p rfl rfl rfl (o_move rfl) ?_
  apply go_and [(2, _), (4, _), (7, _), (8, _), (9, _)] 5 27 (t := 22) ⟨rfl, rfl, rfl, rfl, rfl, trivial⟩ rfl
  · intro hg_1 hk1
    refine go_wantp rfl rfl rfl hg_1 rfl rfl (o_fieldAddr_box fi_40_5 rfl) ?_
    refine go_wantp rfl rfl rfl hg_1 rfl rfl (o_load_box 0 Try.isAgg9 rfl rfl rfl rfl) ?_
    refine go_wantp rfl rfl rfl hg_1 rfl rfl (o_move rfl) ?_
    refine go_wantp rfl rfl rfl hg_1 rfl rfl (o_cmps rfl rfl rfl) ?_
    refine go_p rfl rfl rfl (o_pickT rfl hg_1 rfl) ?_
    exact go_meet hk1 (rfl) ⟨rfl, rfl, rfl, rfl, rfl, trivial⟩
  · intro hg_1 hk1
    refine go_skip rfl rfl rfl hg_1 rfl rfl ?_
    refine go_skip rfl rfl rfl hg_1 rfl rfl ?_
    refine go_skip rfl rfl rfl hg_1 rfl rfl ?_
    refine go_skip rfl rfl rfl hg_1 rfl rfl ?_
    refine go_p rfl rfl rfl (o_pickF rfl hg_1 rfl) ?_
    exact go_meet hk1 (rfl) ⟨rfl, rfl, rfl, rfl, rfl, trivial⟩
  refine go_nil ?_
  refine g_cond rfl (fun hc1 => ?_) (fun hc1 => ?_)
  · replace hm := cond_t hc1 hm
    refine g_seq ?_
    refine g_region ?_
    refine go_p rfl rfl rfl (o_load_agg Try.isAgg37 Try.sizeOf37 rfl rfl) ?_
    obtain ⟨x3, hx2, hm⟩ := bind_some hm
    refine go_p rfl rfl rfl (o_call0 Try.call42 rfl (w_syntagmaref05_Norm hx2)) ?_
    refine go_u rfl rfl (o_store_box 1 Try.sizeOf37 rfl rfl rfl rfl rfl rfl rfl rfl (Nat.le_of_ble_eq_true rfl)) ?_
    rintro _ _ rfl
    refine go_ms (ms' := [box b2 40 [_, _, _, _, _, _, _, _, _], box b1 37 [_]]) rfl ?_
    refine go_nil ?_
    refine g_ret ?_
    exact retK (ret_one' rfl (ret_cell 1 rfl rfl rfl Try.isAgg37 Try.sizeOf37 rfl) (perm_drop _)) (congrArg (fun (p : ApiExpr) => (ApiExpr.d p : D)) (some_eq hm))
  · replace hm := cond_f hc1 hm
    refine g_skip ?_
    refine g_seq ?_
    refine g_region ?_
    refine go_p rfl rfl rfl (o_load_box_agg 0 Try.isAgg40 Try.sizeOf40 rfl rfl rfl rfl (Nat.le_of_ble_eq_true rfl)) ?_
    obtain ⟨x4, hx3, hm⟩ := bind_some hm
    refine go_p rfl rfl rfl (o_call0 Try.call32 rfl (w_syntagmaref05_Kids hx3)) ?_
    refine go_op rfl rfl rfl (o_buildSlice_row (xs := []) (f := ApiExpr.d) (l := []) Try.runUnderlying49 Try.sizeOf37 Try.zeroValue37 rfl rfl rfl (fun _ => ⟨rfl, rfl, rfl⟩) rfl (by simp [maxLen])) ?_
    rintro _ _ ⟨a_r1, rfl, rfl⟩
    refine go_p rfl rfl rfl (o_assign rfl) ?_
    refine go_p rfl rfl rfl (o_assign rfl) ?_
    refine go_nil ?_
    refine g_seq ?_
    refine g_seq ?_
    refine g_region ?_
    refine go_p rfl rfl rfl (o_assign rfl) ?_
    refine go_nil ?_
    obtain ⟨o_1, hj1, hm1⟩ := bind_some hm
    refine g_cut_m [(8, _), (9, _)] [(1, _), (2, _)] (fun (st : (List ApiExpr)) (hid : (Option Addr × Nat)) => match st, hid with | l1, (a_r1, cap_r1) => [(11, .v (.slice a_r1 l1.length cap_r1))]) (fun F (st : (List ApiExpr)) (hid : (Option Addr × Nat)) => match st, hid with | l1, (a_r1, cap_r1) => [row a_r1 cap_r1 37 1 ApiExpr.d l1, (nthF F 0), (nthF F 1)]) (fun st => st = o_1) ⟨rfl, rfl, trivial⟩ ⟨rfl, rfl, trivial⟩ ?_ ?_
    · skip
      refine g_block ?_
      refine g_loop_m [(2, _), (4, _), (7, _), (8, _), (9, _), (10, _)] [(1, _), (2, _)] (fun (st : (Int × (List ApiExpr))) (hid : (Option Addr × Nat)) => match st, hid with | (k1, l2), (a_r1, cap_r1) => [(11, .v (.slice a_r1 l2.length cap_r1)), (12, .i64 k1)]) (fun F (st : (Int × (List ApiExpr))) (hid : (Option Addr × Nat)) => match st, hid with | (k1, l2), (a_r1, cap_r1) => [row a_r1 cap_r1 37 1 ApiExpr.d l2, (nthF F 0), (nthF F 1)]) (_, _) hj1 (fun _ => rfl) ⟨rfl, rfl, rfl, rfl, rfl, rfl, trivial⟩ ⟨rfl, rfl, trivial⟩ ⟨rfl, rfl, trivial⟩ rfl ?_
      rintro n ⟨k1, l2⟩ ⟨a_r1, cap_r1⟩ hj1
      rw [m_syntagmaref09_put_l1] at hj1
      refine g_norm (L' := [(11, .v (.slice a_r1 l2.length cap_r1)), (12, .i64 k1), (2, _), (4, _), (7, _), (8, _), (9, _), (10, _)]) (ms' := [row a_r1 cap_r1 37 1 ApiExpr.d l2, _, _]) rfl rfl ?_
      refine g_seq ?_
      refine g_seq ?_
      refine g_region ?_
      refine go_p rfl rfl rfl (o_move rfl) ?_
      refine go_p rfl rfl rfl (o_move rfl) ?_
      refine go_p rfl rfl rfl (o_len Try.runUnderlying46 rfl) ?_
      refine go_p rfl rfl rfl (o_cmp rfl rfl rfl) ?_
      refine go_nil ?_
      refine g_cond rfl (fun hc2 => ?_) (fun hc2 => ?_)
      · replace hj1 := cond_t hc2 hj1
        refine g_skip ?_
        refine g_seq ?_
        refine g_block ?_
        refine g_seq ?_
        refine g_region ?_
        refine go_p rfl rfl rfl (o_fieldAddr_box fi_40_5 rfl) ?_
        refine go_p rfl rfl rfl (o_load_box 1 Try.isAgg9 rfl rfl rfl rfl) ?_
        refine go_p rfl rfl rfl (o_move rfl) ?_
        refine go_p rfl rfl rfl (o_cmps rfl rfl rfl) ?_
        refine go_p rfl rfl rfl (o_move rfl) ?_
        apply go_and [(2, _), (4, _), (7, _), (8, _), (9, _), (10, _), (11, _), (12, _)] 18 61 (t := 43) ⟨rfl, rfl, rfl, rfl, rfl, rfl, rfl, rfl, trivial⟩ rfl
        · intro hg_2 hk2
          refine go_wantp rfl rfl rfl hg_2 rfl rfl (o_fieldAddr_box fi_40_0 rfl) ?_
          refine go_wantp rfl rfl rfl hg_2 rfl rfl (o_load_box 1 Try.isAgg3 rfl rfl rfl rfl) ?_
          refine go_wantp rfl rfl rfl hg_2 rfl rfl (o_cmp rfl rfl rfl) ?_
          refine go_wantp rfl rfl rfl hg_2 rfl rfl (o_move rfl) ?_
          apply go_or [(2, _), (4, _), (7, _), (8, _), (9, _), (10, _), (11, _), (12, _), (43, _)] 4 51 (t := 47) ⟨rfl, rfl, rfl, rfl, rfl, rfl, rfl, rfl, rfl, trivial⟩ rfl
          · intro hg_3 hk3
            refine go_wantp rfl rfl rfl hg_3 rfl rfl (o_fieldAddr_box fi_40_0 rfl) ?_
            refine go_wantp rfl rfl rfl hg_3 rfl rfl (o_load_box 1 Try.isAgg3 rfl rfl rfl rfl) ?_
            refine go_wantp rfl rfl rfl hg_3 rfl rfl (o_cmp rfl rfl rfl) ?_
            refine go_wantp rfl rfl rfl hg_2 rfl rfl (o_pickF rfl hg_3 rfl) ?_
            exact go_meet hk3 (rfl) ⟨rfl, rfl, rfl, rfl, rfl, rfl, rfl, rfl, rfl, trivial⟩
          · intro hg_3 hk3
            refine go_skip rfl rfl rfl hg_3 rfl rfl ?_
            refine go_skip rfl rfl rfl hg_3 rfl rfl ?_
            refine go_skip rfl rfl rfl hg_3 rfl rfl ?_
            refine go_wantp rfl rfl rfl hg_2 rfl rfl (o_pickT rfl hg_3 rfl) ?_
            exact go_meet hk3 (rfl) ⟨rfl, rfl, rfl, rfl, rfl, rfl, rfl, rfl, rfl, trivial⟩
          refine go_wantp rfl rfl rfl hg_2 rfl rfl (o_move rfl) ?_
          apply go_or [(2, _), (4, _), (7, _), (8, _), (9, _), (10, _), (11, _), (12, _), (43, _)] 8 60 (t := 52) ⟨rfl, rfl, rfl, rfl, rfl, rfl, rfl, rfl, rfl, trivial⟩ rfl
          · intro hg_4 hk4
            refine go_wantp rfl rfl rfl hg_4 rfl rfl (o_fieldAddr_box fi_40_0 rfl) ?_
            refine go_wantp rfl rfl rfl hg_4 rfl rfl (o_load_box 1 Try.isAgg3 rfl rfl rfl rfl) ?_
            refine go_wantp rfl rfl rfl hg_4 rfl rfl (o_cmp rfl rfl rfl) ?_
            refine go_wantp rfl rfl rfl hg_4 rfl rfl (o_move rfl) ?_
            apply go_and [(2, _), (4, _), (7, _), (8, _), (9, _), (10, _), (11, _), (12, _), (43, _), (52, _)] 3 59 (t := 56) ⟨rfl, rfl, rfl, rfl, rfl, rfl, rfl, rfl, rfl, rfl, trivial⟩ rfl
            · intro hg_5 hk5
              refine go_wantp rfl rfl rfl hg_5 rfl rfl (o_move rfl) ?_
              refine go_wantp rfl rfl rfl hg_5 rfl rfl (o_cmp rfl rfl rfl) ?_
              refine go_wantp rfl rfl rfl hg_4 rfl rfl (o_pickT rfl hg_5 rfl) ?_
              exact go_meet hk5 (rfl) ⟨rfl, rfl, rfl, rfl, rfl, rfl, rfl, rfl, rfl, rfl, trivial⟩
            · intro hg_5 hk5
              refine go_skip rfl rfl rfl hg_5 rfl rfl ?_
              refine go_skip rfl rfl rfl hg_5 rfl rfl ?_
              refine go_wantp rfl rfl rfl hg_4 rfl rfl (o_pickF rfl hg_5 rfl) ?_
              exact go_meet hk5 (rfl) ⟨rfl, rfl, rfl, rfl, rfl, rfl, rfl, rfl, rfl, rfl, trivial⟩
            refine go_wantp rfl rfl rfl hg_2 rfl rfl (o_pickF rfl hg_4 rfl) ?_
            exact go_meet hk4 (rfl) ⟨rfl, rfl, rfl, rfl, rfl, rfl, rfl, rfl, rfl, trivial⟩
          · intro hg_4 hk4
            refine go_skip rfl rfl rfl hg_4 rfl rfl ?_
            refine go_skip rfl rfl rfl hg_4 rfl rfl ?_
            refine go_skip rfl rfl rfl hg_4 rfl rfl ?_
            refine go_skip rfl rfl rfl hg_4 rfl rfl ?_
            refine go_skipu rfl rfl rfl rfl rfl ?_
            refine go_skipu rfl rfl rfl rfl rfl ?_
            refine go_skip rfl rfl rfl hg_4 rfl rfl ?_
            refine go_wantp rfl rfl rfl hg_2 rfl rfl (o_pickT rfl hg_4 rfl) ?_
            exact go_meet hk4 (rfl) ⟨rfl, rfl, rfl, rfl, rfl, rfl, rfl, rfl, rfl, trivial⟩
          refine go_p rfl rfl rfl (o_pickT rfl hg_2 rfl) ?_
          exact go_meet hk2 (rfl) ⟨rfl, rfl, rfl, rfl, rfl, rfl, rfl, rfl, trivial⟩
        · intro hg_2 hk2
          refine go_skip rfl rfl rfl hg_2 rfl rfl ?_
          refine go_skip rfl rfl rfl hg_2 rfl rfl ?_
          refine go_skip rfl rfl rfl hg_2 rfl rfl ?_
          refine go_skip rfl rfl rfl hg_2 rfl rfl ?_
          refine go_skipu rfl rfl rfl rfl rfl ?_
          refine go_skipu rfl rfl rfl rfl rfl ?_
          refine go_skipu rfl rfl rfl rfl rfl ?_
          refine go_skip rfl rfl rfl hg_2 rfl rfl ?_
          refine go_skip rfl rfl rfl hg_2 rfl rfl ?_
          refine go_skipu rfl rfl rfl rfl rfl ?_
          refine go_skipu rfl rfl rfl rfl rfl ?_
          refine go_skipu rfl rfl rfl rfl rfl ?_
          refine go_skipu rfl rfl rfl rfl rfl ?_
          refine go_skipu rfl rfl rfl rfl rfl ?_
          refine go_skipu rfl rfl rfl rfl rfl ?_
          refine go_skipu rfl rfl rfl rfl rfl ?_
          refine go_skip rfl rfl rfl hg_2 rfl rfl ?_
          refine go_p rfl rfl rfl (o_pickF rfl hg_2 rfl) ?_
          exact go_meet hk2 (rfl) ⟨rfl, rfl, rfl, rfl, rfl, rfl, rfl, rfl, trivial⟩
        refine go_p rfl rfl rfl (o_assign rfl) ?_
        refine go_nil ?_
        refine g_seq ?_
        refine g_seq ?_
        refine g_region ?_
        refine go_p rfl rfl rfl (o_fieldAddr_box fi_40_0 rfl) ?_
        refine go_p rfl rfl rfl (o_load_box 1 Try.isAgg3 rfl rfl rfl rfl) ?_
        refine go_p rfl rfl rfl (o_cmp rfl rfl rfl) ?_
        refine go_p rfl rfl rfl (o_move rfl) ?_
        apply go_and [(2, _), (4, _), (7, _), (8, _), (9, _), (10, _), (11, _), (12, _), (13, _)] 3 68 (t := 65) ⟨rfl, rfl, rfl, rfl, rfl, rfl, rfl, rfl, rfl, trivial⟩ rfl
        · intro hg_6 hk6
          refine go_wantp rfl rfl rfl hg_6 rfl rfl (o_move rfl) ?_
          refine go_wantp rfl rfl rfl hg_6 rfl rfl (o_cmp rfl rfl rfl) ?_
          refine go_p rfl rfl rfl (o_pickT rfl hg_6 rfl) ?_
          exact go_meet hk6 (rfl) ⟨rfl, rfl, rfl, rfl, rfl, rfl, rfl, rfl, rfl, trivial⟩
        · intro hg_6 hk6
          refine go_skip rfl rfl rfl hg_6 rfl rfl ?_
          refine go_skip rfl rfl rfl hg_6 rfl rfl ?_
          refine go_p rfl rfl rfl (o_pickF rfl hg_6 rfl) ?_
          exact go_meet hk6 (rfl) ⟨rfl, rfl, rfl, rfl, rfl, rfl, rfl, rfl, rfl, trivial⟩
        refine go_nil ?_
        obtain ⟨o_2, hj2, hm2⟩ := bind_some hj1
        refine g_cut_m [(2, _), (4, _), (7, _), (8, _), (9, _), (10, _), (11, _), (12, _)] [(0, _), (1, _), (2, _)] (fun (st : Bool) (hid : Unit) => match st, hid with | hidden1, _ => [(13, .bool hidden1)]) (fun F (st : Bool) (hid : Unit) => match st, hid with | hidden1, _ => [(nthF F 0), (nthF F 1), (nthF F 2)]) (fun st => st = o_2) ⟨rfl, rfl, rfl, rfl, rfl, rfl, rfl, rfl, trivial⟩ ⟨rfl, rfl, rfl, trivial⟩ ?_ ?_
        · skip
          refine g_cond rfl (fun hc3 => ?_) (fun hc3 => ?_)
          · replace hj2 := cond_t hc3 hj2
            refine g_region ?_
            refine go_p rfl rfl rfl (o_fieldAddr_box fi_40_7 rfl) ?_
            refine go_p rfl rfl rfl (o_load_box 1 Try.isAgg38 rfl rfl rfl rfl) ?_
            refine go_p rfl rfl rfl (o_move rfl) ?_
            obtain ⟨hg4, hj2⟩ := grd_some hj2
            refine go_p rfl rfl rfl (o_sub rfl rfl (i64_id hg4)) ?_
            obtain ⟨x5, hx5, hj2⟩ := bind_some hj2
            refine go_p rfl rfl rfl (o_indexAddr_m Try.runUnderlying38 Try.sizeOf102 rfl rfl hx5) ?_
            refine go_p rfl rfl rfl (o_fieldAddr fi_102_1 rfl rfl rfl) ?_
            refine go_p rfl rfl rfl (o_load Try.isAgg9 rfl rfl) ?_
            refine go_p rfl rfl rfl (o_move rfl) ?_
            refine go_p rfl rfl rfl (o_cmps rfl rfl rfl) ?_
            refine go_p rfl rfl rfl (o_assign rfl) ?_
            refine go_nil ?_
            exact ⟨_, (), some_eq hj2, ⟨rfl, trivial⟩, ⟨rfl, rfl, rfl, rfl, rfl, rfl, rfl, rfl, trivial⟩, [], rfl⟩
          · replace hj2 := cond_f hc3 hj2
            refine g_skip ?_
            exact ⟨_, (), some_eq hj2, ⟨rfl, trivial⟩, ⟨rfl, rfl, rfl, rfl, rfl, rfl, rfl, rfl, trivial⟩, [], rfl⟩
        · rintro hidden1 _ hst
          subst hst
          refine k_norm (L' := [(13, .bool hidden1), (2, _), (4, _), (7, _), (8, _), (9, _), (10, _), (11, _), (12, _)]) (ms' := [_, _, _]) rfl rfl ?_
          refine g_seq ?_
          refine g_region ?_
          refine go_p rfl rfl rfl (o_move rfl) ?_
          refine go_nil ?_
          refine g_cond rfl (fun hc4 => ?_) (fun hc4 => ?_)
          · replace hm2 := cond_t hc4 hm2
            obtain ⟨x6, hx6, hm2⟩ := bind_some hm2
            obtain ⟨x7, hx7, hm2⟩ := bind_some hm2
            refine g_draw 8 Try_mixed (by decide +kernel) ?_
            refine gd_p rfl rfl rfl (o_move rfl) ?_
            refine gd_p rfl rfl rfl (o_load_agg Try.isAgg37 Try.sizeOf37 rfl rfl) ?_
            refine gd_p rfl rfl rfl (o_move rfl) ?_
            refine gd_p rfl rfl rfl (o_move rfl) ?_
            refine gd_p rfl rfl rfl (o_indexAddr_m Try.runUnderlying46 Try.sizeOf3 rfl rfl hx6) ?_
            refine gd_p rfl rfl rfl (o_load Try.isAgg3 rfl rfl) ?_
            refine gd_p rfl rfl rfl (o_call0 Try.call43 rfl (w_syntagmaref05_Sub hx7)) ?_
            refine gd_p rfl rfl rfl (o_buildSlice (xs := [_]) (f := ApiExpr.d) (l := [_]) Try.runUnderlying49 Try.sizeOf37 Try.zeroValue37 rfl rfl rfl (fun _ => ⟨rfl, rfl, rfl⟩) rfl) ?_
            refine gd_nil ?_
            obtain ⟨hg8, hm2⟩ := grd_some hm2
            refine go_op rfl rfl rfl (o_append (a := _) 0 Try.underlying49 Try.type37 rfl rfl rfl rfl rfl rfl rfl (fun _ => rfl) (fun _ => rfl) hg8 (app_len hg8 rfl)) ?_
            rintro _ _ ⟨a_r1, cap_r1, rfl, rfl⟩
            refine go_ms (ms' := [_, box b2 40 [_, _, _, _, _, _, _, _, _], box b1 37 [_]]) rfl ?_
            refine go_p rfl rfl rfl (o_assign rfl) ?_
            refine go_nil ?_
            refine g_region ?_
            refine go_p rfl rfl rfl (o_move rfl) ?_
            obtain ⟨hg9, hm2⟩ := grd_some hm2
            refine go_p rfl rfl rfl (o_add rfl rfl (i64_id hg9)) ?_
            refine go_p rfl rfl rfl (o_assign rfl) ?_
            refine go_nil ?_
            exact ⟨_, (_, _), hm2, ⟨rfl, rfl, trivial⟩, ⟨rfl, rfl, rfl, rfl, rfl, rfl, trivial⟩, [], rfl⟩
          · replace hm2 := cond_f hc4 hm2
            obtain ⟨x8, hx10, hm2⟩ := bind_some hm2
            obtain ⟨x9, hx11, hm2⟩ := bind_some hm2
            refine g_draw 10 Try_mixed (by decide +kernel) ?_
            refine gd_p rfl rfl rfl (o_move rfl) ?_
            refine gd_p rfl rfl rfl (o_load_agg Try.isAgg37 Try.sizeOf37 rfl rfl) ?_
            refine gd_p rfl rfl rfl (o_move rfl) ?_
            refine gd_p rfl rfl rfl (o_move rfl) ?_
            refine gd_p rfl rfl rfl (o_indexAddr_m Try.runUnderlying46 Try.sizeOf3 rfl rfl hx10) ?_
            refine gd_p rfl rfl rfl (o_load Try.isAgg3 rfl rfl) ?_
            refine gd_p rfl rfl rfl (o_move rfl) ?_
            refine gd_p rfl rfl rfl (o_load_agg Try.isAgg37 Try.sizeOf37 rfl rfl) ?_
            refine gd_p rfl rfl rfl (o_call0 Try.call129 rfl (hself hx11)) ?_
            refine gd_p rfl rfl rfl (o_buildSlice (xs := [_]) (f := ApiExpr.d) (l := [_]) Try.runUnderlying49 Try.sizeOf37 Try.zeroValue37 rfl rfl rfl (fun _ => ⟨rfl, rfl, rfl⟩) rfl) ?_
            refine gd_nil ?_
            obtain ⟨hg12, hm2⟩ := grd_some hm2
            refine go_op rfl rfl rfl (o_append (a := _) 0 Try.underlying49 Try.type37 rfl rfl rfl rfl rfl rfl rfl (fun _ => rfl) (fun _ => rfl) hg12 (app_len hg12 rfl)) ?_
            rintro _ _ ⟨a_r1, cap_r1, rfl, rfl⟩
            refine go_ms (ms' := [_, box b2 40 [_, _, _, _, _, _, _, _, _], box b1 37 [_]]) rfl ?_
            refine go_p rfl rfl rfl (o_assign rfl) ?_
            refine go_nil ?_
            refine g_region ?_
            refine go_p rfl rfl rfl (o_move rfl) ?_
            obtain ⟨hg13, hm2⟩ := grd_some hm2
            refine go_p rfl rfl rfl (o_add rfl rfl (i64_id hg13)) ?_
            refine go_p rfl rfl rfl (o_assign rfl) ?_
            refine go_nil ?_
            exact ⟨_, (_, _), hm2, ⟨rfl, rfl, trivial⟩, ⟨rfl, rfl, rfl, rfl, rfl, rfl, trivial⟩, [], rfl⟩
      · replace hj1 := cond_f hc2 hj1
        refine g_exit ?_
        exact ⟨_, (_, _), some_eq hj1, ⟨rfl, trivial⟩, ⟨rfl, rfl, trivial⟩, [], rfl⟩
    · rintro l1 ⟨a_r1, cap_r1⟩ hst
      subst hst
      refine k_norm (L' := [(11, .v (.slice a_r1 l1.length cap_r1)), (8, _), (9, _)]) (ms' := [row a_r1 cap_r1 37 1 ApiExpr.d l1, _, _]) rfl rfl ?_
      refine g_seq ?_
      refine g_region ?_
      refine go_p rfl rfl rfl (o_load_box_agg 1 Try.isAgg40 Try.sizeOf40 rfl rfl rfl rfl (Nat.le_of_ble_eq_true rfl)) ?_
      refine go_p rfl rfl rfl (o_move rfl) ?_
      obtain ⟨x10, hx14, hm1⟩ := bind_some hm1
      refine go_p rfl rfl rfl (.view (peekE (i := 100) 0 rfl rfl rfl) (o_call0 Try.call36 rfl (w_syntagmaref05_Join hx14))) ?_
      refine go_u rfl rfl (o_store_box 2 Try.sizeOf37 rfl rfl rfl rfl rfl rfl rfl rfl (Nat.le_of_ble_eq_true rfl)) ?_
      rintro _ _ rfl
      refine go_ms (ms' := [_, box b2 40 [_, _, _, _, _, _, _, _, _], box b1 37 [_]]) rfl ?_
      refine go_nil ?_
      refine g_ret ?_
      exact retK (ret_one' rfl (ret_cell 2 rfl rfl rfl Try.isAgg37 Try.sizeOf37 rfl) (perm_drop _)) (congrArg (fun (p : ApiExpr) => (ApiExpr.d p : D)) (some_eq hm1))
theorem wn_syntagmaref09_put  : ∀ (n : Nat) {e1 : ApiExpr} {i1 : Int} {x1 : (List UInt8)} {v1 : ApiExpr} {r_1 : ApiExpr}, m_syntagmaref09_put n e1 i1 x1 v1 = some r_1 → Fn0 Try.prog 129 [ApiExpr.d e1, .i64 i1, .str x1, ApiExpr.d v1] (ApiExpr.d r_1)
  | 0 => by intros; rename_i h; cases h
  | n + 1 => by intros; rename_i h; exact wF_syntagmaref09_put (m_syntagmaref09_put n) (fun h => wn_syntagmaref09_put n h) h
theorem w_syntagmaref09_put  {e1 : ApiExpr} {i1 : Int} {x1 : (List UInt8)} {v1 : ApiExpr} {r_1 : ApiExpr} (hm : m_syntagmaref09_put FU e1 i1 x1 v1 = some r_1) : Fn0 Try.prog 129 [ApiExpr.d e1, .i64 i1, .str x1, ApiExpr.d v1] (ApiExpr.d r_1) := wn_syntagmaref09_put FU hm
def m_syntagmaref09_Raw (e1 : ApiExpr) (x1 : (List UInt8)) (v1 : ApiExpr) : Option ApiExpr :=
  grd (InR ((e1.l.length : Int) - 1)) <|
  (m_syntagmaref09_put FU e1 ((e1.l.length : Int) - 1) x1 v1).bind fun x2 =>
  some (⟨x2.l⟩ : ApiExpr)
theorem w_syntagmaref09_Raw {e1 : ApiExpr} {x1 : (List UInt8)} {v1 : ApiExpr} {r_1 : ApiExpr} (hm : m_syntagmaref09_Raw e1 x1 v1 = some r_1) : Fn0 Try.prog 94 [ApiExpr.d e1, .str x1, ApiExpr.d v1] (ApiExpr.d r_1) := by
  unfold m_syntagmaref09_Raw at hm
  refine fn_intro Try.func94 rfl Try.ntmps94 rfl fun H0 fr w0 => ?_
  refine g_seq ?_
  refine g_region ?_
  refine go_p rfl rfl rfl (o_box rfl rfl) ?_
  refine go_p rfl rfl rfl (o_box rfl rfl) ?_
  refine go_op rfl rfl rfl (o_alloc_own Try.zeroValue37 (cs := [.list 9 ApiNode.d []]) rfl) ?_
  rintro _ _ ⟨b1, rfl, rfl⟩
  refine go_nil ?_
  refine g_seq ?_
  refine g_region ?_
  refine go_p rfl rfl rfl (o_load_agg Try.isAgg37 Try.sizeOf37 rfl rfl) ?_
  refine go_p rfl rfl rfl (o_fieldAddr fi_37_0 rfl rfl rfl) ?_
  refine go_p rfl rfl rfl (o_load Try.isAgg35 rfl rfl) ?_
  refine go_p rfl rfl rfl (o_len Try.runUnderlying35 rfl) ?_
  obtain ⟨hg1, hm⟩ := grd_some hm
  refine go_p rfl rfl rfl (o_sub rfl rfl (i64_id hg1)) ?_
  refine go_p rfl rfl rfl (o_move rfl) ?_
  refine go_p rfl rfl rfl (o_load_agg Try.isAgg37 Try.sizeOf37 rfl rfl) ?_
  obtain ⟨x2, hx2, hm⟩ := bind_some hm
  refine go_p rfl rfl rfl (o_call0 Try.call129 rfl (w_syntagmaref09_put hx2)) ?_
  refine go_u rfl rfl (o_store_box 0 Try.sizeOf37 rfl rfl rfl rfl rfl rfl rfl rfl (Nat.le_of_ble_eq_true rfl)) ?_
  rintro _ _ rfl
  refine go_ms (ms' := [box b1 37 [_]]) rfl ?_
  refine go_nil ?_
  refine g_ret ?_
  exact retK (ret_one' rfl (ret_cell 0 rfl rfl rfl Try.isAgg37 Try.sizeOf37 rfl) (perm_drop _)) (congrArg (fun (p : ApiExpr) => (ApiExpr.d p : D)) (some_eq hm))
def m_syntagmaref09_Put (e1 : ApiExpr) (x1 : (List UInt8)) (v1 : ApiExpr) (isName1 : Bool) : Option (ApiExpr × Int) :=
  (m_syntagmaref05_May e1).bind fun x2 =>
  bif (!decide (x2 = 0)) then
    some ((⟨([] : List ApiNode)⟩ : ApiExpr), x2)
  else
    (m_syntagmaref05_May v1).bind fun x3 =>
    bif (!decide (x3 = 0)) then
      some ((⟨([] : List ApiNode)⟩ : ApiExpr), x3)
    else
      bif (!isName1) then
        some ((⟨([] : List ApiNode)⟩ : ApiExpr), 2)
      else
        (m_syntagmaref06_Closed v1).bind fun x4 =>
        bif (decide (0 ≤ x4)) then
          some ((⟨([] : List ApiNode)⟩ : ApiExpr), 10)
        else
          (m_syntagmaref09_Raw e1 x1 v1).bind fun x5 =>
          (m_syntagmaref05_May (⟨x5.l⟩ : ApiExpr)).bind fun x6 =>
          bif (!decide (x6 = 0)) then
            some ((⟨([] : List ApiNode)⟩ : ApiExpr), x6)
          else
            some ((⟨x5.l⟩ : ApiExpr), 0)
theorem w_syntagmaref09_Put {e1 : ApiExpr} {x1 : (List UInt8)} {v1 : ApiExpr} {isName1 : Bool} {r_1 : ApiExpr} {r_2 : Int} (hm : m_syntagmaref09_Put e1 x1 v1 isName1 = some (r_1, r_2)) : Fn0 Try.prog 57 [ApiExpr.d e1, .str x1, ApiExpr.d v1, .bool isName1] (.tup [ApiExpr.d r_1, .i64 r_2]) := by
  unfold m_syntagmaref09_Put at hm
  refine fn_intro Try.func57 rfl Try.ntmps57 rfl fun H0 fr w0 => ?_
  refine g_seq ?_
  refine g_region ?_
  refine go_p rfl rfl rfl (o_box rfl rfl) ?_
  refine go_p rfl rfl rfl (o_box rfl rfl) ?_
  refine go_op rfl rfl rfl (o_alloc_own Try.zeroValue37 (cs := [.list 9 ApiNode.d []]) rfl) ?_
  rintro _ _ ⟨b1, rfl, rfl⟩
  refine go_p rfl rfl rfl (o_assign rfl) ?_
  refine go_nil ?_
  refine g_seq ?_
  refine g_seq ?_
  refine g_region ?_
  refine go_p rfl rfl rfl (o_load_agg Try.isAgg37 Try.sizeOf37 rfl rfl) ?_
  obtain ⟨x2, hx1, hm⟩ := bind_some hm
  refine go_p rfl rfl rfl (o_call0 Try.call26 rfl (w_syntagmaref05_May hx1)) ?_
  refine go_p rfl rfl rfl (o_assign rfl) ?_
  refine go_nil ?_
  refine g_seq ?_
  refine g_region ?_
  refine go_p rfl rfl rfl (o_move rfl) ?_
  refine go_p rfl rfl rfl (o_cmp rfl rfl rfl) ?_
  refine go_nil ?_
  refine g_cond rfl (fun hc1 => ?_) (fun hc1 => ?_)
  · replace hm := cond_t hc1 hm
    refine g_seq ?_
    refine g_region ?_
    refine go_p rfl rfl rfl (o_build (zs := [.list 9 ApiNode.d []]) Try.runUnderlying37 Try.zeroValue37 (pl_37 _ Try.runUnderlying37) rfl rfl rfl rfl) ?_
    refine go_p rfl rfl rfl (o_move rfl) ?_
    refine go_u rfl rfl (o_store_box 0 Try.sizeOf37 rfl rfl rfl rfl rfl rfl rfl rfl (Nat.le_of_ble_eq_true rfl)) ?_
    rintro _ _ rfl
    refine go_ms (ms' := [box b1 37 [_]]) rfl ?_
    refine go_p rfl rfl rfl (o_assign rfl) ?_
    refine go_nil ?_
    refine g_ret ?_
    exact retK (ret_many (ds := [_, _]) rfl (by decide) ⟨ret_cell 0 rfl rfl rfl Try.isAgg37 Try.sizeOf37 rfl, ⟨ret_tmp rfl, rfl⟩⟩ (perm_drop _)) (congrArg (fun (p : (ApiExpr × Int)) => D.tup [ApiExpr.d p.1, .i64 p.2]) (some_eq hm))
  · replace hm := cond_f hc1 hm
    refine g_skip ?_
    refine g_seq ?_
    refine g_seq ?_
    refine g_region ?_
    refine go_p rfl rfl rfl (o_load_agg Try.isAgg37 Try.sizeOf37 rfl rfl) ?_
    obtain ⟨x3, hx2, hm⟩ := bind_some hm
    refine go_p rfl rfl rfl (o_call0 Try.call26 rfl (w_syntagmaref05_May hx2)) ?_
    refine go_p rfl rfl rfl (o_assign rfl) ?_
    refine go_nil ?_
    refine g_seq ?_
    refine g_region ?_
    refine go_p rfl rfl rfl (o_move rfl) ?_
    refine go_p rfl rfl rfl (o_cmp rfl rfl rfl) ?_
    refine go_nil ?_
    refine g_cond rfl (fun hc2 => ?_) (fun hc2 => ?_)
    · replace hm := cond_t hc2 hm
      refine g_seq ?_
      refine g_region ?_
      refine go_p rfl rfl rfl (o_build (zs := [.list 9 ApiNode.d []]) Try.runUnderlying37 Try.zeroValue37 (pl_37 _ Try.runUnderlying37) rfl rfl rfl rfl) ?_
      refine go_p rfl rfl rfl (o_move rfl) ?_
      refine go_u rfl rfl (o_store_box 0 Try.sizeOf37 rfl rfl rfl rfl rfl rfl rfl rfl (Nat.le_of_ble_eq_true rfl)) ?_
      rintro _ _ rfl
      refine go_ms (ms' := [box b1 37 [_]]) rfl ?_
      refine go_p rfl rfl rfl (o_assign rfl) ?_
      refine go_nil ?_
      refine g_ret ?_
      exact retK (ret_many (ds := [_, _]) rfl (by decide) ⟨ret_cell 0 rfl rfl rfl Try.isAgg37 Try.sizeOf37 rfl, ⟨ret_tmp rfl, rfl⟩⟩ (perm_drop _)) (congrArg (fun (p : (ApiExpr × Int)) => D.tup [ApiExpr.d p.1, .i64 p.2]) (some_eq hm))
    · replace hm := cond_f hc2 hm
      refine g_skip ?_
      refine g_seq ?_
      refine g_seq ?_
      refine g_region ?_
      refine go_p rfl rfl rfl (o_move rfl) ?_
      refine go_p rfl rfl rfl (o_not rfl) ?_
      refine go_nil ?_
      refine g_cond rfl (fun hc3 => ?_) (fun hc3 => ?_)
      · replace hm := cond_t hc3 hm
        refine g_seq ?_
        refine g_region ?_
        refine go_p rfl rfl rfl (o_build (zs := [.list 9 ApiNode.d []]) Try.runUnderlying37 Try.zeroValue37 (pl_37 _ Try.runUnderlying37) rfl rfl rfl rfl) ?_
        refine go_u rfl rfl (o_store_box 0 Try.sizeOf37 rfl rfl rfl rfl rfl rfl rfl rfl (Nat.le_of_ble_eq_true rfl)) ?_
        rintro _ _ rfl
        refine go_ms (ms' := [box b1 37 [_]]) rfl ?_
        refine go_p rfl rfl rfl (o_assign rfl) ?_
        refine go_nil ?_
        refine g_ret ?_
        exact retK (ret_many (ds := [_, _]) rfl (by decide) ⟨ret_cell 0 rfl rfl rfl Try.isAgg37 Try.sizeOf37 rfl, ⟨ret_tmp rfl, rfl⟩⟩ (perm_drop _)) (congrArg (fun (p : (ApiExpr × Int)) => D.tup [ApiExpr.d p.1, .i64 p.2]) (some_eq hm))
      · replace hm := cond_f hc3 hm
        refine g_skip ?_
        refine g_seq ?_
        refine g_seq ?_
        refine g_region ?_
        refine go_p rfl rfl rfl (o_load_agg Try.isAgg37 Try.sizeOf37 rfl rfl) ?_
        obtain ⟨x4, hx3, hm⟩ := bind_some hm
        refine go_p rfl rfl rfl (o_call0 Try.call48 rfl (w_syntagmaref06_Closed hx3)) ?_
        refine go_p rfl rfl rfl (o_cmp rfl rfl rfl) ?_
        refine go_nil ?_
        refine g_cond rfl (fun hc4 => ?_) (fun hc4 => ?_)
        · replace hm := cond_t hc4 hm
          refine g_seq ?_
          refine g_region ?_
          refine go_p rfl rfl rfl (o_build (zs := [.list 9 ApiNode.d []]) Try.runUnderlying37 Try.zeroValue37 (pl_37 _ Try.runUnderlying37) rfl rfl rfl rfl) ?_
          refine go_u rfl rfl (o_store_box 0 Try.sizeOf37 rfl rfl rfl rfl rfl rfl rfl rfl (Nat.le_of_ble_eq_true rfl)) ?_
          rintro _ _ rfl
          refine go_ms (ms' := [box b1 37 [_]]) rfl ?_
          refine go_p rfl rfl rfl (o_assign rfl) ?_
          refine go_nil ?_
          refine g_ret ?_
          exact retK (ret_many (ds := [_, _]) rfl (by decide) ⟨ret_cell 0 rfl rfl rfl Try.isAgg37 Try.sizeOf37 rfl, ⟨ret_tmp rfl, rfl⟩⟩ (perm_drop _)) (congrArg (fun (p : (ApiExpr × Int)) => D.tup [ApiExpr.d p.1, .i64 p.2]) (some_eq hm))
        · replace hm := cond_f hc4 hm
          refine g_skip ?_
          refine g_seq ?_
          refine g_region ?_
          refine go_p rfl rfl rfl (o_load_agg Try.isAgg37 Try.sizeOf37 rfl rfl) ?_
          refine go_p rfl rfl rfl (o_move rfl) ?_
          refine go_p rfl rfl rfl (o_load_agg Try.isAgg37 Try.sizeOf37 rfl rfl) ?_
          obtain ⟨x5, hx4, hm⟩ := bind_some hm
          refine go_p rfl rfl rfl (o_call0 Try.call94 rfl (w_syntagmaref09_Raw hx4)) ?_
          refine go_op rfl rfl rfl (o_alloc_own Try.zeroValue37 (cs := [.list 9 ApiNode.d []]) rfl) ?_
          rintro _ _ ⟨b2, rfl, rfl⟩
          refine go_u rfl rfl (o_store_box 0 Try.sizeOf37 rfl rfl rfl rfl rfl rfl rfl rfl (Nat.le_of_ble_eq_true rfl)) ?_
          rintro _ _ rfl
          refine go_ms (ms' := [box b2 37 [_], box b1 37 [_]]) rfl ?_
          refine go_nil ?_
          refine g_seq ?_
          refine g_seq ?_
          refine g_region ?_
          refine go_p rfl rfl rfl (o_load_box_agg 0 Try.isAgg37 Try.sizeOf37 rfl rfl rfl rfl (Nat.le_of_ble_eq_true rfl)) ?_
          obtain ⟨x6, hx5, hm⟩ := bind_some hm
          refine go_p rfl rfl rfl (o_call0 Try.call26 rfl (w_syntagmaref05_May hx5)) ?_
          refine go_p rfl rfl rfl (o_assign rfl) ?_
          refine go_nil ?_
          refine g_seq ?_
          refine g_region ?_
          refine go_p rfl rfl rfl (o_move rfl) ?_
          refine go_p rfl rfl rfl (o_cmp rfl rfl rfl) ?_
          refine go_nil ?_
          refine g_cond rfl (fun hc5 => ?_) (fun hc5 => ?_)
          · replace hm := cond_t hc5 hm
            refine g_seq ?_
            refine g_region ?_
            refine go_p rfl rfl rfl (o_build (zs := [.list 9 ApiNode.d []]) Try.runUnderlying37 Try.zeroValue37 (pl_37 _ Try.runUnderlying37) rfl rfl rfl rfl) ?_
            refine go_p rfl rfl rfl (o_move rfl) ?_
            refine go_u rfl rfl (o_store_box 1 Try.sizeOf37 rfl rfl rfl rfl rfl rfl rfl rfl (Nat.le_of_ble_eq_true rfl)) ?_
            rintro _ _ rfl
            refine go_ms (ms' := [box b2 37 [_], box b1 37 [_]]) rfl ?_
            refine go_p rfl rfl rfl (o_assign rfl) ?_
            refine go_nil ?_
            refine g_ret ?_
            exact retK (ret_many (ds := [_, _]) rfl (by decide) ⟨ret_cell 1 rfl rfl rfl Try.isAgg37 Try.sizeOf37 rfl, ⟨ret_tmp rfl, rfl⟩⟩ (perm_drop _)) (congrArg (fun (p : (ApiExpr × Int)) => D.tup [ApiExpr.d p.1, .i64 p.2]) (some_eq hm))
          · replace hm := cond_f hc5 hm
            refine g_skip ?_
            refine g_seq ?_
            refine g_region ?_
            refine go_p rfl rfl rfl (o_load_box_agg 0 Try.isAgg37 Try.sizeOf37 rfl rfl rfl rfl (Nat.le_of_ble_eq_true rfl)) ?_
            refine go_u rfl rfl (o_store_box 1 Try.sizeOf37 rfl rfl rfl rfl rfl rfl rfl rfl (Nat.le_of_ble_eq_true rfl)) ?_
            rintro _ _ rfl
            refine go_ms (ms' := [box b2 37 [_], box b1 37 [_]]) rfl ?_
            refine go_p rfl rfl rfl (o_assign rfl) ?_
            refine go_nil ?_
            refine g_ret ?_
            exact retK (ret_many (ds := [_, _]) rfl (by decide) ⟨ret_cell 1 rfl rfl rfl Try.isAgg37 Try.sizeOf37 rfl, ⟨ret_tmp rfl, rfl⟩⟩ (perm_drop _)) (congrArg (fun (p : (ApiExpr × Int)) => D.tup [ApiExpr.d p.1, .i64 p.2]) (some_eq hm))
def m_syntagmalaw09_same_l1 (a1 : ApiExpr) (b1 : ApiExpr) : Nat → Int → Option (Out Bool Unit)
  | 0, _ => none
  | n + 1, i1 =>
    bif (decide (i1 < (a1.l.length : Int))) then
      (idx a1.l i1).bind fun x2 =>
      (idx b1.l i1).bind fun x3 =>
      bif (!decide (x2.pos = x3.pos)) then
        some (Out.ret false)
      else
        grd (InR (i1 + 1)) <|
        m_syntagmalaw09_same_l1 a1 b1 n (i1 + 1)
    else
      some (Out.go (()))
def m_syntagmalaw09_same (a1 : ApiExpr) (b1 : ApiExpr) : Option Bool :=
  (m_syntagmaref05_SameList a1 b1).bind fun x1 =>
  bif (!x1) then
    some false
  else
    ((m_syntagmalaw09_same_l1 a1 b1 FU 0 : Option (Out Bool Unit))).bind (fun oo => oo.on (fun r1 => some r1) (fun _ =>
    some true))
theorem w_syntagmalaw09_same {a1 : ApiExpr} {b1 : ApiExpr} {r_1 : Bool} (hm : m_syntagmalaw09_same a1 b1 = some r_1) : Fn0 Try.prog 59 [ApiExpr.d a1, ApiExpr.d b1] (.bool r_1) := by
  unfold m_syntagmalaw09_same at hm
  refine fn_intro Try.func59 rfl Try.ntmps59 rfl fun H0 fr w0 => ?_
  refine g_seq ?_
  refine g_region ?_
  refine go_p rfl rfl rfl (o_box rfl rfl) ?_
  refine go_p rfl rfl rfl (o_box rfl rfl) ?_
  refine go_p rfl rfl rfl (o_assign rfl) ?_
  refine go_nil ?_
  refine g_seq ?_
  refine g_seq ?_
  refine g_region ?_
  refine go_p rfl rfl rfl (o_load_agg Try.isAgg37 Try.sizeOf37 rfl rfl) ?_
  refine go_p rfl rfl rfl (o_load_agg Try.isAgg37 Try.sizeOf37 rfl rfl) ?_
  obtain ⟨x1, hx1, hm⟩ := bind_some hm
  refine go_p rfl rfl rfl (o_call0 Try.call34 rfl (w_syntagmaref05_SameList hx1)) ?_
  refine go_p rfl rfl rfl (o_not rfl) ?_
  refine go_nil ?_
  refine g_cond rfl (fun hc1 => ?_) (fun hc1 => ?_)
  · replace hm := cond_t hc1 hm
    refine g_seq ?_
    refine g_region ?_
    refine go_p rfl rfl rfl (o_assign rfl) ?_
    refine go_nil ?_
    refine g_ret ?_
    exact retK (ret_one' rfl (ret_tmp rfl) (perm_drop _)) (congrArg (fun (p : Bool) => (.bool p : D)) (some_eq hm))
  · replace hm := cond_f hc1 hm
    refine g_skip ?_
    refine g_seq ?_
    refine g_seq ?_
    refine g_region ?_
    refine go_p rfl rfl rfl (o_assign rfl) ?_
    refine go_nil ?_
    obtain ⟨o_1, hj1, hm1⟩ := bind_some hm
    refine g_cut_m [] [] (fun (st : Unit) (hid : Unit) => match st, hid with | _, _ => []) (fun F (st : Unit) (hid : Unit) => match st, hid with | _, _ => []) (fun st => Out.go (st) = o_1) trivial trivial ?_ ?_
    · skip
      refine g_block ?_
      refine g_loop_m [(2, _), (3, _)] [] (fun (st : Int) (hid : Unit) => match st, hid with | i1, _ => [(5, .i64 i1)]) (fun F (st : Int) (hid : Unit) => match st, hid with | i1, _ => []) () hj1 (fun _ => rfl) ⟨rfl, rfl, trivial⟩ trivial ⟨rfl, trivial⟩ rfl ?_
      rintro n i1 _ hj1
      rw [m_syntagmalaw09_same_l1] at hj1
      refine g_norm (L' := [(5, .i64 i1), (2, _), (3, _)]) (ms' := []) rfl rfl ?_
      refine g_seq ?_
      refine g_seq ?_
      refine g_region ?_
      refine go_p rfl rfl rfl (o_move rfl) ?_
      refine go_p rfl rfl rfl (o_fieldAddr fi_37_0 rfl rfl rfl) ?_
      refine go_p rfl rfl rfl (o_load Try.isAgg35 rfl rfl) ?_
      refine go_p rfl rfl rfl (o_len Try.runUnderlying35 rfl) ?_
      refine go_p rfl rfl rfl (o_cmp rfl rfl rfl) ?_
      refine go_nil ?_
      refine g_cond rfl (fun hc2 => ?_) (fun hc2 => ?_)
      · replace hj1 := cond_t hc2 hj1
        refine g_skip ?_
        refine g_seq ?_
        refine g_block ?_
        refine g_seq ?_
        obtain ⟨x2, hx2, hj1⟩ := bind_some hj1
        obtain ⟨x3, hx3, hj1⟩ := bind_some hj1
        refine g_draw 13 Try_mixed (by decide +kernel) ?_
        refine gd_p rfl rfl rfl (o_fieldAddr fi_37_0 rfl rfl rfl) ?_
        refine gd_p rfl rfl rfl (o_load Try.isAgg35 rfl rfl) ?_
        refine gd_p rfl rfl rfl (o_move rfl) ?_
        refine gd_p rfl rfl rfl (o_indexAddr_m Try.runUnderlying35 Try.sizeOf40 rfl rfl hx2) ?_
        refine gd_p rfl rfl rfl (o_fieldAddr fi_40_8 rfl rfl rfl) ?_
        refine gd_p rfl rfl rfl (o_load Try.isAgg3 rfl rfl) ?_
        refine gd_p rfl rfl rfl (o_fieldAddr fi_37_0 rfl rfl rfl) ?_
        refine gd_p rfl rfl rfl (o_load Try.isAgg35 rfl rfl) ?_
        refine gd_p rfl rfl rfl (o_move rfl) ?_
        refine gd_p rfl rfl rfl (o_indexAddr_m Try.runUnderlying35 Try.sizeOf40 rfl rfl hx3) ?_
        refine gd_p rfl rfl rfl (o_fieldAddr fi_40_8 rfl rfl rfl) ?_
        refine gd_p rfl rfl rfl (o_load Try.isAgg3 rfl rfl) ?_
        refine gd_p rfl rfl rfl (o_cmp rfl rfl rfl) ?_
        refine gd_nil ?_
        refine go_nil ?_
        refine g_cond rfl (fun hc3 => ?_) (fun hc3 => ?_)
        · replace hj1 := cond_t hc3 hj1
          refine g_seq ?_
          refine g_region ?_
          refine go_p rfl rfl rfl (o_assign rfl) ?_
          refine go_nil ?_
          refine g_ret ?_
          obtain rfl := some_eq hj1
          replace hm1 := on_ret hm1
          exact retK (ret_one' rfl (ret_tmp rfl) (perm_drop _)) (congrArg (fun (p : Bool) => (.bool p : D)) (some_eq hm1))
        · replace hj1 := cond_f hc3 hj1
          refine g_skip ?_
          refine g_region ?_
          refine go_p rfl rfl rfl (o_move rfl) ?_
          obtain ⟨hg4, hj1⟩ := grd_some hj1
          refine go_p rfl rfl rfl (o_add rfl rfl (i64_id hg4)) ?_
          refine go_p rfl rfl rfl (o_assign rfl) ?_
          refine go_nil ?_
          exact ⟨_, (), hj1, ⟨rfl, trivial⟩, ⟨rfl, rfl, trivial⟩, [], rfl⟩
      · replace hj1 := cond_f hc2 hj1
        refine g_exit ?_
        exact ⟨_, (), some_eq hj1, trivial, trivial, [], rfl⟩
    · rintro _ _ hst
      subst hst
      replace hm1 := on_go hm1
      refine k_norm (L' := []) (ms' := []) rfl rfl ?_
      refine g_seq ?_
      refine g_region ?_
      refine go_p rfl rfl rfl (o_assign rfl) ?_
      refine go_nil ?_
      refine g_ret ?_
      exact retK (ret_one' rfl (ret_tmp rfl) (perm_drop _)) (congrArg (fun (p : Bool) => (.bool p : D)) (some_eq hm1))
def m_slices_IndexFunc_api_Field_api_Field_l1 (s1 : (List ApiField)) (f1 : (ApiField → Option Bool)) : Nat → Int → Option (Out Int Unit)
  | 0, _ => none
  | n + 1, x1 =>
    bif (decide (x1 < (s1.length : Int))) then
      (idx s1 x1).bind fun x2 =>
      (f1 x2).bind fun x3 =>
      bif x3 then
        some (Out.ret x1)
      else
        grd (InR (x1 + 1)) <|
        m_slices_IndexFunc_api_Field_api_Field_l1 s1 f1 n (x1 + 1)
    else
      some (Out.go (()))
def m_slices_IndexFunc_api_Field_api_Field (s1 : (List ApiField)) (f1 : (ApiField → Option Bool)) : Option Int :=
  ((m_slices_IndexFunc_api_Field_api_Field_l1 s1 f1 FU 0 : Option (Out Int Unit))).bind (fun oo => oo.on (fun r1 => some r1) (fun _ =>
  some (-1)))
theorem w_slices_IndexFunc_api_Field_api_Field {s1 : (List ApiField)} {f1 : (ApiField → Option Bool)} {r_1 : Int} {fv_f1 : D} (hff1 : FunOk1 Try.prog fv_f1 ApiField.d D.bool f1) (hm : m_slices_IndexFunc_api_Field_api_Field s1 f1 = some r_1) : Fn0 Try.prog 151 [.list 3 ApiField.d s1, fv_f1] (.i64 r_1) := by
  unfold m_slices_IndexFunc_api_Field_api_Field at hm
  refine fn_intro Try.func151 rfl Try.ntmps151 rfl fun H0 fr w0 => ?_
  refine g_seq ?_
  refine g_region ?_
  refine go_p rfl rfl rfl (o_assign rfl) ?_
  refine go_nil ?_
  refine g_seq ?_
  refine g_seq ?_
  refine g_region ?_
  refine go_p rfl rfl rfl (o_move rfl) ?_
  refine go_p rfl rfl rfl (o_len Try.runUnderlying38 rfl) ?_
  refine go_p rfl rfl rfl (o_move rfl) ?_
  refine go_nil ?_
  obtain ⟨o_1, hj1, hm1⟩ := bind_some hm
  refine g_cut_m [] [] (fun (st : Unit) (hid : Unit) => match st, hid with | _, _ => []) (fun F (st : Unit) (hid : Unit) => match st, hid with | _, _ => []) (fun st => Out.go (st) = o_1) trivial trivial ?_ ?_
  · skip
    refine g_block ?_
    refine g_loop_m [(0, _), (1, _), (7, _)] [] (fun (st : Int) (hid : Unit) => match st, hid with | x1, _ => [(8, .i64 x1)]) (fun F (st : Int) (hid : Unit) => match st, hid with | x1, _ => []) () hj1 (fun _ => rfl) ⟨rfl, rfl, rfl, trivial⟩ trivial ⟨rfl, trivial⟩ rfl ?_
    rintro n x1 _ hj1
    rw [m_slices_IndexFunc_api_Field_api_Field_l1] at hj1
    refine g_norm (L' := [(8, .i64 x1), (0, _), (1, _), (7, _)]) (ms' := []) rfl rfl ?_
    refine g_seq ?_
    refine g_region ?_
    refine go_p rfl rfl rfl (o_cmp rfl rfl rfl) ?_
    refine go_nil ?_
    refine g_seq ?_
    refine g_cond rfl (fun hc1 => ?_) (fun hc1 => ?_)
    · replace hj1 := cond_t hc1 hj1
      refine g_skip ?_
      refine g_seq ?_
      refine g_block ?_
      refine g_seq ?_
      refine g_region ?_
      refine go_p rfl rfl rfl (o_move rfl) ?_
      refine go_p rfl rfl rfl (o_assign rfl) ?_
      refine go_nil ?_
      refine g_seq ?_
      refine g_region ?_
      refine go_p rfl rfl rfl (o_move rfl) ?_
      refine go_p rfl rfl rfl (o_move rfl) ?_
      refine go_p rfl rfl rfl (o_move rfl) ?_
      obtain ⟨x2, hx1, hj1⟩ := bind_some hj1
      refine go_p rfl rfl rfl (o_indexAddr_m Try.runUnderlying38 Try.sizeOf102 rfl rfl hx1) ?_
      refine go_p rfl rfl rfl (o_load_agg Try.isAgg102 Try.sizeOf102 rfl rfl) ?_
      obtain ⟨x3, hx2, hj1⟩ := bind_some hj1
      refine go_p rfl rfl rfl (o_callv0 rfl rfl (hff1 _ _ hx2)) ?_
      refine go_nil ?_
      refine g_cond rfl (fun hc2 => ?_) (fun hc2 => ?_)
      · replace hj1 := cond_t hc2 hj1
        refine g_seq ?_
        refine g_region ?_
        refine go_p rfl rfl rfl (o_move rfl) ?_
        refine go_p rfl rfl rfl (o_assign rfl) ?_
        refine go_nil ?_
        refine g_ret ?_
        obtain rfl := some_eq hj1
        replace hm1 := on_ret hm1
        exact retK (ret_one' rfl (ret_tmp rfl) (perm_drop _)) (congrArg (fun (p : Int) => (.i64 p : D)) (some_eq hm1))
      · replace hj1 := cond_f hc2 hj1
        refine g_skip ?_
        refine g_region ?_
        obtain ⟨hg3, hj1⟩ := grd_some hj1
        refine go_p rfl rfl rfl (o_add rfl rfl (i64_id hg3)) ?_
        refine go_p rfl rfl rfl (o_move rfl) ?_
        refine go_nil ?_
        exact ⟨_, (), hj1, ⟨rfl, trivial⟩, ⟨rfl, rfl, rfl, trivial⟩, [], rfl⟩
    · replace hj1 := cond_f hc1 hj1
      refine g_exit ?_
      exact ⟨_, (), some_eq hj1, trivial, trivial, [], rfl⟩
  · rintro _ _ hst
    subst hst
    replace hm1 := on_go hm1
    refine k_norm (L' := []) (ms' := []) rfl rfl ?_
    refine g_seq ?_
    refine g_region ?_
    refine go_p rfl rfl rfl (o_assign rfl) ?_
    refine go_nil ?_
    refine g_ret ?_
    exact retK (ret_one' rfl (ret_tmp rfl) (perm_drop _)) (congrArg (fun (p : Int) => (.i64 p : D)) (some_eq hm1))
def m_slices_ContainsFunc_api_Field_api_Field (s1 : (List ApiField)) (f1 : (ApiField → Option Bool)) : Option Bool :=
  (m_slices_IndexFunc_api_Field_api_Field s1 f1).bind fun x1 =>
  some (decide (0 ≤ x1))
theorem w_slices_ContainsFunc_api_Field_api_Field {s1 : (List ApiField)} {f1 : (ApiField → Option Bool)} {r_1 : Bool} {fv_f1 : D} (hff1 : FunOk1 Try.prog fv_f1 ApiField.d D.bool f1) (hm : m_slices_ContainsFunc_api_Field_api_Field s1 f1 = some r_1) : Fn0 Try.prog 132 [.list 3 ApiField.d s1, fv_f1] (.bool r_1) := by
  unfold m_slices_ContainsFunc_api_Field_api_Field at hm
  refine fn_intro Try.func132 rfl Try.ntmps132 rfl fun H0 fr w0 => ?_
  refine g_seq ?_
  refine g_region ?_
  refine go_p rfl rfl rfl (o_assign rfl) ?_
  refine go_nil ?_
  refine g_seq ?_
  refine g_region ?_
  refine go_p rfl rfl rfl (o_move rfl) ?_
  refine go_p rfl rfl rfl (o_move rfl) ?_
  obtain ⟨x1, hx1, hm⟩ := bind_some hm
  refine go_p rfl rfl rfl (o_call0 Try.call151 rfl (w_slices_IndexFunc_api_Field_api_Field hff1 hx1)) ?_
  refine go_p rfl rfl rfl (o_cmp rfl rfl rfl) ?_
  refine go_p rfl rfl rfl (o_assign rfl) ?_
  refine go_nil ?_
  refine g_ret ?_
  exact retK (ret_one' rfl (ret_tmp rfl) (perm_drop _)) (congrArg (fun (p : Bool) => (.bool p : D)) (some_eq hm))
def m_subst_value_1 (self : ApiExpr → Int → Option Bool) (f1 : ApiField) (c1 : ApiExpr) : Option Bool :=
  (self c1 f1.at_).bind fun x1 =>
  some (!x1)
theorem w_subst_value_1 (self : ApiExpr → Int → Option Bool) (hself : ∀ {e_0 : ApiExpr} {e_1 : Int} {e_r : Bool}, self e_0 e_1 = some e_r → Fn0 Try.prog 101 [ApiExpr.d e_0, .i64 e_1] (.bool e_r)) {f1 : ApiField} {c1 : ApiExpr} {r_1 : Bool} (hm : m_subst_value_1 self f1 c1 = some r_1) : Fn0 Try.prog 133 [ApiField.d f1, .ref (ApiExpr.d c1)] (.bool r_1) := by
  unfold m_subst_value_1 at hm
  refine fn_intro Try.func133 rfl Try.ntmps133 rfl fun H0 fr w0 => ?_
  refine g_seq ?_
  refine g_region ?_
  refine go_p rfl rfl rfl (o_box rfl rfl) ?_
  refine go_p rfl rfl rfl (o_assign rfl) ?_
  refine go_nil ?_
  refine g_seq ?_
  refine g_region ?_
  refine go_p rfl rfl rfl (o_load_agg Try.isAgg37 Try.sizeOf37 rfl rfl) ?_
  refine go_p rfl rfl rfl (o_fieldAddr fi_102_2 rfl rfl rfl) ?_
  refine go_p rfl rfl rfl (o_load Try.isAgg3 rfl rfl) ?_
  obtain ⟨x1, hx1, hm⟩ := bind_some hm
  refine go_p rfl rfl rfl (o_call0 Try.call101 rfl (hself hx1)) ?_
  refine go_p rfl rfl rfl (o_not rfl) ?_
  refine go_p rfl rfl rfl (o_assign rfl) ?_
  refine go_nil ?_
  refine g_ret ?_
  exact retK (ret_one' rfl (ret_tmp rfl) (perm_drop _)) (congrArg (fun (p : Bool) => (.bool p : D)) (some_eq hm))
def m_subst_valueF (self : ApiExpr → Int → Option Bool) (e1 : ApiExpr) (i1 : Int)  : Option Bool :=
  (idx e1.l i1).bind fun x1 =>
  (bif (decide (x1.kind = 1)) then
    some (decide (x1.kind = 1))
  else
    bif (decide (x1.kind = 2)) then
      some (decide (x1.kind = 2))
    else
      bif (decide (x1.kind = 3)) then
        some (decide (x1.kind = 3))
      else
        some (decide (x1.kind = 5)) : Option Bool).bind fun x2 =>
  bif x2 then
    some true
  else
    bif (decide (x1.kind = 11)) then
      (m_slices_ContainsFunc_api_Field_api_Field x1.l (fun y0 => m_subst_value_1 self y0 e1)).bind fun x3 =>
      some (!x3)
    else
      bif (decide (x1.kind = 13)) then
        (self e1 x1.a).bind fun x4 =>
        some x4
      else
        some false
def m_subst_value  : Nat → ApiExpr → Int → Option Bool
  | 0 => fun _ _ => none
  | n + 1 => fun e1 i1 => m_subst_valueF (m_subst_value n) e1 i1
theorem wF_subst_value  (self : ApiExpr → Int → Option Bool) (hself : ∀ {e1 : ApiExpr} {i1 : Int} {r_1 : Bool}, self e1 i1 = some r_1 → Fn0 Try.prog 101 [ApiExpr.d e1, .i64 i1] (.bool r_1)) {e1 : ApiExpr} {i1 : Int} {r_1 : Bool} (hm : m_subst_valueF self e1 i1 = some r_1) : Fn0 Try.prog 101 [ApiExpr.d e1, .i64 i1] (.bool r_1) := by
  unfold m_subst_valueF at hm
  refine fn_intro Try.func101 rfl Try.ntmps101 rfl fun H0 fr w0 => ?_
  refine g_seq ?_
  refine g_region ?_
  refine go_p rfl rfl rfl (o_box rfl rfl) ?_
  refine go_p rfl rfl rfl (o_assign rfl) ?_
  refine go_nil ?_
  refine g_seq ?_
  refine g_seq ?_
  refine g_region ?_
  refine go_p rfl rfl rfl (o_fieldAddr fi_37_0 rfl rfl rfl) ?_
  refine go_p rfl rfl rfl (o_load Try.isAgg35 rfl rfl) ?_
  refine go_p rfl rfl rfl (o_move rfl) ?_
  obtain ⟨x1, hx1, hm⟩ := bind_some hm
  refine go_p rfl rfl rfl (o_indexAddr_m Try.runUnderlying35 Try.sizeOf40 rfl rfl hx1) ?_
  refine go_p rfl rfl rfl (o_load_agg Try.isAgg40 Try.sizeOf40 rfl rfl) ?_
  refine go_op rfl rfl rfl (o_alloc_own Try.zeroValue40 (cs := [.i64 0, .i64 0, .i64 0, .i64 0, .i64 0, .str ([] : List UInt8), .str ([] : List UInt8), .list 3 ApiField.d [], .i64 0]) rfl) ?_
  rintro _ _ ⟨b1, rfl, rfl⟩
  refine go_u rfl rfl (o_store_box 0 Try.sizeOf40 rfl rfl rfl rfl rfl rfl rfl rfl (Nat.le_of_ble_eq_true rfl)) ?_
  rintro _ _ rfl
  refine go_ms (ms' := [box b1 40 [_, _, _, _, _, _, _, _, _]]) rfl ?_
  refine go_nil ?_
  refine g_seq ?_
  refine g_region ?_
  refine go_p rfl rfl rfl (o_fieldAddr_box fi_40_0 rfl) ?_
  refine go_p rfl rfl rfl (o_load_box 0 Try.isAgg3 rfl rfl rfl rfl) ?_
  refine go_nil ?_
  refine g_block ?_
  refine g_seq ?_
  refine g_seq ?_
  refine g_region ?_
  refine go_p rfl rfl rfl (o_cmp rfl rfl rfl) ?_
  refine go_p rfl rfl rfl (o_assign rfl) ?_
  refine go_nil ?_
  obtain ⟨o_1, hj1, hm1⟩ := bind_some hm
  refine g_cut_m [(2, _), (5, _), (12, _)] [(0, _)] (fun (st : Bool) (hid : Unit) => match st, hid with | x2, _ => [(13, .bool x2)]) (fun F (st : Bool) (hid : Unit) => match st, hid with | x2, _ => [(nthF F 0)]) (fun st => st = o_1) ⟨rfl, rfl, rfl, trivial⟩ ⟨rfl, trivial⟩ ?_ ?_
  · skip
    refine g_cond rfl (fun hc1 => ?_) (fun hc1 => ?_)
    · replace hj1 := cond_t hc1 hj1
      refine g_skip ?_
      exact ⟨_, (), some_eq hj1, ⟨rfl, trivial⟩, ⟨rfl, rfl, rfl, trivial⟩, [], rfl⟩
    · replace hj1 := cond_f hc1 hj1
      refine g_seq ?_
      refine g_region ?_
      refine go_p rfl rfl rfl (o_cmp rfl rfl rfl) ?_
      refine go_p rfl rfl rfl (o_assign rfl) ?_
      refine go_nil ?_
      refine g_cond rfl (fun hc2 => ?_) (fun hc2 => ?_)
      · replace hj1 := cond_t hc2 hj1
        refine g_skip ?_
        exact ⟨_, (), some_eq hj1, ⟨rfl, trivial⟩, ⟨rfl, rfl, rfl, trivial⟩, [], rfl⟩
      · replace hj1 := cond_f hc2 hj1
        refine g_seq ?_
        refine g_region ?_
        refine go_p rfl rfl rfl (o_cmp rfl rfl rfl) ?_
        refine go_p rfl rfl rfl (o_assign rfl) ?_
        refine go_nil ?_
        refine g_cond rfl (fun hc3 => ?_) (fun hc3 => ?_)
        · replace hj1 := cond_t hc3 hj1
          refine g_skip ?_
          exact ⟨_, (), some_eq hj1, ⟨rfl, trivial⟩, ⟨rfl, rfl, rfl, trivial⟩, [], rfl⟩
        · replace hj1 := cond_f hc3 hj1
          refine g_region ?_
          refine go_p rfl rfl rfl (o_cmp rfl rfl rfl) ?_
          refine go_p rfl rfl rfl (o_assign rfl) ?_
          refine go_nil ?_
          exact ⟨_, (), some_eq hj1, ⟨rfl, trivial⟩, ⟨rfl, rfl, rfl, trivial⟩, [], rfl⟩
  · rintro x2 _ hst
    subst hst
    refine k_norm (L' := [(13, .bool x2), (2, _), (5, _), (12, _)]) (ms' := [_]) rfl rfl ?_
    refine g_cond rfl (fun hc4 => ?_) (fun hc4 => ?_)
    · replace hm1 := cond_t hc4 hm1
      refine g_seq ?_
      refine g_region ?_
      refine go_p rfl rfl rfl (o_assign rfl) ?_
      refine go_nil ?_
      refine g_ret ?_
      exact retK (ret_one' rfl (ret_tmp rfl) (perm_drop _)) (congrArg (fun (p : Bool) => (.bool p : D)) (some_eq hm1))
    · replace hm1 := cond_f hc4 hm1
      refine g_seq ?_
      refine g_region ?_
      refine go_p rfl rfl rfl (o_cmp rfl rfl rfl) ?_
      refine go_p rfl rfl rfl (o_assign rfl) ?_
      refine go_nil ?_
      refine g_cond rfl (fun hc5 => ?_) (fun hc5 => ?_)
      · replace hm1 := cond_t hc5 hm1
        refine g_seq ?_
        refine g_region ?_
        refine go_p rfl rfl rfl (o_fieldAddr_box fi_40_7 rfl) ?_
        refine go_p rfl rfl rfl (o_load_box 0 Try.isAgg38 rfl rfl rfl rfl) ?_
        refine go_p rfl rfl rfl (o_makeFunc rfl rfl) ?_
        obtain ⟨x3, hx2, hm1⟩ := bind_some hm1
        refine go_p rfl rfl rfl (o_call0 Try.call132 rfl (w_slices_ContainsFunc_api_Field_api_Field (fun _ _ h => fv_clo Try.call133 (w_subst_value_1 self (fun h => hself h) h)) hx2)) ?_
        refine go_p rfl rfl rfl (o_not rfl) ?_
        refine go_p rfl rfl rfl (o_assign rfl) ?_
        refine go_nil ?_
        refine g_ret ?_
        exact retK (ret_one' rfl (ret_tmp rfl) (perm_drop _)) (congrArg (fun (p : Bool) => (.bool p : D)) (some_eq hm1))
      · replace hm1 := cond_f hc5 hm1
        refine g_seq ?_
        refine g_region ?_
        refine go_p rfl rfl rfl (o_cmp rfl rfl rfl) ?_
        refine go_p rfl rfl rfl (o_assign rfl) ?_
        refine go_nil ?_
        refine g_cond rfl (fun hc6 => ?_) (fun hc6 => ?_)
        · replace hm1 := cond_t hc6 hm1
          refine g_seq ?_
          refine g_region ?_
          refine go_p rfl rfl rfl (o_load_agg Try.isAgg37 Try.sizeOf37 rfl rfl) ?_
          refine go_p rfl rfl rfl (o_fieldAddr_box fi_40_1 rfl) ?_
          refine go_p rfl rfl rfl (o_load_box 0 Try.isAgg3 rfl rfl rfl rfl) ?_
          obtain ⟨x4, hx3, hm1⟩ := bind_some hm1
          refine go_p rfl rfl rfl (o_call0 Try.call101 rfl (hself hx3)) ?_
          refine go_p rfl rfl rfl (o_assign rfl) ?_
          refine go_nil ?_
          refine g_ret ?_
          exact retK (ret_one' rfl (ret_tmp rfl) (perm_drop _)) (congrArg (fun (p : Bool) => (.bool p : D)) (some_eq hm1))
        · replace hm1 := cond_f hc6 hm1
          refine g_skip ?_
          refine g_seq ?_
          refine g_region ?_
          refine go_p rfl rfl rfl (o_assign rfl) ?_
          refine go_nil ?_
          refine g_ret ?_
          exact retK (ret_one' rfl (ret_tmp rfl) (perm_drop _)) (congrArg (fun (p : Bool) => (.bool p : D)) (some_eq hm1))
theorem wn_subst_value  : ∀ (n : Nat) {e1 : ApiExpr} {i1 : Int} {r_1 : Bool}, m_subst_value n e1 i1 = some r_1 → Fn0 Try.prog 101 [ApiExpr.d e1, .i64 i1] (.bool r_1)
  | 0 => by intros; rename_i h; cases h
  | n + 1 => by intros; rename_i h; exact wF_subst_value (m_subst_value n) (fun h => wn_subst_value n h) h
theorem w_subst_value  {e1 : ApiExpr} {i1 : Int} {r_1 : Bool} (hm : m_subst_value FU e1 i1 = some r_1) : Fn0 Try.prog 101 [ApiExpr.d e1, .i64 i1] (.bool r_1) := wn_subst_value FU hm
def m_subst_Value (e1 : ApiExpr) : Option Bool :=
  (m_tree_May e1).bind fun x1 =>
  (bif (decide (x1 = 0)) then (grd (InR ((e1.l.length : Int) - 1)) <|
  (m_subst_value FU e1 ((e1.l.length : Int) - 1)).bind fun x2 =>
  some x2) else (some false)).bind fun p1 =>
  some p1
theorem w_subst_Value {e1 : ApiExpr} {r_1 : Bool} (hm : m_subst_Value e1 = some r_1) : Fn0 Try.prog 65 [ApiExpr.d e1] (.bool r_1) := by
  unfold m_subst_Value at hm
  refine fn_intro Try.func65 rfl Try.ntmps65 rfl fun H0 fr w0 => ?_
  refine g_seq ?_
  refine g_region ?_
  refine go_p rfl rfl rfl (o_box rfl rfl) ?_
  refine go_p rfl rfl rfl (o_assign rfl) ?_
  refine go_nil ?_
  refine g_seq ?_
  refine g_region ?_
  refine go_p rfl rfl rfl (o_load_agg Try.isAgg37 Try.sizeOf37 rfl rfl) ?_
  obtain ⟨x1, hx1, hm⟩ := bind_some hm
  refine go_p rfl rfl rfl (o_call0 Try.call28 rfl (w_tree_May hx1)) ?_
  refine go_p rfl rfl rfl (o_cmp rfl rfl rfl) ?_
  refine go_p rfl rfl rfl (o_move rfl) ?_
  obtain ⟨p1, hp_1, hm⟩ := bind_some hm
  refine go_two [] 7 13 p1 (t := 6) trivial rfl (fun hg_1 hk1 => ?_) (fun hg_1 hk1 => ?_) ?_
  · replace hp_1 := cond_t hg_1 hp_1
    refine go_wantp rfl rfl rfl hg_1 rfl rfl (o_load_agg Try.isAgg37 Try.sizeOf37 rfl rfl) ?_
    refine go_wantp rfl rfl rfl hg_1 rfl rfl (o_fieldAddr fi_37_0 rfl rfl rfl) ?_
    refine go_wantp rfl rfl rfl hg_1 rfl rfl (o_load Try.isAgg35 rfl rfl) ?_
    refine go_wantp rfl rfl rfl hg_1 rfl rfl (o_len Try.runUnderlying35 rfl) ?_
    obtain ⟨hg2, hp_1⟩ := grd_some hp_1
    refine go_wantp rfl rfl rfl hg_1 rfl rfl (o_sub rfl rfl (i64_id hg2)) ?_
    obtain ⟨x2, hx3, hp_1⟩ := bind_some hp_1
    refine go_wantp rfl rfl rfl hg_1 rfl rfl (o_call0 Try.call101 rfl (w_subst_value hx3)) ?_
    refine go_p rfl rfl rfl (o_pickT rfl hg_1 rfl) ?_
    exact go_meet hk1 (congrArg (fun b => some (D.bool b)) (some_eq hp_1)) trivial
  · replace hp_1 := cond_f hg_1 hp_1
    refine go_skip rfl rfl rfl hg_1 rfl rfl ?_
    refine go_skip rfl rfl rfl hg_1 rfl rfl ?_
    refine go_skip rfl rfl rfl hg_1 rfl rfl ?_
    refine go_skip rfl rfl rfl hg_1 rfl rfl ?_
    refine go_skip rfl rfl rfl hg_1 rfl rfl ?_
    refine go_skip rfl rfl rfl hg_1 rfl rfl ?_
    refine go_p rfl rfl rfl (o_pickF rfl hg_1 rfl) ?_
    exact go_meet hk1 (congrArg (fun b => some (D.bool b)) (some_eq hp_1)) trivial
  refine go_p rfl rfl rfl (o_assign rfl) ?_
  refine go_nil ?_
  refine g_ret ?_
  exact retK (ret_one' rfl (ret_tmp rfl) (perm_drop _)) (congrArg (fun (p : Bool) => (.bool p : D)) (some_eq hm))
def m_syntagmalaw09_sum  : Option ApiExpr :=
  some (⟨[(⟨4, 0, 0, 0, 0, ([120] : List UInt8), ([] : List UInt8), ([] : List ApiField), 0⟩ : ApiNode), (⟨4, 0, 0, 0, 0, ([120] : List UInt8), ([] : List UInt8), ([] : List ApiField), 0⟩ : ApiNode), (⟨10, 0, 1, 0, 1, ([] : List UInt8), ([] : List UInt8), ([] : List ApiField), 0⟩ : ApiNode)]⟩ : ApiExpr)
theorem w_syntagmalaw09_sum  {r_1 : ApiExpr} (hm : m_syntagmalaw09_sum = some r_1) : Fn0 Try.prog 98 [] (ApiExpr.d r_1) := by
  unfold m_syntagmalaw09_sum at hm
  refine fn_intro Try.func98 rfl Try.ntmps98 rfl fun H0 fr w0 => ?_
  refine g_seq ?_
  refine g_region ?_
  refine go_op rfl rfl rfl (o_alloc_own Try.zeroValue37 (cs := [.list 9 ApiNode.d []]) rfl) ?_
  rintro _ _ ⟨b1, rfl, rfl⟩
  refine go_nil ?_
  refine g_seq ?_
  refine g_region ?_
  refine go_p rfl rfl rfl (o_build (zs := [.v (.int .i64 0), .v (.int .i64 0), .v (.int .i64 0), .v (.int .i64 0), .v (.int .i64 0), .str [], .str [], .list 3 ApiField.d [], .v (.int .i64 0)]) Try.runUnderlying40 Try.zeroValue40 (pl_40 _ Try.runUnderlying40) rfl rfl rfl rfl) ?_
  refine go_p rfl rfl rfl (o_build (zs := [.v (.int .i64 0), .v (.int .i64 0), .v (.int .i64 0), .v (.int .i64 0), .v (.int .i64 0), .str [], .str [], .list 3 ApiField.d [], .v (.int .i64 0)]) Try.runUnderlying40 Try.zeroValue40 (pl_40 _ Try.runUnderlying40) rfl rfl rfl rfl) ?_
  refine go_p rfl rfl rfl (o_build (zs := [.v (.int .i64 0), .v (.int .i64 0), .v (.int .i64 0), .v (.int .i64 0), .v (.int .i64 0), .str [], .str [], .list 3 ApiField.d [], .v (.int .i64 0)]) Try.runUnderlying40 Try.zeroValue40 (pl_40 _ Try.runUnderlying40) rfl rfl rfl rfl) ?_
  refine go_p rfl rfl rfl (o_buildSlice (xs := [_, _, _]) (f := ApiNode.d) (l := [(⟨4, 0, 0, 0, 0, ([120] : List UInt8), ([] : List UInt8), ([] : List ApiField), 0⟩ : ApiNode), (⟨4, 0, 0, 0, 0, ([120] : List UInt8), ([] : List UInt8), ([] : List ApiField), 0⟩ : ApiNode), (⟨10, 0, 1, 0, 1, ([] : List UInt8), ([] : List UInt8), ([] : List ApiField), 0⟩ : ApiNode)]) Try.runUnderlying35 Try.sizeOf40 Try.zeroValue40 rfl rfl rfl (fun _ => ⟨rfl, rfl, rfl⟩) rfl) ?_
  refine go_p rfl rfl rfl (o_build (zs := [.list 9 ApiNode.d []]) Try.runUnderlying37 Try.zeroValue37 (pl_37 _ Try.runUnderlying37) rfl rfl rfl rfl) ?_
  refine go_u rfl rfl (o_store_box 0 Try.sizeOf37 rfl rfl rfl rfl rfl rfl rfl rfl (Nat.le_of_ble_eq_true rfl)) ?_
  rintro _ _ rfl
  refine go_ms (ms' := [box b1 37 [_]]) rfl ?_
  refine go_nil ?_
  refine g_ret ?_
  exact retK (ret_one' rfl (ret_cell 0 rfl rfl rfl Try.isAgg37 Try.sizeOf37 rfl) (perm_drop _)) (congrArg (fun (p : ApiExpr) => (ApiExpr.d p : D)) (some_eq hm))
def m_syntagmalaw09_works  : Option Bool :=
  (m_syntagmalaw09_sum).bind fun x1 =>
  (m_subst_Put x1 ([120] : List UInt8) (⟨[(⟨1, 0, 0, 0, 5, ([] : List UInt8), ([] : List UInt8), ([] : List ApiField), 0⟩ : ApiNode)]⟩ : ApiExpr)).bind fun (x2, x3) =>
  (bif ((decide (x3 = 0)) && (decide ((x2.l.length : Int) = 3))) then ((idx x2.l 0).bind fun x4 =>
  some (decide (x4.kind = 1))) else (some false)).bind fun p1 =>
  (bif p1 then ((idx x2.l 1).bind fun x5 =>
  some (decide (x5.n_ = 5))) else (some false)).bind fun p2 =>
  (bif p2 then ((m_subst_Value (⟨[(⟨1, 0, 0, 0, 5, ([] : List UInt8), ([] : List UInt8), ([] : List ApiField), 0⟩ : ApiNode)]⟩ : ApiExpr)).bind fun x6 =>
  some x6) else (some false)).bind fun p3 =>
  (bif p3 then ((m_subst_Value (⟨x2.l⟩ : ApiExpr)).bind fun x7 =>
  some (!x7)) else (some false)).bind fun p4 =>
  some p4
theorem w_syntagmalaw09_works  {r_1 : Bool} (hm : m_syntagmalaw09_works = some r_1) : Fn0 Try.prog 60 [] (.bool r_1) := by
  unfold m_syntagmalaw09_works at hm
  refine fn_intro Try.func60 rfl Try.ntmps60 rfl fun H0 fr w0 => ?_
  refine g_seq ?_
  refine g_region ?_
  refine go_p rfl rfl rfl (o_assign rfl) ?_
  refine go_nil ?_
  refine g_seq ?_
  refine g_region ?_
  refine go_p rfl rfl rfl (o_build (zs := [.v (.int .i64 0), .v (.int .i64 0), .v (.int .i64 0), .v (.int .i64 0), .v (.int .i64 0), .str [], .str [], .list 3 ApiField.d [], .v (.int .i64 0)]) Try.runUnderlying40 Try.zeroValue40 (pl_40 _ Try.runUnderlying40) rfl rfl rfl rfl) ?_
  refine go_p rfl rfl rfl (o_buildSlice (xs := [_]) (f := ApiNode.d) (l := [(⟨1, 0, 0, 0, 5, ([] : List UInt8), ([] : List UInt8), ([] : List ApiField), 0⟩ : ApiNode)]) Try.runUnderlying35 Try.sizeOf40 Try.zeroValue40 rfl rfl rfl (fun _ => ⟨rfl, rfl, rfl⟩) rfl) ?_
  refine go_p rfl rfl rfl (o_build (zs := [.list 9 ApiNode.d []]) Try.runUnderlying37 Try.zeroValue37 (pl_37 _ Try.runUnderlying37) rfl rfl rfl rfl) ?_
  refine go_op rfl rfl rfl (o_alloc_own Try.zeroValue37 (cs := [.list 9 ApiNode.d []]) rfl) ?_
  rintro _ _ ⟨b1, rfl, rfl⟩
  refine go_u rfl rfl (o_store_box 0 Try.sizeOf37 rfl rfl rfl rfl rfl rfl rfl rfl (Nat.le_of_ble_eq_true rfl)) ?_
  rintro _ _ rfl
  refine go_ms (ms' := [box b1 37 [_]]) rfl ?_
  refine go_nil ?_
  refine g_seq ?_
  obtain ⟨x1, hx1, hm⟩ := bind_some hm
  obtain ⟨⟨x2, x3⟩, hx2, hm⟩ := bind_some hm
  refine g_draw_c [6, 7] [0, 1, 2, 3, 4, 5, 8] [1] Try_mixed (by decide +kernel) (by decide +kernel) rfl ?_
  refine gde_p rfl rfl rfl rfl rfl rfl (o_call0 Try.call98 rfl (w_syntagmalaw09_sum hx1)) ?_
  refine gde_f rfl rfl rfl rfl rfl (o_load_box_agg 0 Try.isAgg37 Try.sizeOf37 rfl rfl rfl rfl (Nat.le_of_ble_eq_true rfl)) ?_
  refine gde_p rfl rfl rfl rfl rfl rfl (o_call0 Try.call56 rfl (w_subst_Put hx2)) ?_
  refine gde_p rfl rfl rfl rfl rfl rfl (o_move rfl) ?_
  refine gde_p rfl rfl rfl rfl rfl rfl (o_extract rfl rfl) ?_
  refine gde_p rfl rfl rfl rfl rfl rfl (o_extract rfl rfl) ?_
  refine gde_e rfl ?_
  refine gde_e rfl ?_
  refine gde_p rfl rfl rfl rfl rfl rfl (o_assign rfl) ?_
  refine gde_nil ?_
  refine gde2_t rfl rfl rfl rfl (o_alloc_own Try.zeroValue37 (cs := [.list 9 ApiNode.d []]) rfl) ?_
  rintro _ _ ⟨b2, rfl, rfl⟩
  refine ⟨⟨trivial, o_load_box_agg 1 Try.isAgg37 Try.sizeOf37 rfl rfl rfl rfl (Nat.le_of_ble_eq_true rfl)⟩, ?_⟩
  refine gde2_u rfl rfl rfl (o_store_box 0 Try.sizeOf37 rfl rfl rfl rfl rfl rfl rfl rfl (Nat.le_of_ble_eq_true rfl)) ?_
  rintro _ _ rfl
  refine ⟨⟨trivial, o_load_box_agg 1 Try.isAgg37 Try.sizeOf37 rfl rfl rfl rfl (Nat.le_of_ble_eq_true rfl)⟩, ?_⟩
  refine gde2_nil ?_
  refine g_seq ?_
  refine g_region ?_
  refine go_p rfl rfl rfl (o_move rfl) ?_
  refine go_p rfl rfl rfl (o_cmp rfl rfl rfl) ?_
  refine go_p rfl rfl rfl (o_move rfl) ?_
  apply go_and [(1, _), (2, _)] 5 20 (t := 15) ⟨rfl, rfl, trivial⟩ rfl
  · intro hg_1 hk1
    refine go_wantp rfl rfl rfl hg_1 rfl rfl (o_fieldAddr_box fi_37_0 rfl) ?_
    refine go_wantp rfl rfl rfl hg_1 rfl rfl (o_load_box 0 Try.isAgg35 rfl rfl rfl rfl) ?_
    refine go_wantp rfl rfl rfl hg_1 rfl rfl (o_len Try.runUnderlying35 rfl) ?_
    refine go_wantp rfl rfl rfl hg_1 rfl rfl (o_cmp rfl rfl rfl) ?_
    refine go_p rfl rfl rfl (o_pickT rfl hg_1 rfl) ?_
    exact go_meet hk1 (rfl) ⟨rfl, rfl, trivial⟩
  · intro hg_1 hk1
    refine go_skip rfl rfl rfl hg_1 rfl rfl ?_
    refine go_skip rfl rfl rfl hg_1 rfl rfl ?_
    refine go_skip rfl rfl rfl hg_1 rfl rfl ?_
    refine go_skip rfl rfl rfl hg_1 rfl rfl ?_
    refine go_p rfl rfl rfl (o_pickF rfl hg_1 rfl) ?_
    exact go_meet hk1 (rfl) ⟨rfl, rfl, trivial⟩
  refine go_p rfl rfl rfl (o_move rfl) ?_
  obtain ⟨p1, hp_2, hm⟩ := bind_some hm
  refine go_two [(1, _), (2, _)] 7 28 p1 (t := 21) ⟨rfl, rfl, trivial⟩ rfl (fun hg_2 hk2 => ?_) (fun hg_2 hk2 => ?_) ?_
  · replace hp_2 := cond_t hg_2 hp_2
    refine go_wantp rfl rfl rfl hg_2 rfl rfl (o_fieldAddr_box fi_37_0 rfl) ?_
    refine go_wantp rfl rfl rfl hg_2 rfl rfl (o_load_box 0 Try.isAgg35 rfl rfl rfl rfl) ?_
    obtain ⟨x4, hx3, hp_2⟩ := bind_some hp_2
    refine go_wantp rfl rfl rfl hg_2 rfl rfl (o_indexAddr_m Try.runUnderlying35 Try.sizeOf40 rfl rfl hx3) ?_
    refine go_wantp rfl rfl rfl hg_2 rfl rfl (o_fieldAddr fi_40_0 rfl rfl rfl) ?_
    refine go_wantp rfl rfl rfl hg_2 rfl rfl (o_load Try.isAgg3 rfl rfl) ?_
    refine go_wantp rfl rfl rfl hg_2 rfl rfl (o_cmp rfl rfl rfl) ?_
    refine go_p rfl rfl rfl (o_pickT rfl hg_2 rfl) ?_
    exact go_meet hk2 (congrArg (fun b => some (D.bool b)) (some_eq hp_2)) ⟨rfl, rfl, trivial⟩
  · replace hp_2 := cond_f hg_2 hp_2
    refine go_skip rfl rfl rfl hg_2 rfl rfl ?_
    refine go_skip rfl rfl rfl hg_2 rfl rfl ?_
    refine go_skip rfl rfl rfl hg_2 rfl rfl ?_
    refine go_skip rfl rfl rfl hg_2 rfl rfl ?_
    refine go_skip rfl rfl rfl hg_2 rfl rfl ?_
    refine go_skip rfl rfl rfl hg_2 rfl rfl ?_
    refine go_p rfl rfl rfl (o_pickF rfl hg_2 rfl) ?_
    exact go_meet hk2 (congrArg (fun b => some (D.bool b)) (some_eq hp_2)) ⟨rfl, rfl, trivial⟩
  refine go_p rfl rfl rfl (o_move rfl) ?_
  obtain ⟨p2, hp_3, hm⟩ := bind_some hm
  refine go_two [(1, _), (2, _)] 7 36 p2 (t := 29) ⟨rfl, rfl, trivial⟩ rfl (fun hg_3 hk3 => ?_) (fun hg_3 hk3 => ?_) ?_
  · replace hp_3 := cond_t hg_3 hp_3
    refine go_wantp rfl rfl rfl hg_3 rfl rfl (o_fieldAddr_box fi_37_0 rfl) ?_
    refine go_wantp rfl rfl rfl hg_3 rfl rfl (o_load_box 0 Try.isAgg35 rfl rfl rfl rfl) ?_
    obtain ⟨x5, hx4, hp_3⟩ := bind_some hp_3
    refine go_wantp rfl rfl rfl hg_3 rfl rfl (o_indexAddr_m Try.runUnderlying35 Try.sizeOf40 rfl rfl hx4) ?_
    refine go_wantp rfl rfl rfl hg_3 rfl rfl (o_fieldAddr fi_40_4 rfl rfl rfl) ?_
    refine go_wantp rfl rfl rfl hg_3 rfl rfl (o_load Try.isAgg2 rfl rfl) ?_
    refine go_wantp rfl rfl rfl hg_3 rfl rfl (o_cmp rfl rfl rfl) ?_
    refine go_p rfl rfl rfl (o_pickT rfl hg_3 rfl) ?_
    exact go_meet hk3 (congrArg (fun b => some (D.bool b)) (some_eq hp_3)) ⟨rfl, rfl, trivial⟩
  · replace hp_3 := cond_f hg_3 hp_3
    refine go_skip rfl rfl rfl hg_3 rfl rfl ?_
    refine go_skip rfl rfl rfl hg_3 rfl rfl ?_
    refine go_skip rfl rfl rfl hg_3 rfl rfl ?_
    refine go_skip rfl rfl rfl hg_3 rfl rfl ?_
    refine go_skip rfl rfl rfl hg_3 rfl rfl ?_
    refine go_skip rfl rfl rfl hg_3 rfl rfl ?_
    refine go_p rfl rfl rfl (o_pickF rfl hg_3 rfl) ?_
    exact go_meet hk3 (congrArg (fun b => some (D.bool b)) (some_eq hp_3)) ⟨rfl, rfl, trivial⟩
  refine go_p rfl rfl rfl (o_move rfl) ?_
  obtain ⟨p3, hp_4, hm⟩ := bind_some hm
  refine go_two [(2, _)] 3 40 p3 (t := 37) ⟨rfl, trivial⟩ rfl (fun hg_4 hk4 => ?_) (fun hg_4 hk4 => ?_) ?_
  · replace hp_4 := cond_t hg_4 hp_4
    refine go_wantp rfl rfl rfl hg_4 rfl rfl (o_load_box_agg 1 Try.isAgg37 Try.sizeOf37 rfl rfl rfl rfl (Nat.le_of_ble_eq_true rfl)) ?_
    obtain ⟨x6, hx5, hp_4⟩ := bind_some hp_4
    refine go_wantp rfl rfl rfl hg_4 rfl rfl (o_call0 Try.call65 rfl (w_subst_Value hx5)) ?_
    refine go_p rfl rfl rfl (o_pickT rfl hg_4 rfl) ?_
    exact go_meet hk4 (congrArg (fun b => some (D.bool b)) (some_eq hp_4)) ⟨rfl, trivial⟩
  · replace hp_4 := cond_f hg_4 hp_4
    refine go_skip rfl rfl rfl hg_4 rfl rfl ?_
    refine go_skip rfl rfl rfl hg_4 rfl rfl ?_
    refine go_p rfl rfl rfl (o_pickF rfl hg_4 rfl) ?_
    exact go_meet hk4 (congrArg (fun b => some (D.bool b)) (some_eq hp_4)) ⟨rfl, trivial⟩
  refine go_p rfl rfl rfl (o_move rfl) ?_
  obtain ⟨p4, hp_5, hm⟩ := bind_some hm
  refine go_two [] 4 45 p4 (t := 41) trivial rfl (fun hg_5 hk5 => ?_) (fun hg_5 hk5 => ?_) ?_
  · replace hp_5 := cond_t hg_5 hp_5
    refine go_wantp rfl rfl rfl hg_5 rfl rfl (o_load_box_agg 0 Try.isAgg37 Try.sizeOf37 rfl rfl rfl rfl (Nat.le_of_ble_eq_true rfl)) ?_
    obtain ⟨x7, hx6, hp_5⟩ := bind_some hp_5
    refine go_wantp rfl rfl rfl hg_5 rfl rfl (o_call0 Try.call65 rfl (w_subst_Value hx6)) ?_
    refine go_wantp rfl rfl rfl hg_5 rfl rfl (o_not rfl) ?_
    refine go_p rfl rfl rfl (o_pickT rfl hg_5 rfl) ?_
    exact go_meet hk5 (congrArg (fun b => some (D.bool b)) (some_eq hp_5)) trivial
  · replace hp_5 := cond_f hg_5 hp_5
    refine go_skip rfl rfl rfl hg_5 rfl rfl ?_
    refine go_skip rfl rfl rfl hg_5 rfl rfl ?_
    refine go_skip rfl rfl rfl hg_5 rfl rfl ?_
    refine go_p rfl rfl rfl (o_pickF rfl hg_5 rfl) ?_
    exact go_meet hk5 (congrArg (fun b => some (D.bool b)) (some_eq hp_5)) trivial
  refine go_p rfl rfl rfl (o_assign rfl) ?_
  refine go_nil ?_
  refine g_ret ?_
  exact retK (ret_one' rfl (ret_tmp rfl) (perm_drop _)) (congrArg (fun (p : Bool) => (.bool p : D)) (some_eq hm))
def m_syntagmalaw09_SubstPuts (e1 : ApiExpr) (x1 : (List UInt8)) (v1 : ApiExpr) : Option Bool :=
  (m_syntagmalaw05_Few (⟨e1.l⟩ : ApiExpr)).bind fun x2 =>
  (m_syntagmalaw05_Few (⟨v1.l⟩ : ApiExpr)).bind fun x3 =>
  (sli x1 0 (if 50 < (x1.length : Int) then 50 else (x1.length : Int))).bind fun s1 =>
  (m_syntagmalaw05_Few (⟨x2.l⟩ : ApiExpr)).bind fun x4 =>
  (m_syntagmalaw05_Few (⟨x3.l⟩ : ApiExpr)).bind fun x5 =>
  (m_subst_Put x4 s1 x5).bind fun (x6, x7) =>
  (m_syntagmaref03_Name s1).bind fun x8 =>
  (m_syntagmaref09_Put (⟨x2.l⟩ : ApiExpr) s1 (⟨x3.l⟩ : ApiExpr) x8).bind fun (x9, x10) =>
  (m_syntagmalaw09_same (⟨x6.l⟩ : ApiExpr) (⟨x9.l⟩ : ApiExpr)).bind fun x11 =>
  (bif (x11 && (decide (x7 = x10))) then ((m_syntagmalaw09_works).bind fun x12 =>
  some x12) else (some false)).bind fun p1 =>
  some p1
theorem w_syntagmalaw09_SubstPuts {e1 : ApiExpr} {x1 : (List UInt8)} {v1 : ApiExpr} {r_1 : Bool} (hm : m_syntagmalaw09_SubstPuts e1 x1 v1 = some r_1) : Fn0 Try.prog 12 [ApiExpr.d e1, .str x1, ApiExpr.d v1] (.bool r_1) := by
  unfold m_syntagmalaw09_SubstPuts at hm
  refine fn_intro Try.func12 rfl Try.ntmps12 rfl fun H0 fr w0 => ?_
  refine g_seq ?_
  refine g_region ?_
  refine go_op rfl rfl rfl (o_box_own rfl rfl rfl) ?_
  rintro _ _ ⟨b1, rfl, rfl⟩
  refine go_op rfl rfl rfl (o_box_own rfl rfl rfl) ?_
  rintro _ _ ⟨b2, rfl, rfl⟩
  refine go_p rfl rfl rfl (o_assign rfl) ?_
  refine go_nil ?_
  refine g_seq ?_
  obtain ⟨x2, hx1, hm⟩ := bind_some hm
  obtain ⟨x3, hx2, hm⟩ := bind_some hm
  obtain ⟨s1, hx3, hm⟩ := bind_some hm
  refine g_draw_c [9, 10] [4, 5, 6, 7, 8, 11] [] Try_mixed (by decide +kernel) (by decide +kernel) rfl ?_
  refine gde_p rfl rfl rfl rfl rfl rfl (o_load_box_agg 1 Try.isAgg37 Try.sizeOf37 rfl rfl rfl rfl (Nat.le_of_ble_eq_true rfl)) ?_
  refine gde_p rfl rfl rfl rfl rfl rfl (o_call0 Try.call25 rfl (w_syntagmalaw05_Few hx1)) ?_
  refine gde_p rfl rfl rfl rfl rfl rfl (o_load_box_agg 0 Try.isAgg37 Try.sizeOf37 rfl rfl rfl rfl (Nat.le_of_ble_eq_true rfl)) ?_
  refine gde_p rfl rfl rfl rfl rfl rfl (o_call0 Try.call25 rfl (w_syntagmalaw05_Few hx2)) ?_
  refine gde_p rfl rfl rfl rfl rfl rfl (o_move rfl) ?_
  refine gde_p rfl rfl rfl rfl rfl rfl (o_move rfl) ?_
  refine gde_p rfl rfl rfl rfl rfl rfl (o_len_str Try.runUnderlying9 rfl) ?_
  refine gde_p rfl rfl rfl rfl rfl rfl (o_min rfl rfl) ?_
  refine gde_p rfl rfl rfl rfl rfl rfl (o_slice_str_m Try.runUnderlying9 rfl rfl ⟨_, rfl⟩ hx3) ?_
  refine gde_e rfl ?_
  refine gde_e rfl ?_
  refine gde_p rfl rfl rfl rfl rfl rfl (o_assign rfl) ?_
  refine gde_nil ?_
  refine gde2_u rfl rfl rfl (o_store_box 1 Try.sizeOf37 rfl rfl rfl rfl rfl rfl rfl rfl (Nat.le_of_ble_eq_true rfl)) ?_
  rintro _ _ rfl
  refine ⟨(trivial : True), ?_⟩
  refine gde2_u rfl rfl rfl (o_store_box 0 Try.sizeOf37 rfl rfl rfl rfl rfl rfl rfl rfl (Nat.le_of_ble_eq_true rfl)) ?_
  rintro _ _ rfl
  refine ⟨(trivial : True), ?_⟩
  refine gde2_nil ?_
  refine g_seq ?_
  obtain ⟨x4, hx4, hm⟩ := bind_some hm
  obtain ⟨x5, hx5, hm⟩ := bind_some hm
  obtain ⟨⟨x6, x7⟩, hx6, hm⟩ := bind_some hm
  refine g_draw_c [9, 10] [0, 1, 2, 3, 4, 5, 6, 7, 8, 11] [0, 3] Try_mixed (by decide +kernel) (by decide +kernel) rfl ?_
  refine gde_f rfl rfl rfl rfl rfl (o_load_box_agg 1 Try.isAgg37 Try.sizeOf37 rfl rfl rfl rfl (Nat.le_of_ble_eq_true rfl)) ?_
  refine gde_p rfl rfl rfl rfl rfl rfl (o_call0 Try.call25 rfl (w_syntagmalaw05_Few hx4)) ?_
  refine gde_p rfl rfl rfl rfl rfl rfl (o_move rfl) ?_
  refine gde_f rfl rfl rfl rfl rfl (o_load_box_agg 0 Try.isAgg37 Try.sizeOf37 rfl rfl rfl rfl (Nat.le_of_ble_eq_true rfl)) ?_
  refine gde_p rfl rfl rfl rfl rfl rfl (o_call0 Try.call25 rfl (w_syntagmalaw05_Few hx5)) ?_
  refine gde_p rfl rfl rfl rfl rfl rfl (o_call0 Try.call56 rfl (w_subst_Put hx6)) ?_
  refine gde_p rfl rfl rfl rfl rfl rfl (o_move rfl) ?_
  refine gde_p rfl rfl rfl rfl rfl rfl (o_extract rfl rfl) ?_
  refine gde_p rfl rfl rfl rfl rfl rfl (o_extract rfl rfl) ?_
  refine gde_e rfl ?_
  refine gde_e rfl ?_
  refine gde_p rfl rfl rfl rfl rfl rfl (o_assign rfl) ?_
  refine gde_nil ?_
  refine gde2_t rfl rfl rfl rfl (o_alloc_own Try.zeroValue37 (cs := [.list 9 ApiNode.d []]) rfl) ?_
  rintro _ _ ⟨b3, rfl, rfl⟩
  refine ⟨⟨⟨trivial, o_load_box_agg 2 Try.isAgg37 Try.sizeOf37 rfl rfl rfl rfl (Nat.le_of_ble_eq_true rfl)⟩, o_load_box_agg 1 Try.isAgg37 Try.sizeOf37 rfl rfl rfl rfl (Nat.le_of_ble_eq_true rfl)⟩, ?_⟩
  refine gde2_u rfl rfl rfl (o_store_box 0 Try.sizeOf37 rfl rfl rfl rfl rfl rfl rfl rfl (Nat.le_of_ble_eq_true rfl)) ?_
  rintro _ _ rfl
  refine ⟨⟨⟨trivial, o_load_box_agg 2 Try.isAgg37 Try.sizeOf37 rfl rfl rfl rfl (Nat.le_of_ble_eq_true rfl)⟩, o_load_box_agg 1 Try.isAgg37 Try.sizeOf37 rfl rfl rfl rfl (Nat.le_of_ble_eq_true rfl)⟩, ?_⟩
  refine gde2_nil ?_
  refine g_seq ?_
  obtain ⟨x8, hx7, hm⟩ := bind_some hm
  obtain ⟨⟨x9, x10⟩, hx8, hm⟩ := bind_some hm
  refine g_draw_c [9, 10] [0, 1, 2, 3, 4, 5, 6, 7, 8, 11] [0, 2] Try_mixed (by decide +kernel) (by decide +kernel) rfl ?_
  refine gde_f rfl rfl rfl rfl rfl (o_load_box_agg 2 Try.isAgg37 Try.sizeOf37 rfl rfl rfl rfl (Nat.le_of_ble_eq_true rfl)) ?_
  refine gde_p rfl rfl rfl rfl rfl rfl (o_move rfl) ?_
  refine gde_f rfl rfl rfl rfl rfl (o_load_box_agg 1 Try.isAgg37 Try.sizeOf37 rfl rfl rfl rfl (Nat.le_of_ble_eq_true rfl)) ?_
  refine gde_p rfl rfl rfl rfl rfl rfl (o_move rfl) ?_
  refine gde_p rfl rfl rfl rfl rfl rfl (o_call0 Try.call58 rfl (w_syntagmaref03_Name hx7)) ?_
  refine gde_p rfl rfl rfl rfl rfl rfl (o_call0 Try.call57 rfl (w_syntagmaref09_Put hx8)) ?_
  refine gde_p rfl rfl rfl rfl rfl rfl (o_move rfl) ?_
  refine gde_p rfl rfl rfl rfl rfl rfl (o_extract rfl rfl) ?_
  refine gde_p rfl rfl rfl rfl rfl rfl (o_extract rfl rfl) ?_
  refine gde_e rfl ?_
  refine gde_e rfl ?_
  refine gde_p rfl rfl rfl rfl rfl rfl (o_assign rfl) ?_
  refine gde_nil ?_
  refine gde2_t rfl rfl rfl rfl (o_alloc_own Try.zeroValue37 (cs := [.list 9 ApiNode.d []]) rfl) ?_
  rintro _ _ ⟨b4, rfl, rfl⟩
  refine ⟨⟨⟨trivial, o_load_box_agg 3 Try.isAgg37 Try.sizeOf37 rfl rfl rfl rfl (Nat.le_of_ble_eq_true rfl)⟩, o_load_box_agg 2 Try.isAgg37 Try.sizeOf37 rfl rfl rfl rfl (Nat.le_of_ble_eq_true rfl)⟩, ?_⟩
  refine gde2_u rfl rfl rfl (o_store_box 0 Try.sizeOf37 rfl rfl rfl rfl rfl rfl rfl rfl (Nat.le_of_ble_eq_true rfl)) ?_
  rintro _ _ rfl
  refine ⟨⟨⟨trivial, o_load_box_agg 3 Try.isAgg37 Try.sizeOf37 rfl rfl rfl rfl (Nat.le_of_ble_eq_true rfl)⟩, o_load_box_agg 2 Try.isAgg37 Try.sizeOf37 rfl rfl rfl rfl (Nat.le_of_ble_eq_true rfl)⟩, ?_⟩
  refine gde2_nil ?_
  refine g_seq ?_
  refine g_region ?_
  refine go_p rfl rfl rfl (o_load_box_agg 1 Try.isAgg37 Try.sizeOf37 rfl rfl rfl rfl (Nat.le_of_ble_eq_true rfl)) ?_
  refine go_p rfl rfl rfl (o_load_box_agg 0 Try.isAgg37 Try.sizeOf37 rfl rfl rfl rfl (Nat.le_of_ble_eq_true rfl)) ?_
  obtain ⟨x11, hx9, hm⟩ := bind_some hm
  refine go_p rfl rfl rfl (o_call0 Try.call59 rfl (w_syntagmalaw09_same hx9)) ?_
  refine go_p rfl rfl rfl (o_move rfl) ?_
  apply go_and [] 4 45 (t := 41) trivial rfl
  · intro hg_1 hk1
    refine go_wantp rfl rfl rfl hg_1 rfl rfl (o_move rfl) ?_
    refine go_wantp rfl rfl rfl hg_1 rfl rfl (o_move rfl) ?_
    refine go_wantp rfl rfl rfl hg_1 rfl rfl (o_cmp rfl rfl rfl) ?_
    refine go_p rfl rfl rfl (o_pickT rfl hg_1 rfl) ?_
    exact go_meet hk1 (rfl) trivial
  · intro hg_1 hk1
    refine go_skip rfl rfl rfl hg_1 rfl rfl ?_
    refine go_skip rfl rfl rfl hg_1 rfl rfl ?_
    refine go_skip rfl rfl rfl hg_1 rfl rfl ?_
    refine go_p rfl rfl rfl (o_pickF rfl hg_1 rfl) ?_
    exact go_meet hk1 (rfl) trivial
  refine go_p rfl rfl rfl (o_move rfl) ?_
  obtain ⟨p1, hp_2, hm⟩ := bind_some hm
  refine go_two [] 2 48 p1 (t := 46) trivial rfl (fun hg_2 hk2 => ?_) (fun hg_2 hk2 => ?_) ?_
  · replace hp_2 := cond_t hg_2 hp_2
    obtain ⟨x12, hx10, hp_2⟩ := bind_some hp_2
    refine go_wantp rfl rfl rfl hg_2 rfl rfl (o_call0 Try.call60 rfl (w_syntagmalaw09_works hx10)) ?_
    refine go_p rfl rfl rfl (o_pickT rfl hg_2 rfl) ?_
    exact go_meet hk2 (congrArg (fun b => some (D.bool b)) (some_eq hp_2)) trivial
  · replace hp_2 := cond_f hg_2 hp_2
    refine go_skip rfl rfl rfl hg_2 rfl rfl ?_
    refine go_p rfl rfl rfl (o_pickF rfl hg_2 rfl) ?_
    exact go_meet hk2 (congrArg (fun b => some (D.bool b)) (some_eq hp_2)) trivial
  refine go_p rfl rfl rfl (o_assign rfl) ?_
  refine go_nil ?_
  refine g_ret ?_
  exact retK (ret_one' rfl (ret_tmp rfl) (perm_drop _)) (congrArg (fun (p : Bool) => (.bool p : D)) (some_eq hm))
end Go.Proofs.Ytnnjgbcojdnhhaa
set_option linter.unusedVariables false
set_option linter.unusedSimpArgs false
set_option maxRecDepth 100000
namespace Go.Proofs.Ytnnjgbcojdnhhaa
open Go.V
open Classical
theorem FUv : FU = 18446744073709551616 := rfl
theorem bt (b c : Bool) : (bif b then some true else some c : Option Bool) = some (b || c) := by cases b <;> rfl
theorem bf (b c : Bool) : (bif b then some c else some false : Option Bool) = some (b && c) := by cases b <;> rfl
def smallB (c : UInt8) : Bool := (decide (97 ≤ (c.toNat : Int)) && decide ((c.toNat : Int) ≤ 122)) || decide ((c.toNat : Int) = 95)
def greatB (c : UInt8) : Bool := decide (65 ≤ (c.toNat : Int)) && decide ((c.toNat : Int) ≤ 90)
def moreB (c : UInt8) : Bool := (smallB c || greatB c) || (decide (48 ≤ (c.toNat : Int)) && decide ((c.toNat : Int) ≤ 57))
def wordP : List UInt8 → Nat
  | [] => 0
  | c :: r => if smallB c = true ∨ greatB c = true then 1 + (r.takeWhile moreB).length else 0
theorem word_c (c : UInt8) (r : List UInt8) : wordP (c :: r) = if smallB c = true ∨ greatB c = true then 1 + (r.takeWhile moreB).length else 0 := rfl
theorem word_eq (s : List UInt8) (h : s.length ≤ 1000000000000) : m_name_Word s = some (wordP s : Int) := by
  unfold m_name_Word
  rcases s with _ | ⟨c, r⟩
  · rfl
  · rw [decide_eq_false (by simp), cond_false, idx_c0, Option.bind_some]
    simp only [m_name_small, m_name_great, Option.bind_some, bf]
    rw [show (((decide (97 ≤ (c.toNat : Int))) && (decide ((c.toNat : Int) ≤ 122))) || (decide ((c.toNat : Int) = 95))) = smallB c from rfl, show ((decide (65 ≤ (c.toNat : Int))) && (decide ((c.toNat : Int) ≤ 90))) = greatB c from rfl]
    rw [word_c]
    cases h1 : smallB c || greatB c with
    | false =>
      simp only [Bool.or_eq_false_iff] at h1
      rw [h1.1, h1.2]; simp
    | true =>
      rw [if_pos (by simpa using h1)]
      have : (!smallB c && !greatB c) = false := by cases hs : smallB c <;> cases hg : greatB c <;> simp_all
      rw [this, cond_false]
      simp only [List.length_cons] at h
      refine bnd (loop_while (φ := m_name_Word_l1 (c :: r)) (l := c :: r) moreB (fun i => (i : Int)) ?_ ?_ FU 1 (by simp) (by rw [FUv]; simp; omega)) rfl
      · intro n i x hx hi
        simp only [List.length_cons] at hi
        simp only [m_name_Word_l1]
        rw [decide_eq_true (by simp only [List.length_cons]; omega), cond_true, getI hx, Option.bind_some]
        simp only [m_name_more, m_name_small, m_name_great, Option.bind_some, bt]
        constructor
        · intro hq
          simp only [moreB, smallB, greatB] at hq
          rw [hq, cond_true, grd_pos (by omega)]
        · intro hq
          simp only [moreB, smallB, greatB] at hq
          rw [hq, cond_false]
      · intro n
        simp only [m_name_Word_l1]
        rw [decide_eq_false (by omega), cond_false, Option.bind_some, cond_false]
theorem rword_eq (s : List UInt8) (h : s.length ≤ 1000000000000) : m_syntagmaref03_Word s = some (wordP s : Int) := by
  unfold m_syntagmaref03_Word
  rcases s with _ | ⟨c, r⟩
  · rfl
  · rw [decide_eq_false (by simp; omega), cond_false, idx_c0, Option.bind_some]
    simp only [m_syntagmaref03_small, m_syntagmaref03_great, Option.bind_some, bf]
    rw [show (((decide (97 ≤ (c.toNat : Int))) && (decide ((c.toNat : Int) ≤ 122))) || (decide ((c.toNat : Int) = 95))) = smallB c from rfl, show ((decide (65 ≤ (c.toNat : Int))) && (decide ((c.toNat : Int) ≤ 90))) = greatB c from rfl]
    rw [word_c]
    cases h1 : smallB c || greatB c with
    | false =>
      simp only [Bool.or_eq_false_iff] at h1
      rw [h1.1, h1.2]; simp
    | true =>
      rw [if_pos (by simpa using h1)]
      have : (!smallB c && !greatB c) = false := by cases hs : smallB c <;> cases hg : greatB c <;> simp_all
      rw [this, cond_false]
      simp only [List.length_cons] at h
      refine bnd (loop_while (φ := m_syntagmaref03_Word_l1 (c :: r)) (l := c :: r) moreB (fun i => (i : Int)) ?_ ?_ FU 1 (by simp) (by rw [FUv]; simp; omega)) rfl
      · intro n i x hx hi
        simp only [List.length_cons] at hi
        simp only [m_syntagmaref03_Word_l1]
        rw [decide_eq_true (by simp only [List.length_cons]; omega), cond_true, getI hx, Option.bind_some]
        simp only [m_syntagmaref03_small, m_syntagmaref03_great, Option.bind_some, bt, bf]
        constructor
        · intro hq
          simp only [moreB, smallB, greatB] at hq
          rw [hq, cond_true, grd_pos (by omega)]
        · intro hq
          simp only [moreB, smallB, greatB] at hq
          rw [hq, cond_false]
      · intro n
        simp only [m_syntagmaref03_Word_l1]
        rw [decide_eq_false (by omega), cond_false, Option.bind_some, cond_false]
def keysL : List (List UInt8) := match m_name_Keywords with | some l => l | none => []
theorem keys_eq : m_name_Keywords = some keysL := rfl
theorem rkeys_eq : m_syntagmaref03_Keywords = some keysL := rfl
theorem isKey_eq (l : List (List UInt8)) (s : List UInt8) (h : l.length ≤ 1000) : m_slices_Contains_string_string l s = some (decide (s ∈ l)) := by
  unfold m_slices_Contains_string_string m_slices_Index_string_string
  have e := loop_find (φ := m_slices_Index_string_string_l1 l s) (l := l) (fun i => (i : Int)) (fun x => decide (s = x)) (by
    intro n i x hx hi
    simp only [m_slices_Index_string_string_l1]
    rw [decide_eq_true (show (i : Int) < l.length by omega), cond_true, getI hx, Option.bind_some]
    constructor
    · intro hq; rw [show decide (s = x) = false from by simpa using hq, cond_false, grd_pos (by omega)]
    · intro hq; rw [show decide (s = x) = true from by simpa using hq, cond_true]) (by
    intro n
    simp only [m_slices_Index_string_string_l1]
    rw [decide_eq_false (by omega), cond_false]) (by rw [FUv]; omega)
  rw [bind_of e]
  cases hf : l.findIdx? (fun x => decide (s = x)) with
  | none =>
    rw [List.findIdx?_eq_none_iff] at hf
    show some (decide _) = _
    congr 1
    rw [decide_eq_false (by omega), decide_eq_false]
    intro hs
    have := hf s hs
    simp at this
  | some k =>
    rw [List.findIdx?_eq_some_iff_getElem] at hf
    obtain ⟨hk, h1, _⟩ := hf
    show some (decide _) = _
    congr 1
    rw [decide_eq_true (by omega), decide_eq_true]
    simp only [decide_eq_true_eq] at h1
    rw [h1]
    exact List.getElem_mem hk
theorem rIsKey_eq (l : List (List UInt8)) (s : List UInt8) (h : l.length ≤ 1000) : m_syntagmaref03_In s l = some (decide (s ∈ l)) := by
  unfold m_syntagmaref03_In
  refine bnd (loop_any (φ := m_syntagmaref03_In_l1 s l) (l := l) true (fun _ x => x = s) ?_ ?_ (by rw [FUv]; omega)) ?_
  · intro n i x hx hi
    simp only [m_syntagmaref03_In_l1]
    rw [decide_eq_true (by omega), cond_true, getI hx, Option.bind_some]
    constructor
    · intro hq; rw [decide_eq_false hq, cond_false, grd_pos (by omega)]
    · intro hq; rw [decide_eq_true hq, cond_true]
  · intro n
    simp only [m_syntagmaref03_In_l1]
    rw [decide_eq_false (by omega), cond_false]
  · by_cases hs : s ∈ l
    · obtain ⟨i, hi, h2⟩ := List.getElem_of_mem hs
      rw [if_pos ⟨i, s, by rw [← h2]; exact List.getElem?_eq_getElem hi, rfl⟩, decide_eq_true hs]; rfl
    · rw [if_neg, decide_eq_false hs]; rfl
      rintro ⟨i, x, h1, rfl⟩
      exact hs (List.mem_of_getElem? h1)
def headP (p : UInt8 → Bool) : List UInt8 → Bool
  | [] => false
  | c :: _ => p c
def wholeP (s : List UInt8) : Bool := decide (s ≠ []) && decide (s.length ≤ 20) && decide (wordP s = s.length)
def nameP (s : List UInt8) : Bool := wholeP s && headP smallB s && !decide (s ∈ keysL)
def tagP (s : List UInt8) : Bool := wholeP s && headP greatB s
theorem whole_eq (s : List UInt8) : m_name_whole s = some (wholeP s) := by
  unfold m_name_whole wholeP
  by_cases h1 : s = []
  · subst h1; rfl
  by_cases h2 : s.length ≤ 20
  · rw [decide_eq_false h1, decide_eq_true (show (s.length : Int) ≤ 20 by omega), word_eq s (by omega)]
    simp only [Bool.not_false, Bool.true_and, cond_true, Option.bind_some, decide_eq_true (show s ≠ [] from h1), decide_eq_true h2]
    congr 1
    exact decide_eq_decide.2 (by omega)
  · rw [decide_eq_false (show ¬ (s.length : Int) ≤ 20 by omega), decide_eq_false h2]; simp
theorem name_eq (s : List UInt8) : m_name_Name s = some (nameP s) := by
  unfold m_name_Name nameP
  rw [whole_eq, Option.bind_some]
  cases hw : wholeP s with
  | false => rfl
  | true =>
    rcases s with _ | ⟨c, r⟩
    · simp [wholeP] at hw
    · rw [cond_true, idx_c0, Option.bind_some]
      simp only [m_name_small, Option.bind_some, m_name_Keyword, keys_eq, Bool.true_and]
      rw [isKey_eq _ _ (by decide), Option.bind_some, Option.bind_some, bf, Option.bind_some]; rfl
theorem tag_eq (s : List UInt8) : m_name_Tag s = some (tagP s) := by
  unfold m_name_Tag tagP
  rw [whole_eq, Option.bind_some]
  cases hw : wholeP s with
  | false => rfl
  | true =>
    rcases s with _ | ⟨c, r⟩
    · simp [wholeP] at hw
    · rw [cond_true, idx_c0, Option.bind_some]; rfl
theorem rwhole_eq (s : List UInt8) : (bif ((decide (0 < (s.length : Int))) && (decide ((s.length : Int) ≤ 20))) then ((m_syntagmaref03_Word s).bind fun x1 => some (decide (x1 = (s.length : Int)))) else (some false)) = some (wholeP s) := by
  unfold wholeP
  by_cases h1 : s = []
  · subst h1; rfl
  have h0 : 0 < s.length := List.length_pos_iff.2 h1
  by_cases h2 : s.length ≤ 20
  · rw [decide_eq_true (show 0 < (s.length : Int) by omega), decide_eq_true (show (s.length : Int) ≤ 20 by omega), rword_eq s (by omega)]
    simp only [Bool.true_and, cond_true, Option.bind_some, decide_eq_true (show s ≠ [] from h1), decide_eq_true h2]
    congr 1
    exact decide_eq_decide.2 (by omega)
  · rw [decide_eq_false (show ¬ (s.length : Int) ≤ 20 by omega), decide_eq_false h2]; simp
theorem rname_eq (s : List UInt8) : m_syntagmaref03_Name s = some (nameP s) := by
  unfold m_syntagmaref03_Name nameP
  refine bnd (rwhole_eq s) ?_
  cases hw : wholeP s with
  | false => rfl
  | true =>
    rcases s with _ | ⟨c, r⟩
    · simp [wholeP] at hw
    · rw [cond_true, idx_c0, Option.bind_some]
      simp only [m_syntagmaref03_small, Option.bind_some, m_syntagmaref03_Keyword, rkeys_eq, Bool.true_and]
      rw [rIsKey_eq _ _ (by decide), Option.bind_some, Option.bind_some, bf, Option.bind_some]; rfl
theorem rtag_eq (s : List UInt8) : m_syntagmaref03_Tag s = some (tagP s) := by
  unfold m_syntagmaref03_Tag tagP
  refine bnd (rwhole_eq s) ?_
  cases hw : wholeP s with
  | false => rfl
  | true =>
    rcases s with _ | ⟨c, r⟩
    · simp [wholeP] at hw
    · rw [cond_true, idx_c0, Option.bind_some]; rfl
def abcN (k : Int) : Nat := if k = 5 then 1 else if k = 12 then 1 else if k = 13 then 1 else if k = 6 then 2 else if k = 7 then 2 else if k = 8 then 2 else if k = 10 then 2 else if k = 9 then 3 else if k = 14 then 1 else 0
def partsB (k : Int) : Bool := decide (k = 11) || decide (k = 14)
theorem shape_eq (k : Int) : m_tree_shapeOf k = some ⟨(abcN k : Int), partsB k⟩ := by
  by_cases h5 : k = 5
  · subst h5; rfl
  by_cases h12 : k = 12
  · subst h12; rfl
  by_cases h13 : k = 13
  · subst h13; rfl
  by_cases h6 : k = 6
  · subst h6; rfl
  by_cases h7 : k = 7
  · subst h7; rfl
  by_cases h8 : k = 8
  · subst h8; rfl
  by_cases h10 : k = 10
  · subst h10; rfl
  by_cases h9 : k = 9
  · subst h9; rfl
  by_cases h11 : k = 11
  · subst h11; rfl
  by_cases h14 : k = 14
  · subst h14; rfl
  unfold m_tree_shapeOf abcN partsB
  rw [decide_eq_false h5, decide_eq_false h12, decide_eq_false h13, decide_eq_false h6, decide_eq_false h7, decide_eq_false h8, decide_eq_false h10, decide_eq_false h9, decide_eq_false h11, decide_eq_false h14, if_neg h5, if_neg h12, if_neg h13, if_neg h6, if_neg h7, if_neg h8, if_neg h10, if_neg h9, if_neg h14]
  rfl
theorem abc_le (k : Int) : abcN k ≤ 3 := by
  unfold abcN
  repeat' split
  all_goals omega
def kidsP (n : ApiNode) : List Int := [n.a, n.b, n.c].take (abcN n.kind) ++ (if partsB n.kind = true then n.l.map (·.at_) else [])
def NB (n : ApiNode) : Prop := n.l.length ≤ 60
theorem kids_len (n : ApiNode) (h : NB n) : (kidsP n).length ≤ 63 := by
  unfold kidsP NB at *
  have := abc_le n.kind
  split <;> simp <;> omega
theorem abc_sli (n : ApiNode) : sli [n.a, n.b, n.c] 0 (abcN n.kind : Int) = some ([n.a, n.b, n.c].take (abcN n.kind)) := sli_take (by have := abc_le n.kind; simpa using this)
theorem kids_eq (n : ApiNode) (h : NB n) : m_tree_Kids n = some (kidsP n) := by
  unfold m_tree_Kids
  have h3 := abc_le n.kind
  unfold NB at h
  rw [shape_eq, Option.bind_some, abc_sli, Option.bind_some, grd_pos (by simp; omega)]
  simp only
  unfold kidsP
  cases partsB n.kind with
  | false => simp
  | true =>
    rw [cond_true, if_pos rfl]
    refine bnd (loop_map (φ := fun i k s => m_tree_Kids_l1 n i (k, s)) (l := n.l) (fun x => x.at_) id _ ?_ ?_ (by rw [FUv]; omega) _ rfl) rfl
    · intro m i x s hx hi hs
      simp only [List.length_take] at hs
      simp only [m_tree_Kids_l1]
      rw [decide_eq_true (show (i : Int) < n.l.length by omega), cond_true, getI hx, Option.bind_some, grd_pos (by simp; omega), grd_pos (by omega)]
    · intro m s hs
      simp only [m_tree_Kids_l1]
      rw [decide_eq_false (by omega), cond_false]; rfl
theorem kidsO_l (n : ApiNode) : ∀ (k : Nat) (x : Int × List Int), m_tree_KidsO_l1 n k x = m_tree_Kids_l1 n k x
  | 0, x => rfl
  | k + 1, (i, s) => by
    simp only [m_tree_KidsO_l1, m_tree_Kids_l1, kidsO_l n k]
theorem kidsO_eq (n : ApiNode) (h : NB n) : m_tree_KidsO n = some (kidsP n) := by
  rw [← kids_eq n h]
  unfold m_tree_KidsO m_tree_Kids
  simp only [kidsO_l]
theorem rkids_pre (n : ApiNode) : (((bif (decide (n.kind = 5)) then some (decide (n.kind = 5)) else bif (decide (n.kind = 12)) then some (decide (n.kind = 12)) else some (decide (n.kind = 13)) : Option Bool).bind fun x1 => bif x1 then some [n.a] else (bif (decide (n.kind = 6)) then some (decide (n.kind = 6)) else bif (decide (n.kind = 7)) then some (decide (n.kind = 7)) else bif (decide (n.kind = 8)) then some (decide (n.kind = 8)) else some (decide (n.kind = 10)) : Option Bool).bind fun x2 => bif x2 then some [n.a, n.b] else bif (decide (n.kind = 9)) then some [n.a, n.b, n.c] else bif (decide (n.kind = 14)) then some [n.a] else some []) : Option (List Int)) = some ([n.a, n.b, n.c].take (abcN n.kind)) := by
  generalize n.kind = k
  by_cases h5 : k = 5
  · subst h5; rfl
  by_cases h12 : k = 12
  · subst h12; rfl
  by_cases h13 : k = 13
  · subst h13; rfl
  by_cases h6 : k = 6
  · subst h6; rfl
  by_cases h7 : k = 7
  · subst h7; rfl
  by_cases h8 : k = 8
  · subst h8; rfl
  by_cases h10 : k = 10
  · subst h10; rfl
  by_cases h9 : k = 9
  · subst h9; rfl
  by_cases h14 : k = 14
  · subst h14; rfl
  unfold abcN
  rw [decide_eq_false h5, decide_eq_false h12, decide_eq_false h13, decide_eq_false h6, decide_eq_false h7, decide_eq_false h8, decide_eq_false h10, decide_eq_false h9, decide_eq_false h14, if_neg h5, if_neg h12, if_neg h13, if_neg h6, if_neg h7, if_neg h8, if_neg h10, if_neg h9, if_neg h14]
  rfl
theorem rkids_eq (n : ApiNode) (h : NB n) : m_syntagmaref05_Kids n = some (kidsP n) := by
  unfold m_syntagmaref05_Kids
  have h3 := abc_le n.kind
  unfold NB at h
  rw [rkids_pre, Option.bind_some, show (decide (n.kind = 11) || decide (n.kind = 14)) = partsB n.kind from rfl]
  unfold kidsP
  cases partsB n.kind with
  | false => simp
  | true =>
    rw [cond_true, if_pos rfl]
    refine bnd (loop_map (φ := fun i k s => m_syntagmaref05_Kids_l1 n i (k, s)) (l := n.l) (fun x => x.at_) id _ ?_ ?_ (by rw [FUv]; omega) _ rfl) rfl
    · intro m i x s hx hi hs
      simp only [List.length_take] at hs
      simp only [m_syntagmaref05_Kids_l1]
      rw [decide_eq_true (show (i : Int) < n.l.length by omega), cond_true, getI hx, Option.bind_some, grd_pos (by simp; omega), grd_pos (by omega)]
    · intro m s hs
      simp only [m_syntagmaref05_Kids_l1]
      rw [decide_eq_false (by omega), cond_false]; rfl
theorem twice_eq (l : List (List UInt8)) (h : l.length ≤ 1000) : m_name_Twice l = some (decide (dupP l)) := by
  unfold m_name_Twice
  obtain ⟨o, h1, h2⟩ := loop_rng (φ := fun n i s => m_name_Twice_l1 l n (i, s)) (l := l) (fun i mm => (∀ k, (mget mm k).getD false = decide (k ∈ l.take i)) ∧ ∀ (j : Nat) x, j < i → l[j]? = some x → x ∉ l.take j) (fun o => o.on (fun r => some r) (fun _ => some false) = some (decide (dupP l))) (by
    rintro n i x s hx hi ⟨hI1, hI2⟩
    simp only [m_name_Twice_l1]
    rw [decide_eq_true (show (i : Int) < l.length by omega), cond_true, getI hx, Option.bind_some, hI1]
    by_cases hd : x ∈ l.take i
    · rw [decide_eq_true hd, cond_true]
      exact .inr ⟨_, rfl, by rw [decide_eq_true (p := dupP l) ⟨i, x, hx, hd⟩]; rfl⟩
    · rw [decide_eq_false hd, cond_false, grd_pos (by omega)]
      refine .inl ⟨_, rfl, fun k => ?_, fun j y hj hy => ?_⟩
      · rw [mget_set, take_snoc hx]
        by_cases hk : k = x
        · rw [if_pos hk, hk]; simp
        · rw [if_neg hk, hI1]
          exact decide_eq_decide.2 (by simp [hk])
      · by_cases hji : j = i
        · subst hji
          rw [hx] at hy
          rw [← Option.some.inj hy]; exact hd
        · exact hI2 j y (by omega) hy) (by
    rintro n s ⟨hI1, hI2⟩
    simp only [m_name_Twice_l1]
    rw [decide_eq_false (by omega), cond_false]
    refine ⟨_, rfl, ?_⟩
    rw [decide_eq_false (p := dupP l)]
    · rfl
    · rintro ⟨i, x, hx, hd⟩
      exact hI2 i x (getLt hx) hx hd) (by rw [FUv]; omega) [] ⟨fun k => by simp [mget], fun j x hj => by omega⟩
  refine bnd h1 ?_
  exact h2
theorem rtwice_eq (l : List (List UInt8)) (h : l.length ≤ 1000) : m_syntagmaref03_Twice l = some (decide (dupP l)) := by
  unfold m_syntagmaref03_Twice
  refine bnd (loop_any (φ := m_syntagmaref03_Twice_l1 l) (l := l) true (fun i x => x ∈ l.take i) ?_ ?_ (by rw [FUv]; omega)) ?_
  · intro n i x hx hi
    simp only [m_syntagmaref03_Twice_l1]
    rw [decide_eq_true (show (i : Int) < l.length by omega), cond_true, getI hx, Option.bind_some, sli_take (by omega), Option.bind_some, rIsKey_eq _ _ (by simp; omega), Option.bind_some]
    exact ⟨fun hq => by rw [decide_eq_false hq, cond_false, grd_pos (by omega)], fun hq => by rw [decide_eq_true hq, cond_true]⟩
  · intro n
    simp only [m_syntagmaref03_Twice_l1]
    rw [decide_eq_false (by omega), cond_false]
  · by_cases hd : dupP l
    · rw [if_pos (show ∃ (i : Nat) (x : List UInt8), l[i]? = some x ∧ x ∈ l.take i from hd), decide_eq_true hd]; rfl
    · rw [if_neg (show ¬ ∃ (i : Nat) (x : List UInt8), l[i]? = some x ∧ x ∈ l.take i from hd), decide_eq_false hd]; rfl
def partB (k : Int) (x : ApiField) : Bool := if k = 11 then nameP x.name && decide (x.var = []) else tagP x.name && nameP x.var
theorem part_eq (k : Int) (x : ApiField) : m_tree_part k x = some (partB k x) := by
  unfold m_tree_part partB
  by_cases h : k = 11
  · rw [decide_eq_true h, cond_true, if_pos h, name_eq]; rfl
  · rw [decide_eq_false h, cond_false, if_neg h, tag_eq, Option.bind_some, name_eq]
    cases tagP x.name <;> rfl
noncomputable def partedB (n : ApiNode) : Bool := if partsB n.kind = true then decide (∀ x ∈ n.l, partB n.kind x = true) && (decide ((if n.kind = 14 then 1 else 0 : Int) ≤ (n.l.length : Int)) && decide ((n.l.length : Int) ≤ 30)) && !decide (dupP (n.l.map (·.name))) else decide ((n.l.length : Int) = 0)
theorem parted_eq (n : ApiNode) (h : NB n) : m_tree_parted n = some (partedB n) := by
  unfold NB at h
  unfold m_tree_parted partedB
  rw [shape_eq, Option.bind_some]
  simp only
  cases hp : partsB n.kind with
  | false => rfl
  | true =>
    rw [Bool.not_true, cond_false, if_pos rfl]
    refine bnd (loop_allmap (φ := fun m i s => m_tree_parted_l1 n m (i, s)) (l := n.l) false (fun x => partB n.kind x = true) (fun x => x.name) ?_ ?_ (by rw [FUv]; omega)) ?_
    · intro m i x s hx hi hs
      simp only [m_tree_parted_l1]
      rw [decide_eq_true (show (i : Int) < n.l.length by omega), cond_true, getI hx, Option.bind_some, part_eq, Option.bind_some]
      cases hb : partB n.kind x with
      | true => exact ⟨fun _ => by rw [Bool.not_true, cond_false, grd_pos (by simp; omega), grd_pos (by omega)], fun hq => absurd rfl hq⟩
      | false => exact ⟨fun hq => absurd hq (by simp), fun _ => rfl⟩
    · intro m s hs
      simp only [m_tree_parted_l1]
      rw [decide_eq_false (by omega), cond_false]
    · by_cases ha : ∀ x ∈ n.l, partB n.kind x = true
      · rw [if_pos ha, decide_eq_true ha, go_on]
        have e : ((bif decide (n.kind = 14) then some 1 else some 0 : Option Int)) = some (if n.kind = 14 then 1 else 0) := by
          by_cases h14 : n.kind = 14
          · rw [decide_eq_true h14, if_pos h14]; rfl
          · rw [decide_eq_false h14, if_neg h14]; rfl
        rw [e, Option.bind_some, twice_eq _ (by simp; omega), List.length_map, Option.bind_some, bf, Option.bind_some, Bool.true_and]
      · rw [if_neg ha, decide_eq_false ha]; rfl
noncomputable def labelsB (n : ApiNode) : Bool := decide (∀ x ∈ n.l, partB n.kind x = true) && ((decide ((n.l.length : Int) ≤ 30) && (decide (n.kind = 11) || decide (0 < (n.l.length : Int)))) && !decide (dupP (n.l.map (·.name))))
theorem rlabels_eq (n : ApiNode) (h : n.l.length * 40 ≤ 140737488355328) (hk : n.kind = 11 ∨ n.kind = 14) : m_syntagmaref05_labels n = some (labelsB n) := by
  unfold m_syntagmaref05_labels labelsB
  refine bnd (loop_allmap (φ := fun m i s => m_syntagmaref05_labels_l1 n m (i, s)) (l := n.l) false (fun x => partB n.kind x = true) (fun x => x.name) ?_ ?_ (by rw [FUv]; omega)) ?_
  · intro m i x s hx hi hs
    simp only [m_syntagmaref05_labels_l1]
    rw [decide_eq_true (show (i : Int) < n.l.length by omega), cond_true, getI hx, Option.bind_some, rname_eq, rtag_eq, rname_eq]
    have e : ((bif (decide (n.kind = 11)) then ((some (nameP x.name)).bind fun x2 => some ((!x2) || (!decide ((x.var : List UInt8) = ([] : List UInt8))))) else (some false)).bind fun p1 => (bif p1 then (some true) else ((bif (decide (n.kind = 14)) then ((some (tagP x.name)).bind fun x3 => (bif (!x3) then (some true) else ((some (nameP x.var)).bind fun x4 => some (!x4))).bind fun p4 => some p4) else (some false)).bind fun p3 => some p3))) = some (!partB n.kind x) := by
      unfold partB
      rcases hk with hk | hk
      · rw [hk, decide_eq_true rfl, decide_eq_false (show ¬ (11 : Int) = 14 by decide), if_pos rfl]
        cases nameP x.name <;> cases decide (x.var = []) <;> rfl
      · rw [hk, decide_eq_true rfl, decide_eq_false (show ¬ (14 : Int) = 11 by decide), if_neg (by decide)]
        cases tagP x.name <;> cases nameP x.var <;> rfl
    rw [← Option.bind_assoc, e, Option.bind_some]
    cases hb : partB n.kind x with
    | true => exact ⟨fun _ => by rw [Bool.not_true, cond_false, grd_pos (by simp; omega), grd_pos (by omega)], fun hq => absurd rfl hq⟩
    | false => exact ⟨fun hq => absurd hq (by simp), fun _ => rfl⟩
  · intro m s hs
    simp only [m_syntagmaref05_labels_l1]
    rw [decide_eq_false (by omega), cond_false]
  · by_cases ha : ∀ x ∈ n.l, partB n.kind x = true
    · by_cases h3 : (n.l.length : Int) ≤ 30
      · rw [if_pos ha, decide_eq_true ha, go_on, rtwice_eq _ (by simp; omega), List.length_map, Option.bind_some, bf, Option.bind_some, Bool.true_and]
      · rw [if_pos ha, decide_eq_true ha, go_on, List.length_map, decide_eq_false h3]; rfl
    · rw [if_neg ha, decide_eq_false ha]; rfl
def unusedB (n : ApiNode) : Bool := ([n.a, n.b, n.c].drop (abcN n.kind)).all fun x => decide (x = 0)
theorem unused_eq (n : ApiNode) : m_tree_unused n = some (unusedB n) := by
  unfold m_tree_unused unusedB
  have h3 := abc_le n.kind
  rw [shape_eq, Option.bind_some]
  simp only
  rw [show sli [n.a, n.b, n.c] (abcN n.kind : Int) (([n.a, n.b, n.c] : List _).length : Int) = some ([n.a, n.b, n.c].drop (abcN n.kind)) from sli_from rfl (by simpa using h3), Option.bind_some]
  generalize hl : [n.a, n.b, n.c].drop (abcN n.kind) = l
  have hlen : l.length ≤ 3 := by rw [← hl]; simp
  refine bnd (loop_all (φ := m_tree_unused_l1 l) (l := l) false (fun _ x => x = 0) ?_ ?_ (by rw [FUv]; omega)) ?_
  · intro m i x hx hi
    simp only [m_tree_unused_l1]
    rw [decide_eq_true (show (i : Int) < l.length by omega), cond_true, getI hx, Option.bind_some]
    exact ⟨fun hq => by rw [decide_eq_true hq, Bool.not_true, cond_false, grd_pos (by omega)], fun hq => by rw [decide_eq_false hq, Bool.not_false, cond_true]⟩
  · intro m
    simp only [m_tree_unused_l1]
    rw [decide_eq_false (by omega), cond_false]
  · by_cases ha : ∀ (i : Nat) x, l[i]? = some x → x = 0
    · rw [if_pos ha, List.all_eq_true.2]
      · rfl
      · intro x hx
        obtain ⟨i, hi, h2⟩ := List.getElem_of_mem hx
        rw [decide_eq_true_eq]
        exact ha i x (by rw [← h2]; exact List.getElem?_eq_getElem hi)
    · rw [if_neg ha]
      have : (l.all fun x => decide (x = 0)) = false := by
        rw [← Bool.not_eq_true, List.all_eq_true]
        intro hh
        exact ha fun i x hx => by simpa using hh x (List.mem_of_getElem? hx)
      rw [this]; rfl
def isNm (k : Int) : Bool := decide (k = 4) || (decide (k = 5) || (decide (k = 7) || (decide (k = 8) || decide (k = 12))))
def namedB (n : ApiNode) : Bool := if isNm n.kind = true then nameP n.name else if n.kind = 13 then tagP n.name else decide ((n.name : List UInt8) = [])
theorem named_eq (n : ApiNode) : m_tree_named n = some (namedB n) := by
  unfold m_tree_named namedB isNm
  rw [name_eq, tag_eq]
  cases decide (n.kind = 4) <;> cases decide (n.kind = 5) <;> cases decide (n.kind = 7) <;> cases decide (n.kind = 8) <;> cases decide (n.kind = 12) <;> first | rfl | skip
  by_cases h : n.kind = 13
  · rw [if_neg (by decide), if_pos h, decide_eq_true h]; rfl
  · rw [if_neg (by decide), if_neg h, decide_eq_false h]; rfl
def countedB (n : ApiNode) : Bool := if n.kind = 1 then decide ((n.s : List UInt8) = []) else if n.kind = 2 then (decide (n.n_ = 0) || decide (n.n_ = 1)) && decide ((n.s : List UInt8) = []) else if n.kind = 10 then (decide (1 ≤ n.n_) && decide (n.n_ ≤ 7)) && decide ((n.s : List UInt8) = []) else if n.kind = 3 then decide (n.n_ = 0) && decide ((n.s.length : Int) ≤ 200) else decide (n.n_ = 0) && decide ((n.s : List UInt8) = [])
theorem counted_eq (n : ApiNode) : m_tree_counted n = some (countedB n) := by
  unfold m_tree_counted countedB
  by_cases h1 : n.kind = 1
  · rw [decide_eq_true h1, if_pos h1]; rfl
  rw [decide_eq_false h1, if_neg h1, cond_false]
  by_cases h2 : n.kind = 2
  · rw [decide_eq_true h2, if_pos h2]; rfl
  rw [decide_eq_false h2, if_neg h2, cond_false]
  by_cases h10 : n.kind = 10
  · rw [decide_eq_true h10, if_pos h10]; rfl
  rw [decide_eq_false h10, if_neg h10, cond_false]
  by_cases h3 : n.kind = 3
  · rw [decide_eq_true h3, if_pos h3]; rfl
  rw [decide_eq_false h3, if_neg h3, cond_false]
def boundsB (n : ApiNode) : Bool := !(((decide (n.kind < 1) || decide (14 < n.kind)) || decide (n.pos < 0)) || decide (1048576 < n.pos))
noncomputable def rightB (n : ApiNode) : Bool := boundsB n && (((namedB n && countedB n) && partedB n) && unusedB n)
theorem right_eq (n : ApiNode) (h : NB n) : m_tree_right n = some (rightB n) := by
  unfold m_tree_right rightB boundsB
  rw [named_eq, counted_eq, parted_eq n h, unused_eq]
  cases (((decide (n.kind < 1) || decide (14 < n.kind)) || decide (n.pos < 0)) || decide (1048576 < n.pos))
  · cases namedB n <;> cases countedB n <;> cases partedB n <;> cases unusedB n <;> rfl
  · rfl
theorem parted_lab (n : ApiNode) (hk : n.kind = 11 ∨ n.kind = 14) : partedB n = labelsB n := by
  unfold partedB labelsB
  rcases hk with hk | hk
  · rw [hk, if_pos (show partsB 11 = true by decide), if_neg (by decide), decide_eq_true (show (0 : Int) ≤ (n.l.length : Int) by omega), Bool.true_and, decide_eq_true (show (11 : Int) = 11 from rfl), Bool.true_or, Bool.and_true, Bool.and_assoc]
  · rw [hk, if_pos (show partsB 14 = true by decide), if_pos rfl, decide_eq_false (show ¬ (14 : Int) = 11 by decide), Bool.false_or, decide_eq_decide.2 (show (1 : Int) ≤ (n.l.length : Int) ↔ (0 : Int) < (n.l.length : Int) by omega), Bool.and_comm (decide ((0 : Int) < _)), Bool.and_assoc]
theorem parted_no (n : ApiNode) (hk : partsB n.kind = false) : partedB n = !decide (0 < (n.l.length : Int)) := by
  unfold partedB
  rw [if_neg (by simp [hk])]
  by_cases h : (n.l.length : Int) = 0
  · rw [decide_eq_true h, decide_eq_false (by omega)]; rfl
  · rw [decide_eq_false h, decide_eq_true (by omega)]; rfl
theorem unusedB_eq (n : ApiNode) : unusedB n = match abcN n.kind with | 0 => decide (n.a = 0) && (decide (n.b = 0) && (decide (n.c = 0) && true)) | 1 => decide (n.b = 0) && (decide (n.c = 0) && true) | 2 => decide (n.c = 0) && true | _ => true := by
  have := abc_le n.kind
  unfold unusedB
  generalize abcN n.kind = m at *
  match m with
  | 0 => rfl
  | 1 => rfl
  | 2 => rfl
  | 3 => rfl
  | m + 4 => omega
theorem rright_out (n : ApiNode) (h : boundsB n = false) : m_syntagmaref05_right n = some false := by
  unfold m_syntagmaref05_right
  unfold boundsB at h
  rw [show ((((decide (n.pos < 0)) || (decide (1048576 < n.pos))) || (decide (n.kind < 1))) || (decide (14 < n.kind))) = true by
    revert h
    cases decide (n.pos < 0) <;> cases decide (1048576 < n.pos) <;> cases decide (n.kind < 1) <;> cases decide (14 < n.kind) <;> decide]
  rfl
set_option maxHeartbeats 4000000 in
theorem rright_in (n : ApiNode) (hN : n.l.length * 40 ≤ 140737488355328) (h : boundsB n = true) : m_syntagmaref05_right n = some (((namedB n && countedB n) && partedB n) && unusedB n) := by
  have hb : 1 ≤ n.kind ∧ n.kind ≤ 14 ∧ 0 ≤ n.pos ∧ n.pos ≤ 1048576 := by
    unfold boundsB at h
    simp only [Bool.not_eq_true', Bool.or_eq_false_iff, decide_eq_false_iff_not] at h
    omega
  unfold m_syntagmaref05_right
  rw [show ((((decide (n.pos < 0)) || (decide (1048576 < n.pos))) || (decide (n.kind < 1))) || (decide (14 < n.kind))) = false by
    rw [decide_eq_false (by omega), decide_eq_false (by omega), decide_eq_false (by omega), decide_eq_false (by omega)]; rfl, cond_false, rname_eq, rtag_eq]
  have hk : n.kind = 1 ∨ n.kind = 2 ∨ n.kind = 3 ∨ n.kind = 4 ∨ n.kind = 5 ∨ n.kind = 6 ∨ n.kind = 7 ∨ n.kind = 8 ∨ n.kind = 9 ∨ n.kind = 10 ∨ n.kind = 11 ∨ n.kind = 12 ∨ n.kind = 13 ∨ n.kind = 14 := by omega
  have e1 : decide (1 ≤ n.n_) = !decide (n.n_ < 1) := by
    by_cases h : n.n_ < 1
    · rw [decide_eq_true h, decide_eq_false (by omega)]; rfl
    · rw [decide_eq_false h, decide_eq_true (by omega)]; rfl
  have e2 : decide (n.n_ ≤ 7) = !decide (7 < n.n_) := by
    by_cases h : 7 < n.n_
    · rw [decide_eq_true h, decide_eq_false (by omega)]; rfl
    · rw [decide_eq_false h, decide_eq_true (by omega)]; rfl
  have e3 : decide ((n.s.length : Int) ≤ 200) = !decide (200 < (n.s.length : Int)) := by
    by_cases h : 200 < (n.s.length : Int)
    · rw [decide_eq_true h, decide_eq_false (by omega)]; rfl
    · rw [decide_eq_false h, decide_eq_true (by omega)]; rfl
  rcases hk with hk | hk | hk | hk | hk | hk | hk | hk | hk | hk | hk | hk | hk | hk
  all_goals
    first
    | rw [parted_no _ (by rw [hk]; rfl)]
    | rw [parted_lab _ (.inl hk), rlabels_eq _ hN (.inl hk)]
    | rw [parted_lab _ (.inr hk), rlabels_eq _ hN (.inr hk)]
    rw [unusedB_eq]
    unfold namedB countedB
    rw [hk, e1, e2, e3]
    generalize labelsB _ = p0
    generalize decide (0 < (n.l.length : Int)) = p1
    generalize nameP n.name = p2
    generalize tagP n.name = p3
    generalize decide (n.n_ = 0) = q0; generalize decide (n.n_ = 1) = q6; generalize decide (n.n_ < 1) = q7; generalize decide (7 < n.n_) = q8
    generalize decide (200 < (n.s.length : Int)) = q9
    generalize decide (n.s = []) = q1; generalize decide (n.a = 0) = q2; generalize decide (n.b = 0) = q3; generalize decide (n.c = 0) = q4; generalize decide (n.name = []) = q5
    generalize m_syntagmaref05_labels _ = zz
    clear hN h hb hk e1 e2 e3
    try clear p0
    try clear p1
    try clear p2
    try clear p3
    try clear q0
    try clear q1
    try clear q2
    try clear q3
    try clear q4
    try clear q5
    try clear q6
    try clear q7
    try clear q8
    try clear q9
    try clear zz
    try (obtain _ | zz := zz)
    all_goals
      try revert p0
      try revert p1
      try revert p2
      try revert p3
      try revert q0
      try revert q1
      try revert q2
      try revert q3
      try revert q4
      try revert q5
      try revert q6
      try revert q7
      try revert q8
      try revert q9
      try revert zz
      decide +kernel
theorem rright_eqB (n : ApiNode) (h : n.l.length * 40 ≤ 140737488355328) : m_syntagmaref05_right n = some (rightB n) := by
  unfold rightB
  cases hb : boundsB n with
  | false => exact rright_out n hb
  | true => rw [Bool.true_and]; exact rright_in n h hb
theorem right_nb (n : ApiNode) (h : rightB n = true) : NB n := by
  unfold rightB partedB at h
  unfold NB
  simp only [Bool.and_eq_true] at h
  have h2 := h.2.1.2
  split at h2
  · simp only [Bool.and_eq_true, decide_eq_true_eq] at h2
    omega
  · simp only [decide_eq_true_eq] at h2
    omega
end Go.Proofs.Ytnnjgbcojdnhhaa
set_option linter.unusedVariables false
set_option linter.unusedSimpArgs false
set_option maxRecDepth 100000
namespace Go.Proofs.Ytnnjgbcojdnhhaa
open Go.V
open Classical
def gd (l : List Int) (k : Int) : Int := (l[k.toNat]?).getD 0
theorem idxD {l : List Int} {k : Int} (h0 : 0 ≤ k) (h1 : k < (l.length : Int)) : idx l k = some (gd l k) := by
  have h2 : k.toNat < l.length := by omega
  obtain ⟨m, rfl⟩ : ∃ m : Nat, k = (m : Int) := ⟨k.toNat, by omega⟩
  rw [idx_nat]
  unfold gd
  rw [Int.toNat_natCast, List.getElem?_eq_getElem (by omega)]; rfl
def Bd (M : Int) (l : List Int) : Prop := ∀ x ∈ l, 0 ≤ x ∧ x ≤ M
theorem bd_gd {M : Int} {l : List Int} (h : Bd M l) (hM : 0 ≤ M) (k : Int) : 0 ≤ gd l k ∧ gd l k ≤ M := by
  unfold gd
  cases e : l[k.toNat]? with
  | none => exact ⟨by decide, hM⟩
  | some x => exact h x (List.mem_of_getElem? e)
theorem bd_set {M : Int} {l : List Int} (h : Bd M l) {y : Int} (hy : 0 ≤ y ∧ y ≤ M) (i : Nat) : Bd M (l.set i y) := by
  intro x hx
  rcases List.mem_or_eq_of_mem_set hx with hx | rfl
  · exact h x hx
  · exact hy
theorem bd_up {M N : Int} {l : List Int} (h : Bd M l) (hMN : M ≤ N) : Bd N l := fun x hx => ⟨(h x hx).1, Int.le_trans (h x hx).2 hMN⟩
def inc1 (c : List Int) (k : Int) : List Int := c.set k.toNat (gd c k + 1)
def incs (c ks : List Int) : List Int := ks.foldl inc1 c
theorem incs_len : ∀ (ks c : List Int), (incs c ks).length = c.length
  | [], _ => rfl
  | k :: ks, c => by
    show (incs (inc1 c k) ks).length = _
    rw [incs_len ks]; simp [inc1]
theorem incs_snoc (c ks : List Int) (k : Int) : incs c (ks ++ [k]) = inc1 (incs c ks) k := by
  unfold incs; rw [List.foldl_append]; rfl
theorem incs_bd {M : Int} (hM : 0 ≤ M) : ∀ (ks c : List Int), Bd M c → Bd (M + ks.length) (incs c ks)
  | [], c, h => by simpa [incs] using h
  | k :: ks, c, h => by
    have h1 := bd_gd h hM k
    have := incs_bd (M := M + 1) (by omega) ks (inc1 c k) (bd_set (bd_up h (by omega)) (by omega) _)
    show Bd _ (incs (inc1 c k) ks)
    refine bd_up this ?_
    simp only [List.length_cons]; omega
def mx (f : Int → Int) (b : Int) (ks : List Int) : Int := ks.foldl (fun b k => if f k > b then f k else b) b
theorem mx_snoc (f : Int → Int) (b : Int) (ks : List Int) (k : Int) : mx f b (ks ++ [k]) = if f k > mx f b ks then f k else mx f b ks := by
  unfold mx; rw [List.foldl_append]; rfl
theorem mx_bd {f : Int → Int} {M : Int} (hf : ∀ k, 0 ≤ f k ∧ f k ≤ M) : ∀ (ks : List Int) (b : Int), 0 ≤ b ∧ b ≤ M → 0 ≤ mx f b ks ∧ mx f b ks ≤ M
  | [], b, h => h
  | k :: ks, b, h => by
    show 0 ≤ mx f (if f k > b then f k else b) ks ∧ mx f (if f k > b then f k else b) ks ≤ M
    refine mx_bd hf ks _ ?_
    have := hf k
    split <;> omega
theorem mx_congr {f g : Int → Int} : ∀ (ks : List Int) (b : Int), (∀ k ∈ ks, f k = g k) → mx f b ks = mx g b ks
  | [], b, _ => rfl
  | k :: ks, b, h => by
    show mx f (if f k > b then f k else b) ks = mx g (if g k > b then g k else b) ks
    rw [h k (by simp)]
    exact mx_congr ks _ fun x hx => h x (by simp [hx])
def cntU (L : List ApiNode) : Nat → List Int
  | 0 => List.replicate L.length 0
  | i + 1 => match L[i]? with | some n => incs (cntU L i) (kidsP n) | none => cntU L i
def depU (L : List ApiNode) : Nat → List Int
  | 0 => List.replicate L.length 0
  | i + 1 => match L[i]? with | some n => (depU L i).set i (mx (gd (depU L i)) (gd (depU L i) i) (kidsP n) + 1) | none => depU L i
theorem cntU_s {L : List ApiNode} {i : Nat} {n : ApiNode} (h : L[i]? = some n) : cntU L (i + 1) = incs (cntU L i) (kidsP n) := by rw [cntU, h]
theorem depU_s {L : List ApiNode} {i : Nat} {n : ApiNode} (h : L[i]? = some n) : depU L (i + 1) = (depU L i).set i (mx (gd (depU L i)) (gd (depU L i) i) (kidsP n) + 1) := by rw [depU, h]
theorem cntU_len (L : List ApiNode) : ∀ i, (cntU L i).length = L.length
  | 0 => by simp [cntU]
  | i + 1 => by
    rw [cntU]
    split
    · rw [incs_len, cntU_len L i]
    · exact cntU_len L i
theorem depU_len (L : List ApiNode) : ∀ i, (depU L i).length = L.length
  | 0 => by simp [depU]
  | i + 1 => by
    rw [depU]
    split
    · rw [List.length_set, depU_len L i]
    · exact depU_len L i
theorem bd_zero (n : Nat) : Bd 0 (List.replicate n (0 : Int)) := by
  intro x hx
  rw [List.mem_replicate] at hx
  omega
theorem cntU_bdp (L : List ApiNode) : ∀ i : Nat, (∀ (j : Nat) n, j < i → L[j]? = some n → NB n) → Bd (63 * i) (cntU L i)
  | 0, _ => by simpa [cntU] using bd_zero _
  | i + 1, hN => by
    have ih := cntU_bdp L i (fun j n hj => hN j n (by omega))
    rw [cntU]
    split
    · rename_i n hn
      have := kids_len n (hN i n (by omega) hn)
      exact bd_up (incs_bd (by omega) _ _ ih) (by omega)
    · exact bd_up ih (by omega)
theorem cntU_bd (L : List ApiNode) (hN : ∀ n ∈ L, NB n) (i : Nat) : Bd (63 * i) (cntU L i) := cntU_bdp L i (fun j n _ h => hN n (List.mem_of_getElem? h))
theorem depU_bd (L : List ApiNode) : ∀ i : Nat, Bd (i : Int) (depU L i)
  | 0 => by simpa [depU] using bd_zero _
  | i + 1 => by
    have ih := depU_bd L i
    rw [depU]
    split
    · rename_i n hn
      have h1 := mx_bd (M := (i : Int)) (fun k => bd_gd ih (by omega) k) (kidsP n) (gd (depU L i) i) (bd_gd ih (by omega) _)
      exact bd_set (bd_up ih (by omega)) (by constructor <;> omega) _
    · exact bd_up ih (by omega)
def inL (i : Nat) (ks : List Int) : Prop := ∀ k ∈ ks, 0 ≤ k ∧ k < (i : Int)
def okN (L : List ApiNode) (i : Nat) (n : ApiNode) : Prop := rightB n = true ∧ inL i (kidsP n) ∧ (n.kind = 8 → ∃ m, L[n.a.toNat]? = some m ∧ m.kind = 5)
theorem linkL (i : Nat) (ks c : List Int) (M : Int) (hM : 0 ≤ M ∧ M ≤ 100000) (hks : ks.length ≤ 63) (hi : i ≤ c.length) (hb : Bd M c) :
    ∃ o, m_tree_linked_l1 (i : Int) ks FU (0, c) = some o ∧ ((inL i ks → o = Out.go (incs c ks)) ∧ (¬ inL i ks → ∃ c', o = Out.ret (false, c'))) := by
  refine loop_rng (φ := fun n j s => m_tree_linked_l1 (i : Int) ks n (j, s)) (l := ks) (fun j s => s = incs c (ks.take j) ∧ inL i (ks.take j)) _ ?_ ?_ (by rw [FUv]; omega) c ⟨rfl, fun k hk => by simp at hk⟩
  · rintro n j x s hx hj ⟨rfl, hI⟩
    simp only [m_tree_linked_l1]
    rw [decide_eq_true (show (j : Int) < ks.length by omega), cond_true, getI hx, Option.bind_some]
    by_cases hq : 0 ≤ x ∧ x < (i : Int)
    · have hbd := incs_bd hM.1 (ks.take j) c hb
      have hl : (ks.take j).length = j := by simp; omega
      rw [hl] at hbd
      have hg := bd_gd hbd (by omega) x
      rw [decide_eq_false (by omega), decide_eq_false (by omega), Bool.or_false, cond_false, idxD hq.1 (by rw [incs_len]; omega), Option.bind_some, grd_pos (by omega), Option.bind_some, grd_pos (by omega)]
      refine .inl ⟨_, rfl, ?_, ?_⟩
      · rw [take_snoc hx, incs_snoc]; rfl
      · rw [take_snoc hx]
        intro k hk
        rcases List.mem_append.1 hk with hk | hk
        · exact hI k hk
        · rw [List.mem_singleton] at hk; rw [hk]; exact hq
    · have hq2 : (decide (x < 0) || decide ((i : Int) ≤ x)) = true := by
        rw [Bool.or_eq_true, decide_eq_true_eq, decide_eq_true_eq]; omega
      rw [hq2, cond_true]
      exact .inr ⟨_, rfl, fun h => absurd (h x (List.mem_of_getElem? hx)) hq, fun _ => ⟨_, rfl⟩⟩
  · rintro n s ⟨rfl, hI⟩
    simp only [m_tree_linked_l1]
    rw [decide_eq_false (by omega), cond_false]
    rw [List.take_length] at *
    exact ⟨_, rfl, fun _ => rfl, fun h => absurd hI h⟩
theorem kind8 {n : ApiNode} (h : n.kind = 8) : n.a ∈ kidsP n := by
  unfold kidsP
  rw [h]
  simp [abcN]
theorem linked_eq (e : ApiExpr) (i : Nat) (n : ApiNode) (c : List Int) (M : Int) (hn : e.l[i]? = some n) (hN : NB n) (hM : 0 ≤ M ∧ M ≤ 100000) (hc : c.length = e.l.length) (hb : Bd M c) :
    ∃ b c', m_tree_linked e (i : Int) c = some (b, c') ∧ (b = true ↔ inL i (kidsP n) ∧ (n.kind = 8 → ∃ m, e.l[n.a.toNat]? = some m ∧ m.kind = 5)) ∧ (b = true → c' = incs c (kidsP n)) := by
  have hi := getLt hn
  unfold m_tree_linked
  rw [getI hn, Option.bind_some, kids_eq n hN, Option.bind_some]
  obtain ⟨o, h1, h2, h3⟩ := linkL i (kidsP n) c M hM (kids_len n hN) (by omega) hb
  rw [h1, Option.bind_some]
  by_cases hq : inL i (kidsP n)
  · rw [h2 hq, go_on, Option.bind_some]
    by_cases h8 : n.kind = 8
    · have ha := hq n.a (kind8 h8)
      have hal : n.a.toNat < e.l.length := by omega
      rw [decide_eq_true h8, Bool.not_true, cond_false, Option.bind_some, show idx e.l n.a = some e.l[n.a.toNat] by
        obtain ⟨m, hm⟩ : ∃ m : Nat, n.a = (m : Int) := ⟨n.a.toNat, by omega⟩
        simp only [hm, Int.toNat_natCast]
        rw [idx_nat, List.getElem?_eq_getElem], Option.bind_some]
      refine ⟨_, _, rfl, ?_, fun _ => rfl⟩
      rw [decide_eq_true_eq]
      constructor
      · exact fun h => ⟨hq, fun _ => ⟨_, List.getElem?_eq_getElem hal, h⟩⟩
      · rintro ⟨_, h⟩
        obtain ⟨m, hm, h5⟩ := h h8
        rw [List.getElem?_eq_getElem hal] at hm
        rw [Option.some.inj hm]; exact h5
    · rw [decide_eq_false h8, Bool.not_false, cond_true]
      exact ⟨_, _, rfl, ⟨fun _ => ⟨hq, fun h => absurd h h8⟩, fun _ => rfl⟩, fun _ => rfl⟩
  · obtain ⟨c', rfl⟩ := h3 hq
    exact ⟨_, _, rfl, ⟨fun h => absurd h (by simp), fun h => absurd h.1 hq⟩, fun h => absurd h (by simp)⟩
def allOk (L : List ApiNode) : Prop := ∀ (i : Nat) n, L[i]? = some n → okN L i n
theorem mayL (e : ApiExpr) (hl : e.l.length ≤ 700) (hN : ∀ n ∈ e.l, NB n) : ∃ o, m_tree_May_l1 e FU (0, List.replicate e.l.length 0) = some o ∧ ((allOk e.l → o = Out.go (cntU e.l e.l.length)) ∧ (¬ allOk e.l → o = Out.ret 4)) := by
  refine loop_rng (φ := fun n j s => m_tree_May_l1 e n (j, s)) (l := e.l) (fun i s => s = cntU e.l i ∧ ∀ (j : Nat) n, j < i → e.l[j]? = some n → okN e.l j n) _ ?_ ?_ (by rw [FUv]; omega) _ ⟨rfl, fun j n hj => by omega⟩
  · rintro m i n s hn hi ⟨rfl, hI⟩
    simp only [m_tree_May_l1]
    rw [decide_eq_true (show (i : Int) < e.l.length by omega), cond_true, getI hn, Option.bind_some]
    have hNn := hN n (List.mem_of_getElem? hn)
    rw [show m_tree_right (⟨n.kind, n.a, n.b, n.c, n.n_, n.name, n.s, n.l, n.pos⟩ : ApiNode) = m_tree_right n from rfl, right_eq n hNn, Option.bind_some]
    obtain ⟨b, c', h1, h2, h3⟩ := linked_eq e i n (cntU e.l i) (63 * i) hn hNn (by omega) (cntU_len _ _) (cntU_bd _ hN i)
    cases hr : rightB n with
    | false =>
      exact .inr ⟨_, rfl, fun h => absurd (h i n hn).1 (by simp [hr]), fun _ => rfl⟩
    | true =>
      rw [Bool.not_true, cond_false, h1, Option.bind_some]
      cases b with
      | false =>
        refine .inr ⟨_, rfl, fun h => ?_, fun _ => rfl⟩
        have := h2.2 (h i n hn).2
        simp at this
      | true =>
        refine .inl ⟨c', ?_, ?_, ?_⟩
        · show (bif (!true) then _ else grd (InR ((i : Int) + 1)) (m_tree_May_l1 e m ((i : Int) + 1, c'))) = _
          rw [Bool.not_true, cond_false, grd_pos (by omega)]
        · rw [h3 rfl, cntU_s hn]
        · intro j x hj hx
          by_cases hji : j = i
          · subst hji
            rw [hn] at hx
            rw [← Option.some.inj hx]
            exact ⟨hr, h2.1 rfl⟩
          · exact hI j x (by omega) hx
  · rintro m s ⟨rfl, hI⟩
    simp only [m_tree_May_l1]
    rw [decide_eq_false (by omega), cond_false]
    exact ⟨_, rfl, fun _ => rfl, fun h => absurd (fun i n hn => hI i n (getLt hn) hn) h⟩
theorem gd_self {l : List Int} {i : Nat} (h : i < l.length) (y : Int) : gd (l.set i y) (i : Int) = y := by
  unfold gd; rw [Int.toNat_natCast, List.getElem?_set_self h]; rfl
theorem gd_other {l : List Int} {i : Nat} {k : Int} (h : k.toNat ≠ i) (y : Int) : gd (l.set i y) k = gd l k := by
  unfold gd; rw [List.getElem?_set_ne (Ne.symm h)]
theorem set_gd {l : List Int} {i : Nat} (h : i < l.length) : l.set i (gd l (i : Int)) = l := by
  unfold gd
  rw [Int.toNat_natCast, List.getElem?_eq_getElem h]
  exact List.set_getElem_self h
theorem rmayK (i : Nat) (ks c d : List Int) (M : Int) (hM : 0 ≤ M ∧ M ≤ 100000) (hks : ks.length ≤ 63) (hi : i < c.length) (hd : d.length = c.length) (hb : Bd M c) :
    ∃ o, m_syntagmaref05_May_l2 (i : Int) ks FU (0, c, d) = some o ∧ ((inL i ks → o = Out.go (incs c ks, d.set i (mx (gd d) (gd d i) ks))) ∧ (¬ inL i ks → o = Out.ret 4)) := by
  refine loop_rng (φ := fun n j (s : List Int × List Int) => m_syntagmaref05_May_l2 (i : Int) ks n (j, s.1, s.2)) (l := ks) (fun j s => s = (incs c (ks.take j), d.set i (mx (gd d) (gd d i) (ks.take j))) ∧ inL i (ks.take j)) _ ?_ ?_ (by rw [FUv]; omega) (c, d) ⟨?_, fun k hk => by simp at hk⟩
  · rintro n j x s hx hj ⟨rfl, hI⟩
    simp only [m_syntagmaref05_May_l2]
    rw [decide_eq_true (show (j : Int) < ks.length by omega), cond_true, getI hx, Option.bind_some]
    by_cases hq : 0 ≤ x ∧ x < (i : Int)
    · have hbd := incs_bd hM.1 (ks.take j) c hb
      have hl : (ks.take j).length = j := by simp; omega
      rw [hl] at hbd
      have hg := bd_gd hbd (by omega) x
      have hxi : x.toNat ≠ i := by omega
      rw [decide_eq_false (by omega), cond_false, Option.bind_some, decide_eq_false (by omega), Option.bind_some, cond_false, Option.bind_some, idxD (l := incs c _) hq.1 (by rw [incs_len]; omega), Option.bind_some, grd_pos (by omega)]
      rw [Option.bind_some, idxD (k := (i : Int)) (by omega) (by rw [List.length_set]; omega), Option.bind_some, Option.bind_some, idxD (k := x) (by omega) (by rw [List.length_set]; omega), Option.bind_some, Option.bind_some, grd_pos (by omega)]
      refine .inl ⟨(_, _), rfl, ?_, ?_⟩
      · rw [take_snoc hx, incs_snoc, mx_snoc, gd_self (by omega), gd_other hxi, Int.toNat_natCast, List.set_set]; rfl
      · rw [take_snoc hx]
        intro k hk
        rcases List.mem_append.1 hk with hk | hk
        · exact hI k hk
        · rw [List.mem_singleton] at hk; rw [hk]; exact hq
    · have hq2 : ((bif (decide (x < 0)) then (some true) else ((some x).bind fun x6 => some (decide ((i : Int) ≤ x6)))) : Option Bool) = some true := by
        by_cases h0 : x < 0
        · rw [decide_eq_true h0]; rfl
        · rw [decide_eq_false h0, cond_false, Option.bind_some, decide_eq_true (p := (i : Int) ≤ x) (by omega)]
      rw [hq2, Option.bind_some, cond_true]
      exact .inr ⟨_, rfl, fun h => absurd (h x (List.mem_of_getElem? hx)) hq, fun _ => rfl⟩
  · rintro n s ⟨rfl, hI⟩
    simp only [m_syntagmaref05_May_l2]
    rw [decide_eq_false (by omega), cond_false]
    rw [List.take_length] at *
    exact ⟨_, rfl, fun _ => rfl, fun h => absurd hI h⟩
  · show (c, d) = (c, d.set i (gd d i))
    rw [set_gd (by omega)]
theorem rmayL (e : ApiExpr) (hl : e.l.length ≤ 700) (hS : ∀ n ∈ e.l, n.l.length * 40 ≤ 140737488355328) : ∃ o, m_syntagmaref05_May_l1 e FU (0, List.replicate e.l.length 0, List.replicate e.l.length 0) = some o ∧ ((allOk e.l → o = Out.go (cntU e.l e.l.length, depU e.l e.l.length)) ∧ (¬ allOk e.l → o = Out.ret 4)) := by
  refine loop_rng (φ := fun n j (s : List Int × List Int) => m_syntagmaref05_May_l1 e n (j, s.1, s.2)) (l := e.l) (fun i s => s = (cntU e.l i, depU e.l i) ∧ ∀ (j : Nat) n, j < i → e.l[j]? = some n → okN e.l j n) _ ?_ ?_ (by rw [FUv]; omega) (_, _) ⟨rfl, fun j n hj => by omega⟩
  · rintro m i n s hn hi ⟨rfl, hI⟩
    simp only [m_syntagmaref05_May_l1]
    rw [decide_eq_true (show (i : Int) < e.l.length by omega), cond_true, getI hn, Option.bind_some]
    rw [rright_eqB n (hS n (List.mem_of_getElem? hn)), Option.bind_some]
    by_cases hNn : NB n
    rotate_left
    · cases hr : rightB n with
      | false => exact .inr ⟨_, rfl, fun h => absurd (h i n hn).1 (by simp [hr]), fun _ => rfl⟩
      | true => exact absurd (right_nb n hr) hNn
    obtain ⟨o, h1, h2, h3⟩ := rmayK i (kidsP n) (cntU e.l i) (depU e.l i) (63 * i) (by omega) (kids_len n hNn) (by rw [cntU_len]; omega) (by rw [cntU_len, depU_len]) (cntU_bdp _ i (fun j m hj hm => right_nb m (hI j m hj hm).1))
    cases hr : rightB n with
    | false =>
      exact .inr ⟨_, rfl, fun h => absurd (h i n hn).1 (by simp [hr]), fun _ => rfl⟩
    | true =>
      rw [Bool.not_true, cond_false, Option.bind_some, rkids_eq n hNn, Option.bind_some, h1, Option.bind_some]
      by_cases hq : inL i (kidsP n)
      · rw [h2 hq, go_on]
        have hdl : i < (depU e.l i).length := by rw [depU_len]; omega
        have hb := mx_bd (M := (i : Int)) (fun k => bd_gd (depU_bd e.l i) (by omega) k) (kidsP n) (gd (depU e.l i) i) (bd_gd (depU_bd e.l i) (by omega) _)
        simp only
        rw [idxD (k := (i : Int)) (by omega) (by rw [List.length_set]; omega), Option.bind_some, gd_self hdl, grd_pos (by omega), Option.bind_some, Option.bind_some]
        have hgo : ∀ (hok : n.kind = 8 → ∃ m, e.l[n.a.toNat]? = some m ∧ m.kind = 5), ((incs (cntU e.l i) (kidsP n), ((depU e.l i).set i (mx (gd (depU e.l i)) (gd (depU e.l i) i) (kidsP n))).set (i : Int).toNat (mx (gd (depU e.l i)) (gd (depU e.l i) i) (kidsP n) + 1)) : List Int × List Int) = (cntU e.l (i + 1), depU e.l (i + 1)) ∧ ∀ (j : Nat) n, j < i + 1 → e.l[j]? = some n → okN e.l j n := by
          intro hok
          refine ⟨by rw [cntU_s hn, depU_s hn, Int.toNat_natCast, List.set_set], ?_⟩
          intro j x hj hx
          by_cases hji : j = i
          · subst hji
            rw [hn] at hx
            rw [← Option.some.inj hx]
            exact ⟨hr, hq, hok⟩
          · exact hI j x (by omega) hx
        by_cases h8 : n.kind = 8
        · have ha := hq n.a (kind8 h8)
          have hal : n.a.toNat < e.l.length := by omega
          rw [decide_eq_true h8, cond_true, Option.bind_some, show idx e.l n.a = some e.l[n.a.toNat] by
            obtain ⟨m, hm⟩ : ∃ m : Nat, n.a = (m : Int) := ⟨n.a.toNat, by omega⟩
            simp only [hm, Int.toNat_natCast]
            rw [idx_nat, List.getElem?_eq_getElem], Option.bind_some]
          by_cases h5 : e.l[n.a.toNat].kind = 5
          · rw [decide_eq_true h5, Bool.not_true, cond_false, grd_pos (by omega)]
            exact .inl ⟨(_, _), rfl, hgo fun _ => ⟨_, List.getElem?_eq_getElem hal, h5⟩⟩
          · rw [decide_eq_false h5, Bool.not_false, cond_true]
            refine .inr ⟨_, rfl, fun h => ?_, fun _ => rfl⟩
            obtain ⟨m, hm, hm5⟩ := (h i n hn).2.2 h8
            rw [List.getElem?_eq_getElem hal] at hm
            exact absurd (by rw [Option.some.inj hm]; exact hm5) h5
        · rw [decide_eq_false h8, cond_false, grd_pos (by omega)]
          exact .inl ⟨(_, _), rfl, hgo fun h => absurd h h8⟩
      · rw [h3 hq]
        exact .inr ⟨_, rfl, fun h => absurd (h i n hn).2.1 hq, fun _ => rfl⟩
  · rintro m s ⟨rfl, hI⟩
    simp only [m_syntagmaref05_May_l1]
    rw [decide_eq_false (by omega), cond_false]
    exact ⟨_, rfl, fun _ => rfl, fun h => absurd (fun i n hn => hI i n (getLt hn) hn) h⟩
theorem depK (i : Nat) (ks d : List Int) (hks : ks.length ≤ 63) (hi : i < d.length) (hI : inL i ks) :
    m_tree_depths_l2 (i : Int) ks FU (0, d) = some (d.set i (mx (gd d) (gd d i) ks)) := by
  obtain ⟨o, h1, h2⟩ := loop_rng (φ := fun n j s => m_tree_depths_l2 (i : Int) ks n (j, s)) (l := ks) (fun j s => s = d.set i (mx (gd d) (gd d i) (ks.take j))) (fun o => o = d.set i (mx (gd d) (gd d i) ks)) (by
    rintro n j x s hx hj rfl
    simp only [m_tree_depths_l2]
    have hq := hI x (List.mem_of_getElem? hx)
    have hxi : x.toNat ≠ i := by omega
    rw [decide_eq_true (show (j : Int) < ks.length by omega), cond_true, getI hx, Option.bind_some]
    rw [idxD (k := (i : Int)) (by omega) (by rw [List.length_set]; omega), Option.bind_some, idxD (k := x) (by omega) (by rw [List.length_set]; omega), Option.bind_some, Option.bind_some, grd_pos (by omega)]
    refine .inl ⟨_, rfl, ?_⟩
    rw [take_snoc hx, mx_snoc, gd_self (by omega), gd_other hxi, Int.toNat_natCast, List.set_set]) (by
    rintro n s rfl
    simp only [m_tree_depths_l2]
    rw [decide_eq_false (by omega), cond_false, List.take_length]
    exact ⟨_, rfl, rfl⟩) (by rw [FUv]; omega) d (by
    show d = d.set i (gd d i)
    rw [set_gd (by omega)])
  rw [h1, h2]
theorem depths_eq (e : ApiExpr) (hl : e.l.length ≤ 700) (hN : ∀ n ∈ e.l, NB n) (hok : allOk e.l) : m_tree_depths e = some (depU e.l e.l.length) := by
  unfold m_tree_depths
  rw [grd_pos (by omega), grd_pos (by omega), Int.toNat_natCast]
  obtain ⟨o, h1, h2⟩ := loop_rng (φ := fun n j s => m_tree_depths_l1 e n (j, s)) (l := e.l) (fun i s => s = depU e.l i) (fun o => o = depU e.l e.l.length) (by
    rintro m i n s hn hi rfl
    simp only [m_tree_depths_l1]
    have hNn := hN n (List.mem_of_getElem? hn)
    have hdl : i < (depU e.l i).length := by rw [depU_len]; omega
    have hb := mx_bd (M := (i : Int)) (fun k => bd_gd (depU_bd e.l i) (by omega) k) (kidsP n) (gd (depU e.l i) i) (bd_gd (depU_bd e.l i) (by omega) _)
    rw [decide_eq_true (show (i : Int) < e.l.length by omega), cond_true, getI hn, Option.bind_some]
    rw [show m_tree_Kids (⟨n.kind, n.a, n.b, n.c, n.n_, n.name, n.s, n.l, n.pos⟩ : ApiNode) = m_tree_Kids n from rfl, kids_eq n hNn, Option.bind_some, depK i _ _ (kids_len n hNn) hdl (hok i n hn).2.1, Option.bind_some]
    rw [idxD (k := (i : Int)) (by omega) (by rw [List.length_set]; omega), Option.bind_some, gd_self hdl, grd_pos (by omega), Option.bind_some, grd_pos (by omega)]
    refine .inl ⟨_, rfl, ?_⟩
    rw [depU_s hn, Int.toNat_natCast, List.set_set]) (by
    rintro n s rfl
    simp only [m_tree_depths_l1]
    rw [decide_eq_false (by omega), cond_false]
    exact ⟨_, rfl, rfl⟩) (by rw [FUv]; omega) (List.replicate e.l.length 0) rfl
  rw [h1, h2, Option.bind_some]
theorem contains_eq (l : List Int) (h : l.length ≤ 1000) : m_slices_ContainsFunc_int_int l (fun y0 => m_tree_May_1 y0) = some (decide (∃ c ∈ l, c ≠ 1)) := by
  unfold m_slices_ContainsFunc_int_int m_slices_IndexFunc_int_int
  rw [loop_find (φ := m_slices_IndexFunc_int_int_l1 l (fun y0 => m_tree_May_1 y0)) (l := l) (fun i => (i : Int)) (fun c => !decide (c = 1)) ?_ ?_ (by rw [FUv]; omega)]
  · rw [Option.bind_some]
    cases hf : l.findIdx? (fun c => !decide (c = 1)) with
    | none =>
      have : ¬ ∃ c ∈ l, c ≠ 1 := by
        rintro ⟨c, hc, hne⟩
        have := List.findIdx?_eq_none_iff.1 hf c hc
        simp [hne] at this
      rw [decide_eq_false this]; rfl
    | some i =>
      obtain ⟨hi, h1, _⟩ := List.findIdx?_eq_some_iff_getElem.1 hf
      have : ∃ c ∈ l, c ≠ 1 := ⟨l[i], List.getElem_mem hi, by simpa using h1⟩
      rw [decide_eq_true this]
      show some (decide (0 ≤ (i : Int))) = some true
      rw [decide_eq_true (by omega)]
  · intro n i x hx hi
    simp only [m_slices_IndexFunc_int_int_l1]
    rw [decide_eq_true (show (i : Int) < l.length by omega), cond_true, getI hx, Option.bind_some, show m_tree_May_1 x = some (!decide (x = 1)) from rfl, Option.bind_some]
    exact ⟨fun hq => by rw [hq, cond_false, grd_pos (by omega)], fun hq => by rw [hq, cond_true]⟩
  · intro n
    simp only [m_slices_IndexFunc_int_int_l1]
    rw [decide_eq_false (by omega), cond_false]
def odd1 (L : List ApiNode) : Prop := ∃ c ∈ (cntU L L.length).take (L.length - 1), c ≠ 1
noncomputable def mayT (L : List ApiNode) : Int := if L.length = 0 ∨ 600 < L.length then 8 else if ¬ allOk L then 4 else if odd1 L then 4 else if 100 < gd (depU L L.length) ((L.length : Int) - 1) then 6 else 0
theorem may_eq (e : ApiExpr) (hl : e.l.length ≤ 701) (hN : ∀ n ∈ e.l, NB n) : m_tree_May e = some (mayT e.l) := by
  unfold m_tree_May mayT
  by_cases h0 : e.l.length = 0 ∨ 600 < e.l.length
  · rw [if_pos h0, show (decide ((e.l.length : Int) = 0) || decide (600 < (e.l.length : Int))) = true by rw [Bool.or_eq_true, decide_eq_true_eq, decide_eq_true_eq]; omega, cond_true]
  rw [if_neg h0, decide_eq_false (by omega), decide_eq_false (by omega), Bool.or_false, cond_false, grd_pos (by omega), grd_pos (by omega), Int.toNat_natCast]
  obtain ⟨o, h1, h2, h3⟩ := mayL e (by omega) hN
  rw [h1, Option.bind_some]
  by_cases hok : allOk e.l
  · rw [h2 hok, go_on, if_neg (fun h => h hok), cntU_len, grd_pos (by omega), show ((e.l.length : Int) - 1) = ((e.l.length - 1 : Nat) : Int) by omega, sli_take (by rw [cntU_len]; omega), Option.bind_some, contains_eq _ (by simp; omega), Option.bind_some]
    by_cases ho : odd1 e.l
    · rw [if_pos ho, decide_eq_true (p := ∃ c ∈ _, c ≠ 1) ho, cond_true]
    · rw [if_neg ho, decide_eq_false (p := ∃ c ∈ _, c ≠ 1) ho, cond_false, depths_eq e (by omega) hN hok, Option.bind_some, grd_pos (by omega), idxD (by omega) (by rw [depU_len]; omega), Option.bind_some]
      by_cases hd : 100 < gd (depU e.l e.l.length) ((e.l.length - 1 : Nat) : Int)
      · rw [if_pos hd, decide_eq_true hd, cond_true]
      · rw [if_neg hd, decide_eq_false hd, cond_false]
  · rw [h3 hok, if_pos hok]; rfl
theorem rmay_eqB (e : ApiExpr) (hl : e.l.length ≤ 701) (hS : ∀ n ∈ e.l, n.l.length * 40 ≤ 140737488355328) : m_syntagmaref05_May e = some (mayT e.l) := by
  unfold m_syntagmaref05_May mayT
  by_cases h0 : e.l.length = 0 ∨ 600 < e.l.length
  · rw [if_pos h0, show (decide ((e.l.length : Int) < 1) || decide (600 < (e.l.length : Int))) = true by rw [Bool.or_eq_true, decide_eq_true_eq, decide_eq_true_eq]; omega, cond_true]
  rw [if_neg h0, decide_eq_false (by omega), decide_eq_false (by omega), Bool.or_false, cond_false, grd_pos (by omega), grd_pos (by omega), grd_pos (by omega), grd_pos (by omega), Int.toNat_natCast]
  obtain ⟨o, h1, h2, h3⟩ := rmayL e (by omega) hS
  rw [h1, Option.bind_some]
  by_cases hok : allOk e.l
  · rw [h2 hok, go_on, if_neg (fun h => h hok)]
    have hL : ((cntU e.l e.l.length).take (e.l.length - 1)).length = e.l.length - 1 := by rw [List.length_take, cntU_len]; omega
    show (m_syntagmaref05_May_l3 e (cntU e.l e.l.length) FU 0).bind _ = _
    rw [loop_any (φ := m_syntagmaref05_May_l3 e (cntU e.l e.l.length)) (l := (cntU e.l e.l.length).take (e.l.length - 1)) 4 (fun _ c => c ≠ 1) ?_ ?_ (by rw [FUv, hL]; omega)]
    · rw [Option.bind_some]
      by_cases ho : odd1 e.l
      · rw [if_pos ho, if_pos]
        · rfl
        · obtain ⟨c, hc, hne⟩ := ho
          obtain ⟨i, hi, hx⟩ := List.getElem_of_mem hc
          exact ⟨i, c, by rw [← hx]; exact List.getElem?_eq_getElem hi, hne⟩
      · rw [if_neg ho, if_neg, go_on, grd_pos (by omega), idxD (by omega) (by rw [depU_len]; omega), Option.bind_some]
        · by_cases hd : 100 < gd (depU e.l e.l.length) ((e.l.length : Int) - 1)
          · rw [if_pos hd, decide_eq_true hd, cond_true]
          · rw [if_neg hd, decide_eq_false hd, cond_false]
        · rintro ⟨i, c, hx, hne⟩
          exact ho ⟨c, List.mem_of_getElem? hx, hne⟩
    · intro n i x hx hi
      simp only [m_syntagmaref05_May_l3]
      rw [hL] at hi
      have hx2 : (cntU e.l e.l.length)[i]? = some x := by
        rw [List.getElem?_take, if_pos hi] at hx
        exact hx
      rw [grd_pos (by omega), decide_eq_true (show (i : Int) < (e.l.length : Int) - 1 by omega), cond_true, getI hx2, Option.bind_some]
      exact ⟨fun hq => by rw [decide_eq_true (Classical.not_not.1 hq), Bool.not_true, cond_false, grd_pos (by omega)], fun hq => by rw [decide_eq_false hq, Bool.not_false, cond_true]⟩
    · intro n
      simp only [m_syntagmaref05_May_l3]
      rw [grd_pos (by omega), decide_eq_false (by omega), cond_false]
  · rw [h3 hok, if_pos hok]; rfl
theorem rmay_eq (e : ApiExpr) (hl : e.l.length ≤ 701) (hN : ∀ n ∈ e.l, NB n) : m_syntagmaref05_May e = some (mayT e.l) := rmay_eqB e hl (fun n hn => by have := hN n hn; unfold NB at this; omega)
theorem depU_zero (L : List ApiNode) (k : Nat) : ∀ j : Nat, j ≤ k → gd (depU L j) (k : Int) = 0
  | 0, _ => by
    unfold gd depU
    rw [Int.toNat_natCast, List.getElem?_replicate]
    split <;> rfl
  | j + 1, h => by
    rw [depU]
    split
    · rw [gd_other (by omega)]; exact depU_zero L k j (by omega)
    · exact depU_zero L k j (by omega)
theorem depU_keep (L : List ApiNode) (k : Nat) (i : Nat) (hk : k < i) : ∀ m : Nat, gd (depU L (i + m)) (k : Int) = gd (depU L i) (k : Int)
  | 0 => rfl
  | m + 1 => by
    rw [show i + (m + 1) = (i + m) + 1 from rfl, depU]
    split
    · rw [gd_other (by omega)]; exact depU_keep L k i hk m
    · exact depU_keep L k i hk m
theorem depU_rec (L : List ApiNode) (i : Nat) (n : ApiNode) (hn : L[i]? = some n) (hI : inL i (kidsP n)) : gd (depU L L.length) (i : Int) = mx (gd (depU L L.length)) 0 (kidsP n) + 1 := by
  have hi := getLt hn
  have e1 := depU_keep L i (i + 1) (by omega) (L.length - (i + 1))
  rw [show i + 1 + (L.length - (i + 1)) = L.length by omega] at e1
  rw [e1, depU_s hn, gd_self (by rw [depU_len]; omega), depU_zero L i i (by omega)]
  congr 1
  refine mx_congr _ _ fun k hk => ?_
  have hk2 := hI k hk
  obtain ⟨m, rfl⟩ : ∃ m : Nat, k = (m : Int) := ⟨k.toNat, by omega⟩
  have e2 := depU_keep L m i (by omega) (L.length - i)
  rw [show i + (L.length - i) = L.length by omega] at e2
  exact e2.symm
theorem mayT_ok {L : List ApiNode} (h : mayT L = 0) : 1 ≤ L.length ∧ L.length ≤ 600 ∧ allOk L := by
  unfold mayT at h
  by_cases h0 : L.length = 0 ∨ 600 < L.length
  · rw [if_pos h0] at h; omega
  · rw [if_neg h0] at h
    by_cases h1 : allOk L
    · exact ⟨by omega, by omega, h1⟩
    · rw [if_pos h1] at h; omega
def fewN (n : ApiNode) : ApiNode := ⟨n.kind, n.a, n.b, n.c, n.n_, n.name, n.s, [] ++ n.l.take 60, n.pos⟩
def fewE (e : ApiExpr) : ApiExpr := ⟨(e.l.take 700).map fewN⟩
theorem min60 (l : List ApiField) : sli l 0 (if 60 < (l.length : Int) then 60 else (l.length : Int)) = some (l.take 60) := by
  by_cases h : 60 < (l.length : Int)
  · rw [if_pos h]; exact sli_take (k := 60) (by omega)
  · rw [if_neg h, sli_take (by omega), List.take_of_length_le (by omega), List.take_of_length_le (by omega)]
theorem few_eq (e : ApiExpr) : m_syntagmalaw05_Few e = some (fewE e) := by
  unfold m_syntagmalaw05_Few
  have hL : (e.l.take 700).length ≤ 700 ∧ (e.l.take 700).length ≤ e.l.length := by rw [List.length_take]; omega
  rw [loop_map (φ := fun n i s => m_syntagmalaw05_Few_l1 e n (i, s)) (l := e.l.take 700) fewN id 0 ?_ ?_ (by rw [FUv]; omega) [] rfl]
  · rfl
  · intro n i x s hx hi hs
    have hx2 : e.l[i]? = some x := by
      rw [List.getElem?_take, if_pos (by omega)] at hx
      exact hx
    have h60 : (x.l.take 60).length ≤ 60 := by rw [List.length_take]; omega
    simp only [m_syntagmalaw05_Few_l1]
    rw [decide_eq_true (show (i : Int) < e.l.length by omega), decide_eq_true (show (i : Int) < 700 by omega), Bool.and_true, cond_true, getI hx2, Option.bind_some, min60, Option.bind_some, grd_pos (by omega), grd_pos (by simp only [List.length_cons, List.length_nil]; omega), grd_pos (by omega)]
    rfl
  · intro n s hs
    simp only [m_syntagmalaw05_Few_l1]
    rw [show (decide (((e.l.take 700).length : Int) < e.l.length) && decide (((e.l.take 700).length : Int) < 700)) = false by
      rw [List.length_take, Bool.and_eq_false_iff, decide_eq_false_iff_not, decide_eq_false_iff_not]; omega, cond_false]
    rfl
theorem fewN_fewN (n : ApiNode) : fewN (fewN n) = fewN n := by
  unfold fewN
  simp only [List.nil_append, ApiNode.mk.injEq, true_and, and_true]
  exact List.take_of_length_le (by rw [List.length_take]; omega)
theorem fewE_fewE (e : ApiExpr) : fewE (fewE e) = fewE e := by
  unfold fewE
  simp only [ApiExpr.mk.injEq]
  rw [List.take_of_length_le (by simp; omega), List.map_map]
  congr 1
  funext n
  exact fewN_fewN n
theorem fewE_len (e : ApiExpr) : (fewE e).l.length ≤ 700 := by unfold fewE; simp; omega
theorem fewN_nb (n : ApiNode) : NB (fewN n) := by unfold fewN NB; simp; omega
theorem fewE_nb (e : ApiExpr) : ∀ n ∈ (fewE e).l, NB n := by
  intro n hn
  obtain ⟨m, _, rfl⟩ := List.mem_map.1 hn
  exact fewN_nb m
end Go.Proofs.Ytnnjgbcojdnhhaa
set_option linter.unusedVariables false
set_option linter.unusedSimpArgs false
set_option maxRecDepth 100000
namespace Go.Proofs.Ytnnjgbcojdnhhaa
open Go.V
open Classical
theorem field_eqv (a b : ApiField) : ApiField.eqv a b = true ↔ a = b := by
  obtain ⟨a1, a2, a3⟩ := a
  obtain ⟨b1, b2, b3⟩ := b
  unfold ApiField.eqv
  simp
def sameN (a b : ApiNode) : Prop := a.kind = b.kind ∧ a.a = b.a ∧ a.b = b.b ∧ a.c = b.c ∧ a.n_ = b.n_ ∧ a.name = b.name ∧ a.s = b.s ∧ a.l = b.l
theorem getI2 {α : Type} {l : List α} {i : Nat} (h : i < l.length) : ∃ x, l[i]? = some x := ⟨l[i], List.getElem?_eq_getElem h⟩
theorem list_same {α : Type} {a b : List α} (hl : a.length = b.length) : (∀ (i : Nat) x, a[i]? = some x → ∃ y, b[i]? = some y ∧ x = y) ↔ a = b := by
  constructor
  · intro h
    refine List.ext_getElem? fun i => ?_
    by_cases hi : i < a.length
    · obtain ⟨y, h1, h2⟩ := h i a[i] (List.getElem?_eq_getElem hi)
      rw [h1, ← h2, List.getElem?_eq_getElem hi]
    · rw [List.getElem?_eq_none (by omega), List.getElem?_eq_none (by omega)]
  · rintro rfl i x hx
    exact ⟨x, hx, rfl⟩
theorem rsameNode_eq (a b : ApiNode) (h : NB a) : m_syntagmaref05_SameNode a b = some (decide (sameN a b)) := by
  unfold NB at h
  unfold m_syntagmaref05_SameNode
  by_cases hc : a.kind = b.kind ∧ a.a = b.a ∧ a.b = b.b ∧ a.c = b.c ∧ a.n_ = b.n_ ∧ a.name = b.name ∧ a.s = b.s ∧ a.l.length = b.l.length
  · obtain ⟨h1, h2, h3, h4, h5, h6, h7, hl⟩ := hc
    rw [decide_eq_true h1, decide_eq_true h2, decide_eq_true h3, decide_eq_true h4, decide_eq_true h5, decide_eq_true h6, decide_eq_true h7, decide_eq_true (show (a.l.length : Int) = b.l.length by omega)]
    show (m_syntagmaref05_SameNode_l1 a b FU 0).bind _ = _
    refine bnd (loop_all (φ := m_syntagmaref05_SameNode_l1 a b) (l := a.l) false (fun i x => ∃ y, b.l[i]? = some y ∧ x = y) ?_ ?_ (by rw [FUv]; omega)) ?_
    · intro n i x hx hi
      obtain ⟨y, hy⟩ := getI2 (l := b.l) (i := i) (by omega)
      simp only [m_syntagmaref05_SameNode_l1]
      rw [decide_eq_true (show (i : Int) < a.l.length by omega), cond_true, getI hx, Option.bind_some, getI hy, Option.bind_some]
      constructor
      · rintro ⟨y2, h1, h2⟩
        rw [hy] at h1
        rw [(field_eqv x y).2 (by rw [h2, Option.some.inj h1]), Bool.not_true, cond_false, grd_pos (by omega)]
      · intro h2
        have : ApiField.eqv x y = false := by
          rw [← Bool.not_eq_true, field_eqv]
          exact fun h3 => h2 ⟨y, hy, h3⟩
        rw [this, Bool.not_false, cond_true]
    · intro n
      simp only [m_syntagmaref05_SameNode_l1]
      rw [decide_eq_false (by omega), cond_false]
    · by_cases ha : a.l = b.l
      · rw [if_pos ((list_same hl).2 ha), decide_eq_true (show sameN a b from ⟨h1, h2, h3, h4, h5, h6, h7, ha⟩)]; rfl
      · rw [if_neg (fun h => ha ((list_same hl).1 h)), decide_eq_false (fun h : sameN a b => ha h.2.2.2.2.2.2.2)]; rfl
  · rw [decide_eq_false (p := sameN a b) (fun h => hc ⟨h.1, h.2.1, h.2.2.1, h.2.2.2.1, h.2.2.2.2.1, h.2.2.2.2.2.1, h.2.2.2.2.2.2.1, by rw [h.2.2.2.2.2.2.2]⟩)]
    rw [show ((((((((!decide (a.kind = b.kind)) || (!decide (a.a = b.a))) || (!decide (a.b = b.b))) || (!decide (a.c = b.c))) || (!decide (a.n_ = b.n_))) || (!decide ((a.name : List UInt8) = b.name))) || (!decide ((a.s : List UInt8) = b.s))) || (!decide ((a.l.length : Int) = (b.l.length : Int)))) = true by
      rw [← Bool.not_eq_false]
      intro h
      apply hc
      simp only [Bool.or_eq_false_iff, Bool.not_eq_false', decide_eq_true_eq] at h
      obtain ⟨⟨⟨⟨⟨⟨⟨h1, h2⟩, h3⟩, h4⟩, h5⟩, h6⟩, h7⟩, h8⟩ := h
      exact ⟨h1, h2, h3, h4, h5, h6, h7, by omega⟩]
    rfl
def sameL (a b : List ApiNode) : Prop := a.length = b.length ∧ ∀ (i : Nat) x, a[i]? = some x → ∃ y, b[i]? = some y ∧ sameN x y
theorem sameL_refl (a : List ApiNode) : sameL a a := ⟨rfl, fun _ x h => ⟨x, h, rfl, rfl, rfl, rfl, rfl, rfl, rfl, rfl⟩⟩
theorem sameList_eqB (a b : ApiExpr) (h : a.l.length ≤ 1000000) (hN : ∀ n ∈ a.l, NB n) : m_syntagmaref05_SameList a b = some (decide (sameL a.l b.l)) := by
  unfold m_syntagmaref05_SameList
  by_cases hl : a.l.length = b.l.length
  · rw [decide_eq_true (show (a.l.length : Int) = b.l.length by omega), Bool.not_true, cond_false]
    refine bnd (loop_all (φ := m_syntagmaref05_SameList_l1 a b) (l := a.l) false (fun i x => ∃ y, b.l[i]? = some y ∧ sameN x y) ?_ ?_ (by rw [FUv]; omega)) ?_
    · intro n i x hx hi
      obtain ⟨y, hy⟩ := getI2 (l := b.l) (i := i) (by omega)
      simp only [m_syntagmaref05_SameList_l1]
      rw [decide_eq_true (show (i : Int) < a.l.length by omega), cond_true, getI hx, Option.bind_some, getI hy, Option.bind_some]
      rw [rsameNode_eq x y (hN x (List.mem_of_getElem? hx)), Option.bind_some]
      constructor
      · rintro ⟨y2, h1, h2⟩
        rw [hy] at h1
        rw [decide_eq_true (show sameN x y by rw [Option.some.inj h1]; exact h2), Bool.not_true, cond_false, grd_pos (by omega)]
      · intro h2
        rw [decide_eq_false (fun h3 => h2 ⟨y, hy, h3⟩), Bool.not_false, cond_true]
    · intro n
      simp only [m_syntagmaref05_SameList_l1]
      rw [decide_eq_false (by omega), cond_false]
    · by_cases ha : sameL a.l b.l
      · rw [if_pos ha.2, decide_eq_true ha]; rfl
      · rw [if_neg (fun h => ha ⟨hl, h⟩), decide_eq_false ha]; rfl
  · rw [decide_eq_false (show ¬ (a.l.length : Int) = b.l.length by omega), Bool.not_false, cond_true, decide_eq_false (fun h : sameL a.l b.l => hl h.1)]
def relF (f : ApiField) (k : Int) : ApiField := ⟨f.name, f.var, k⟩
def withP (n : ApiNode) (ks : List Int) : ApiNode := ⟨n.kind, ((ks.take (abcN n.kind))[0]?).getD 0, ((ks.take (abcN n.kind))[1]?).getD 0, ((ks.take (abcN n.kind))[2]?).getD 0, n.n_, n.name, n.s, if partsB n.kind = true then List.zipWith relF n.l (ks.drop (abcN n.kind)) else [], n.pos⟩
theorem zip_snoc {α β γ : Type} (f : α → β → γ) : ∀ (i : Nat) (l : List α) (k : List β) (x : α) (y : β), l[i]? = some x → k[i]? = some y → List.zipWith f (l.take (i + 1)) k = List.zipWith f (l.take i) k ++ [f x y]
  | _, [], _, _, _, h, _ => by simp at h
  | _, _ :: _, [], _, _, _, h => by simp at h
  | 0, a :: l, b :: k, x, y, h1, h2 => by
    simp only [List.getElem?_cons_zero, Option.some.injEq] at h1 h2
    subst h1 h2
    simp
  | i + 1, a :: l, b :: k, x, y, h1, h2 => by
    simp only [List.getElem?_cons_succ] at h1 h2
    have := zip_snoc f i l k x y h1 h2
    rw [List.take_succ_cons, List.take_succ_cons, List.zipWith_cons_cons, List.zipWith_cons_cons, this]; rfl
theorem withL (ks : List Int) (m : Nat) (p : Bool) (z : List ApiField) (hz : z.length ≤ 60) (hm : m ≤ 3) (hl : ks.length = m + z.length) (a1 a2 a3 a4 a5 : Int) (a6 a7 : List UInt8) (a8 : Int) :
    m_tree_with_l1 ks ⟨(m : Int), p⟩ z FU (0, z, a1, a2, a3, a4, a5, a6, a7, a8) = some (List.zipWith relF z (ks.drop m), a1, a2, a3, a4, a5, a6, a7, a8) := by
  obtain ⟨o, h1, h2⟩ := loop_rng (φ := fun n i s => m_tree_with_l1 ks ⟨(m : Int), p⟩ z n (i, s, a1, a2, a3, a4, a5, a6, a7, a8)) (l := z) (fun i s => s = List.zipWith relF (z.take i) (ks.drop m) ++ z.drop i) (fun o => o = (List.zipWith relF z (ks.drop m), a1, a2, a3, a4, a5, a6, a7, a8)) (by
    rintro n i x s hx hi rfl
    have hzl : (List.zipWith relF (z.take i) (ks.drop m)).length = i := by
      rw [List.length_zipWith, List.length_take, List.length_drop]; omega
    obtain ⟨y, hy⟩ := getI2 (l := ks) (i := m + i) (by omega)
    have hd : z.drop i = x :: z.drop (i + 1) := by
      obtain ⟨hi2, hx2⟩ := List.getElem?_eq_some_iff.1 hx
      rw [List.drop_eq_getElem_cons hi2, hx2]
    have hsi : (List.zipWith relF (z.take i) (ks.drop m) ++ z.drop i)[i]? = some x := by
      rw [List.getElem?_append_right (by omega), hzl, Nat.sub_self, hd]; rfl
    simp only [m_tree_with_l1]
    rw [decide_eq_true (show (i : Int) < z.length by omega), cond_true, grd_pos (by omega), decide_eq_true (show (m : Int) + (i : Int) < ks.length by omega), cond_true, show ((m : Int) + (i : Int)) = ((m + i : Nat) : Int) by omega, getI hy, Option.bind_some, getI hsi, Option.bind_some, grd_pos (by omega)]
    refine .inl ⟨_, rfl, ?_⟩
    rw [Int.toNat_natCast, List.set_append_right _ _ (by omega), hzl, Nat.sub_self, hd, List.set_cons_zero, zip_snoc relF i z (ks.drop m) x y hx (by rw [List.getElem?_drop]; exact hy), List.append_assoc]
    rfl) (by
    rintro n s rfl
    simp only [m_tree_with_l1]
    rw [decide_eq_false (by omega), cond_false, List.take_length, List.drop_length, List.append_nil]
    exact ⟨_, rfl, rfl⟩) (by rw [FUv]; omega) z (by simp)
  rw [h1, h2]
def noParts (n : ApiNode) : Prop := partsB n.kind = false → n.l = []
theorem kidsP_len (n : ApiNode) (hp : noParts n) : (kidsP n).length = abcN n.kind + n.l.length := by
  unfold kidsP
  have := abc_le n.kind
  rw [List.length_append, List.length_take]
  cases h : partsB n.kind with
  | false => rw [if_neg (by decide), hp h]; simp; omega
  | true => rw [if_pos rfl]; simp; omega
theorem kidsP_len2 (n : ApiNode) : (kidsP n).length = abcN n.kind + (if partsB n.kind = true then n.l.length else 0) := by
  unfold kidsP
  have := abc_le n.kind
  rw [List.length_append, List.length_take]
  cases h : partsB n.kind with
  | false => rw [if_neg (by decide), if_neg (by decide)]; simp; omega
  | true => rw [if_pos rfl, if_pos rfl]; simp; omega
theorem with_eqB (n : ApiNode) (ks : List Int) (h : NB n) (hk : ks.length = (kidsP n).length) : m_tree_with n ks = some (withP n ks) := by
  rw [kidsP_len2 n] at hk
  have h3 := abc_le n.kind
  unfold NB at h
  unfold m_tree_with withP
  rw [shape_eq, Option.bind_some]
  simp only
  rw [if_neg (by omega), sli_take (by omega), Option.bind_some]
  cases hb : partsB n.kind with
  | false =>
    rw [hb, if_neg (by decide)] at hk
    rw [Bool.not_false, cond_true, Option.bind_some]
    simp only
    rw [grd_pos (by simp), withL ks (abcN n.kind) false [] (by simp) h3 (by simpa using hk), Option.bind_some, if_neg (by decide)]
    simp
  | true =>
    rw [hb, if_pos rfl] at hk
    rw [Bool.not_true, cond_false, Option.bind_some]
    simp only
    rw [grd_pos (by omega), withL ks (abcN n.kind) true n.l h h3 hk, Option.bind_some]
    all_goals rfl
theorem with_eq (n : ApiNode) (ks : List Int) (h : NB n) (hp : noParts n) (hk : ks.length = (kidsP n).length) : m_tree_with n ks = some (withP n ks) := with_eqB n ks h hk
theorem rwithL (n : ApiNode) (ks : List Int) (m : Nat) (hz : n.l.length ≤ 60) (hm : m ≤ 3) (hl : ks.length = m + n.l.length) (a1 a2 a3 a4 a5 : Int) (a6 a7 : List UInt8) (a8 : Int) :
    m_syntagmaref05_with_l1 n ks FU (0, [], a1, a2, a3, a4, a5, a6, a7, a8) = some ((m : Int), List.zipWith relF n.l (ks.drop m), a1, a2, a3, a4, a5, a6, a7, a8) := by
  have em : ((ks.length : Int) - (n.l.length : Int)) = (m : Int) := by omega
  obtain ⟨o, h1, h2⟩ := loop_rng (φ := fun f i s => m_syntagmaref05_with_l1 n ks f (i, s, a1, a2, a3, a4, a5, a6, a7, a8)) (l := n.l) (fun i s => s = List.zipWith relF (n.l.take i) (ks.drop m)) (fun o => o = ((m : Int), List.zipWith relF n.l (ks.drop m), a1, a2, a3, a4, a5, a6, a7, a8)) (by
    rintro f i x s hx hi rfl
    have hzl : (List.zipWith relF (n.l.take i) (ks.drop m)).length = i := by
      rw [List.length_zipWith, List.length_take, List.length_drop]; omega
    obtain ⟨y, hy⟩ := getI2 (l := ks) (i := m + i) (by omega)
    simp only [m_syntagmaref05_with_l1]
    rw [em, decide_eq_true (show (i : Int) < n.l.length by omega), cond_true, getI hx, Option.bind_some, grd_pos (by omega), show ((m : Int) + (i : Int)) = ((m + i : Nat) : Int) by omega, getI hy, Option.bind_some, grd_pos (by rw [hzl]; simp only [List.length_cons, List.length_nil]; omega), grd_pos (by omega)]
    refine .inl ⟨_, rfl, ?_⟩
    rw [zip_snoc relF i n.l (ks.drop m) x y hx (by rw [List.getElem?_drop]; exact hy)]
    rfl) (by
    rintro f s rfl
    simp only [m_syntagmaref05_with_l1]
    rw [em, decide_eq_false (by omega), cond_false, List.take_length]
    exact ⟨_, rfl, rfl⟩) (by rw [FUv]; omega) [] (by simp)
  rw [h1, h2]
theorem wtail (n : ApiNode) (ks : List Int) (m : Nat) (hm : m ≤ 3) (hl : m ≤ ks.length) (l1 : List ApiField) :
    ((bif (decide (0 < (m : Int))) then
    (idx ks 0).bind fun x3 =>
    some (l1, n.kind, x3, 0, 0, n.n_, n.name, n.s, n.pos)
  else
    some (l1, n.kind, 0, 0, 0, n.n_, n.name, n.s, n.pos) : Option ((List ApiField) × Int × Int × Int × Int × Int × (List UInt8) × (List UInt8) × Int)).bind fun (l3, z17, z18, z19, z20, z21, z22, z23, z24) =>
  (bif (decide (1 < (m : Int))) then
    (idx ks 1).bind fun x4 =>
    some (l3, z17, z18, x4, z20, z21, z22, z23, z24)
  else
    some (l3, z17, z18, z19, z20, z21, z22, z23, z24) : Option ((List ApiField) × Int × Int × Int × Int × Int × (List UInt8) × (List UInt8) × Int)).bind fun (l4, z25, z26, z27, z28, z29, z30, z31, z32) =>
  bif (decide (2 < (m : Int))) then
    (idx ks 2).bind fun x5 =>
    some (⟨z25, z26, z27, x5, z29, z30, z31, l4, z32⟩ : ApiNode)
  else
    some (⟨z25, z26, z27, z28, z29, z30, z31, l4, z32⟩ : ApiNode)) = some ⟨n.kind, ((ks.take m)[0]?).getD 0, ((ks.take m)[1]?).getD 0, ((ks.take m)[2]?).getD 0, n.n_, n.name, n.s, l1, n.pos⟩ := by
  match m, ks, hm, hl with
  | 0, ks, _, _ => rfl
  | 1, k0 :: ks, _, _ => rfl
  | 2, k0 :: k1 :: ks, _, _ => rfl
  | 3, k0 :: k1 :: k2 :: ks, _, _ => rfl
theorem rwith_eqB (n : ApiNode) (ks : List Int) (h : NB n) (hk : ks.length = (kidsP n).length) : m_syntagmaref05_with n ks = some (withP n ks) := by
  rw [kidsP_len2 n] at hk
  have h3 := abc_le n.kind
  unfold NB at h
  unfold m_syntagmaref05_with
  rw [show (decide (n.kind = 11) || decide (n.kind = 14)) = partsB n.kind from rfl]
  cases hb : partsB n.kind with
  | false =>
    rw [hb, if_neg (by decide)] at hk
    simp only [Nat.add_zero] at hk
    rw [cond_false, Option.bind_some]
    simp only
    rw [hk]
    refine (wtail n ks (abcN n.kind) h3 (by omega) []).trans ?_
    unfold withP
    rw [if_neg (by rw [hb]; decide)]
  | true =>
    rw [hb, if_pos rfl] at hk
    rw [cond_true, grd_pos (by omega), rwithL n ks (abcN n.kind) h h3 hk, Option.bind_some]
    simp only
    refine (wtail n ks (abcN n.kind) h3 (by omega) _).trans ?_
    unfold withP
    rw [if_pos hb]
theorem rwith_eq (n : ApiNode) (ks : List Int) (h : NB n) (hp : noParts n) (hk : ks.length = (kidsP n).length) : m_syntagmaref05_with n ks = some (withP n ks) := rwith_eqB n ks h hk
def postF (L : List ApiNode) : Nat → Int → List Int
  | 0, _ => []
  | f + 1, i => match L[i.toNat]? with | some n => (kidsP n).flatMap (postF L f) ++ [i] | none => []
def post (L : List ApiNode) (i : Int) : List Int := postF L (i.toNat + 1) i
def kidsAt (L : List ApiNode) (i : Int) : List Int := match L[i.toNat]? with | some n => kidsP n | none => []
def inLs (L : List ApiNode) : Prop := ∀ (i : Nat) n, L[i]? = some n → inL i (kidsP n)
theorem kidsAt_s {L : List ApiNode} {i : Nat} {n : ApiNode} (h : L[i]? = some n) : kidsAt L (i : Int) = kidsP n := by
  unfold kidsAt; rw [Int.toNat_natCast, h]
theorem flatMap_congr2 {α β : Type} {f g : α → List β} : ∀ {l : List α}, (∀ x ∈ l, f x = g x) → l.flatMap f = l.flatMap g
  | [], _ => rfl
  | a :: l, h => by
    rw [List.flatMap_cons, List.flatMap_cons, h a (by simp), flatMap_congr2 fun x hx => h x (by simp [hx])]
theorem postF_eq (L : List ApiNode) (hI : inLs L) : ∀ (f g i : Nat), i < f → i < g → postF L f (i : Int) = postF L g (i : Int)
  | 0, _, i, h, _ => by omega
  | _, 0, i, _, h => by omega
  | f + 1, g + 1, i, hf, hg => by
    simp only [postF, Int.toNat_natCast]
    cases hn : L[i]? with
    | none => rfl
    | some n =>
      simp only
      congr 1
      refine flatMap_congr2 fun k hk => ?_
      have := hI i n hn k hk
      obtain ⟨m, rfl⟩ : ∃ m : Nat, k = (m : Int) := ⟨k.toNat, by omega⟩
      exact postF_eq L hI f g m (by omega) (by omega)
theorem post_rec {L : List ApiNode} (hI : inLs L) {i : Nat} {n : ApiNode} (hn : L[i]? = some n) : post L (i : Int) = (kidsP n).flatMap (post L) ++ [(i : Int)] := by
  unfold post
  rw [Int.toNat_natCast]
  simp only [postF, Int.toNat_natCast]
  rw [hn]
  simp only
  congr 1
  refine flatMap_congr2 fun k hk => ?_
  have := hI i n hn k hk
  obtain ⟨m, rfl⟩ : ∃ m : Nat, k = (m : Int) := ⟨k.toNat, by omega⟩
  rw [Int.toNat_natCast]
  exact postF_eq L hI i (m + 1) m (by omega) (by omega)
/-- All below is not above. -/
theorem post_le {L : List ApiNode} (hI : inLs L) : ∀ (f i : Nat), i < f → i < L.length → ∀ x ∈ post L (i : Int), 0 ≤ x ∧ x ≤ (i : Int)
  | 0, i, h, _ => by omega
  | f + 1, i, hf, hi => by
    obtain ⟨n, hn⟩ := getI2 hi
    intro x hx
    rw [post_rec hI hn, List.mem_append, List.mem_flatMap, List.mem_singleton] at hx
    rcases hx with ⟨k, hk, hx⟩ | rfl
    · have := hI i n hn k hk
      obtain ⟨m, rfl⟩ : ∃ m : Nat, k = (m : Int) := ⟨k.toNat, by omega⟩
      have := post_le hI f m (by omega) (by omega) x hx
      omega
    · omega
/-- A node that stands below another stands among the children of one below it. -/
theorem count_flat {α : Type} (x : Int) (f : α → List Int) : ∀ l : List α, (l.flatMap f).count x = (l.map fun k => (f k).count x).sum
  | [] => rfl
  | a :: l => by rw [List.flatMap_cons, List.count_append, List.map_cons, List.sum_cons, count_flat x f l]
theorem sum_add {α : Type} (f g : α → Nat) : ∀ l : List α, (l.map fun k => f k + g k).sum = (l.map f).sum + (l.map g).sum
  | [] => rfl
  | a :: l => by simp only [List.map_cons, List.sum_cons]; rw [sum_add f g l]; omega
theorem sum_flat {α β : Type} (f : β → Nat) (g : α → List β) : ∀ l : List α, ((l.flatMap g).map f).sum = (l.map fun k => ((g k).map f).sum).sum
  | [] => rfl
  | a :: l => by rw [List.flatMap_cons, List.map_append, List.sum_append, List.map_cons, List.sum_cons, sum_flat f g l]
theorem sum_congr {α : Type} {f g : α → Nat} : ∀ {l : List α}, (∀ x ∈ l, f x = g x) → (l.map f).sum = (l.map g).sum
  | [], _ => rfl
  | a :: l, h => by
    rw [List.map_cons, List.map_cons, List.sum_cons, List.sum_cons, h a (by simp), sum_congr fun x hx => h x (by simp [hx])]
theorem sum_ind (x : Int) : ∀ l : List Int, (l.map fun k => if x = k then 1 else 0).sum = l.count x
  | [] => rfl
  | a :: l => by
    rw [List.map_cons, List.sum_cons, sum_ind x l, List.count_cons]
    by_cases h : x = a
    · rw [if_pos h, h]; simp; omega
    · rw [if_neg h]
      have : (a == x) = false := by simpa using fun e => h e.symm
      rw [this]; simp
theorem post_count {L : List ApiNode} (hI : inLs L) (x : Int) : ∀ (f i : Nat), i < f → i < L.length → (post L (i : Int)).count x = (if x = (i : Int) then 1 else 0) + ((post L (i : Int)).map fun p => (kidsAt L p).count x).sum
  | 0, i, h, _ => by omega
  | f + 1, i, hf, hi => by
    obtain ⟨n, hn⟩ := getI2 hi
    have e := post_rec hI hn
    have ih : ∀ k ∈ kidsP n, (post L k).count x = (if x = k then 1 else 0) + ((post L k).map fun p => (kidsAt L p).count x).sum := by
      intro k hk
      have := hI i n hn k hk
      obtain ⟨m, rfl⟩ : ∃ m : Nat, k = (m : Int) := ⟨k.toNat, by omega⟩
      exact post_count hI x f m (by omega) (by omega)
    rw [e, List.count_append, count_flat, List.map_append, List.sum_append, sum_flat, sum_congr ih, sum_add, sum_ind]
    simp only [List.map_cons, List.map_nil, List.sum_cons, List.sum_nil, Nat.add_zero]
    rw [kidsAt_s hn, List.count_singleton]
    by_cases hx : x = (i : Int)
    · rw [if_pos hx, hx]; simp; omega
    · rw [if_neg hx]
      have : (((i : Int)) == x) = false := by simpa using fun e => hx e.symm
      rw [this]; simp; omega
/-- No node has two parents. -/
def one1 (L : List ApiNode) : Prop := ∀ x : Int, ((List.range L.length).map fun (p : Nat) => (kidsAt L (p : Int)).count x).sum ≤ 1
theorem sum_le_range (N : Nat) (g : Int → Nat) : ∀ (l : List Int), l.Nodup → (∀ p ∈ l, 0 ≤ p ∧ p < (N : Int)) → (l.map g).sum ≤ ((List.range N).map fun (p : Nat) => g (p : Int)).sum := by
  induction N with
  | zero =>
    intro l _ h
    rcases l with _ | ⟨a, l⟩
    · simp
    · have := h a (by simp); omega
  | succ N ih =>
    intro l hd h
    rw [List.range_succ, List.map_append, List.sum_append]
    simp only [List.map_cons, List.map_nil, List.sum_cons, List.sum_nil, Nat.add_zero]
    by_cases hN : (N : Int) ∈ l
    · have hp := List.perm_cons_erase hN
      have h1 : (l.map g).sum = g (N : Int) + ((l.erase (N : Int)).map g).sum := by
        have := (hp.map g).sum_nat
        rw [this, List.map_cons, List.sum_cons]
      have h2 := ih (l.erase (N : Int)) (hd.erase _) (fun p hp2 => by
        have h3 := (hd.mem_erase_iff).1 hp2
        have := h p h3.2
        have := h3.1
        omega)
      omega
    · have h2 := ih l hd (fun p hp => by
        have := h p hp
        have : p ≠ (N : Int) := fun e => hN (e ▸ hp)
        omega)
      omega
theorem sum_filter (g : Int → Nat) (q : Int → Bool) : ∀ l : List Int, (∀ p ∈ l, q p = false → g p = 0) → (l.map g).sum = ((l.filter q).map g).sum
  | [], _ => rfl
  | a :: l, h => by
    have ih := sum_filter g q l fun p hp => h p (by simp [hp])
    rw [List.filter_cons]
    cases hq : q a with
    | true => rw [if_pos rfl, List.map_cons, List.map_cons, List.sum_cons, List.sum_cons, ih]
    | false => rw [if_neg (by decide), List.map_cons, List.sum_cons, h a (by simp) hq, ih, Nat.zero_add]
theorem post_once {L : List ApiNode} (hI : inLs L) (h1 : one1 L) (i : Nat) (hi : i < L.length) : ∀ (d : Nat) (x : Int), (i : Int) - x < (d : Int) → (post L (i : Int)).count x ≤ 1
  | 0, x, h => by
    rw [List.count_eq_zero_of_not_mem]
    · omega
    · intro hx
      have := post_le hI (i + 1) i (by omega) hi x hx
      omega
  | d + 1, x, h => by
    have hc := post_count hI x (i + 1) i (by omega) hi
    have hk : ∀ p ∈ post L (i : Int), (kidsAt L p).count x ≠ 0 → x < p := by
      intro p hp h0
      have hpi := post_le hI (i + 1) i (by omega) hi p hp
      obtain ⟨m, rfl⟩ : ∃ m : Nat, p = (m : Int) := ⟨p.toNat, by omega⟩
      obtain ⟨n, hn⟩ := getI2 (l := L) (i := m) (by omega)
      rw [kidsAt_s hn] at h0
      have hx : x ∈ kidsP n := List.count_pos_iff.1 (by omega)
      exact (hI m n hn x hx).2
    by_cases hxi : x = (i : Int)
    · rw [if_pos hxi, sum_congr (g := fun _ => 0)] at hc
      · have e0 : ∀ l : List Int, (l.map fun _ => 0).sum = 0 := fun l => by induction l <;> simp_all
        rw [e0] at hc; omega
      · intro p hp
        have hpi := post_le hI (i + 1) i (by omega) hi p hp
        by_cases h0 : (kidsAt L p).count x = 0
        · exact h0
        · have := hk p hp h0; omega
    · rw [if_neg hxi, sum_filter (fun p => (kidsAt L p).count x) (fun p => decide (x < p))] at hc
      · have h2 := sum_le_range L.length (fun p => (kidsAt L p).count x) ((post L (i : Int)).filter fun p => decide (x < p)) (by
          rw [List.nodup_iff_count]
          intro a
          by_cases ha : x < a
          · exact Nat.le_trans (List.filter_sublist.count_le a) (post_once hI h1 i hi d a (by omega))
          · rw [List.count_eq_zero_of_not_mem]
            · omega
            · intro hm
              exact absurd (of_decide_eq_true (List.mem_filter.1 hm).2) ha) (fun p hp => by
          have := post_le hI (i + 1) i (by omega) hi p (List.mem_filter.1 hp).1
          omega)
        have h3 := h1 x
        omega
      · intro p hp hq
        by_cases h0 : (kidsAt L p).count x = 0
        · exact h0
        · have := hk p hp h0
          simp at hq; omega
theorem post_nodup {L : List ApiNode} (hI : inLs L) (h1 : one1 L) (i : Nat) (hi : i < L.length) : (post L (i : Int)).Nodup := by
  rw [List.nodup_iff_count]
  intro x
  exact post_once hI h1 i hi ((i : Int) - x + 1).toNat x (by omega)
theorem post_len {L : List ApiNode} (hI : inLs L) (h1 : one1 L) (i : Nat) (hi : i < L.length) : (post L (i : Int)).length ≤ L.length :=
  range_len L.length _ (post_nodup hI h1 i hi) fun x hx => by
    have := post_le hI (i + 1) i (by omega) hi x hx
    omega
theorem incs_gd : ∀ (ks c : List Int) (x : Int), inL c.length ks → 0 ≤ x → gd (incs c ks) x = gd c x + (ks.count x : Int)
  | [], c, x, _, _ => by simp [incs]
  | k :: ks, c, x, h, hx => by
    have hk := h k (by simp)
    show gd (incs (inc1 c k) ks) x = _
    rw [incs_gd ks (inc1 c k) x (fun y hy => by have := h y (by simp [hy]); simpa [inc1] using this) hx, List.count_cons]
    unfold inc1
    by_cases e : k = x
    · subst e
      have := gd_self (l := c) (i := k.toNat) (by omega) (gd c k + 1)
      rw [show ((k.toNat : Nat) : Int) = k by omega] at this
      rw [this]; simp; omega
    · rw [gd_other (by omega)]
      have : (k == x) = false := by simpa using e
      rw [this]; simp
theorem cntU_gd (L : List ApiNode) (hI : inLs L) (x : Int) (hx : 0 ≤ x) : ∀ i : Nat, i ≤ L.length → gd (cntU L i) x = (((List.range i).map fun (p : Nat) => (kidsAt L (p : Int)).count x).sum : Nat)
  | 0, _ => by
    unfold gd cntU
    rw [List.getElem?_replicate]
    split <;> rfl
  | i + 1, h => by
    obtain ⟨n, hn⟩ := getI2 (l := L) (i := i) (by omega)
    rw [cntU_s hn, incs_gd _ _ _ (fun k hk => by have := hI i n hn k hk; rw [cntU_len]; omega) hx, cntU_gd L hI x hx i (by omega), List.range_succ, List.map_append, List.sum_append]
    simp only [List.map_cons, List.map_nil, List.sum_cons, List.sum_nil, Nat.add_zero]
    rw [kidsAt_s hn]
    omega
theorem ok_inLs {L : List ApiNode} (h : allOk L) : inLs L := fun i n hn => (h i n hn).2.1
theorem one1_of {L : List ApiNode} (h : allOk L) (ho : ¬ odd1 L) : one1 L := by
  intro x
  have hI := ok_inLs h
  by_cases hx : 0 ≤ x ∧ x < (L.length : Int) - 1
  · have e := cntU_gd L hI x hx.1 L.length (Nat.le_refl _)
    have : gd (cntU L L.length) x = 1 := by
      refine Classical.byContradiction fun hne => ho ⟨_, ?_, hne⟩
      have hl := cntU_len L L.length
      unfold gd
      rw [List.getElem?_eq_getElem (by omega)]
      refine List.mem_of_getElem? (i := x.toNat) ?_
      rw [List.getElem?_take, if_pos (by omega), List.getElem?_eq_getElem (by omega)]; rfl
    omega
  · rw [sum_congr (g := fun _ => 0)]
    · have e0 : ∀ l : List Nat, (l.map fun _ => 0).sum = 0 := fun l => by induction l <;> simp_all
      rw [e0]; omega
    · intro p hp
      rw [List.mem_range] at hp
      obtain ⟨n, hn⟩ := getI2 (l := L) (i := p) hp
      rw [kidsAt_s hn, List.count_eq_zero_of_not_mem]
      intro hm
      have := hI p n hn x hm
      omega
end Go.Proofs.Ytnnjgbcojdnhhaa
set_option linter.unusedVariables false
set_option linter.unusedSimpArgs false
set_option maxRecDepth 100000
namespace Go.Proofs.Ytnnjgbcojdnhhaa
open Go.V
open Classical
theorem walkL (L : ApiExpr) (self : Int → Option (List Int)) (i : Int) (ks : List Int) (hs : ∀ k ∈ ks, self k = some (post L.l k)) (hl : ks.length ≤ 63) : ∀ (f j : Nat) (t : List Int), ks.drop j = t → j ≤ ks.length → ks.length - j < f →
    m_below_walk_l1 self i ks f (j : Int) = some (t.flatMap (post L.l) ++ [i])
  | 0, j, t, _, _, h => by omega
  | f + 1, j, [], ht, hj, h => by
    have := drop_len ht hj
    simp only [List.length_nil] at this
    simp only [m_below_walk_l1]
    rw [decide_eq_false (by omega), cond_false]
    rfl
  | f + 1, j, x :: t, ht, hj, h => by
    have hL := drop_len ht hj
    simp only [List.length_cons] at hL
    have hx : ks[j]? = some x := by
      have := congrArg (·[0]?) ht
      simpa [List.getElem?_drop] using this
    have ih := walkL L self i ks hs hl f (j + 1) t (drop_c ht) (by omega) (by omega)
    simp only [m_below_walk_l1]
    rw [decide_eq_true (show (j : Int) < ks.length by omega), cond_true, getI hx, Option.bind_some, hs x (List.mem_of_getElem? hx), Option.bind_some, grd_pos (by omega), show ((j : Int) + 1) = ((j + 1 : Nat) : Int) by omega, ih, Option.bind_some, List.flatMap_cons, List.append_assoc]
theorem walk_eq (e : ApiExpr) (hN : ∀ n ∈ e.l, NB n) (hI : inLs e.l) : ∀ (f i : Nat), i < f → i < e.l.length → m_below_walk e f (i : Int) = some (post e.l (i : Int))
  | 0, i, h, _ => by omega
  | f + 1, i, h, hi => by
    obtain ⟨n, hn⟩ := getI2 hi
    have hNn := hN n (List.mem_of_getElem? hn)
    have hkl := kids_len n hNn
    show m_below_walkF (m_below_walk e f) (i : Int) e = _
    unfold m_below_walkF
    rw [getI hn, Option.bind_some, kids_eq n hNn, Option.bind_some, post_rec hI hn]
    exact walkL e (m_below_walk e f) (i : Int) (kidsP n) (fun k hk => by
      have := hI i n hn k hk
      obtain ⟨m, rfl⟩ : ∃ m : Nat, k = (m : Int) := ⟨k.toNat, by omega⟩
      exact walk_eq e hN hI f m (by omega) (by omega)) hkl FU 0 _ rfl (by omega) (by rw [FUv]; omega)
theorem below_eq (e : ApiExpr) (hN : ∀ n ∈ e.l, NB n) (hI : inLs e.l) (hl : e.l.length ≤ 701) (i : Nat) (hi : i < e.l.length) : m_below e (i : Int) = some (post e.l (i : Int)) := by
  unfold m_below
  rw [walk_eq e hN hI FU i (by rw [FUv]; omega) hi, Option.bind_some, Option.bind_some, List.append_nil]
def lastI (o : List ApiNode) : Int := (o.length : Int) - 1
def stepC (c : Int → List ApiNode → List ApiNode) (s : List Int × List ApiNode) (k : Int) : List Int × List ApiNode := (s.1 ++ [lastI (c k s.2)], c k s.2)
def copyF (L : List ApiNode) : Nat → Int → List ApiNode → List ApiNode
  | 0, _, o => o
  | f + 1, i, o => match L[i.toNat]? with
    | some n => (((kidsP n).foldl (stepC (copyF L f)) ([], o)).2 ++ [withP n ((kidsP n).foldl (stepC (copyF L f)) ([], o)).1])
    | none => o
def copyP (L : List ApiNode) (i : Int) (o : List ApiNode) : List ApiNode := copyF L (i.toNat + 1) i o
theorem fold_congr {c d : Int → List ApiNode → List ApiNode} : ∀ (ks : List Int) (s : List Int × List ApiNode), (∀ k ∈ ks, ∀ o, c k o = d k o) → ks.foldl (stepC c) s = ks.foldl (stepC d) s
  | [], _, _ => rfl
  | k :: ks, s, h => by
    rw [List.foldl_cons, List.foldl_cons, show stepC c s k = stepC d s k by unfold stepC; rw [h k (by simp)]]
    exact fold_congr ks _ fun x hx => h x (by simp [hx])
theorem copyF_eq (L : List ApiNode) (hI : inLs L) : ∀ (f g i : Nat), i < f → i < g → ∀ o, copyF L f (i : Int) o = copyF L g (i : Int) o
  | 0, _, i, h, _, _ => by omega
  | _, 0, i, _, h, _ => by omega
  | f + 1, g + 1, i, hf, hg, o => by
    simp only [copyF, Int.toNat_natCast]
    cases hn : L[i]? with
    | none => rfl
    | some n =>
      simp only
      rw [fold_congr (kidsP n) ([], o) fun k hk o => by
        have := hI i n hn k hk
        obtain ⟨m, rfl⟩ : ∃ m : Nat, k = (m : Int) := ⟨k.toNat, by omega⟩
        exact copyF_eq L hI f g m (by omega) (by omega) o]
theorem copy_rec {L : List ApiNode} (hI : inLs L) {i : Nat} {n : ApiNode} (hn : L[i]? = some n) (o : List ApiNode) : copyP L (i : Int) o = ((kidsP n).foldl (stepC (copyP L)) ([], o)).2 ++ [withP n ((kidsP n).foldl (stepC (copyP L)) ([], o)).1] := by
  have e : copyP L (i : Int) o = copyF L (i + 1) (i : Int) o := rfl
  rw [e]
  simp only [copyF, Int.toNat_natCast]
  rw [hn]
  simp only
  rw [fold_congr (d := copyP L) (kidsP n) ([], o) fun k hk o => by
    have := hI i n hn k hk
    obtain ⟨m, rfl⟩ : ∃ m : Nat, k = (m : Int) := ⟨k.toNat, by omega⟩
    exact copyF_eq L hI i (m + 1) m (by omega) (by omega) o]
theorem fold_len {L : List ApiNode} : ∀ (ks : List Int) (s : List Int × List ApiNode), (∀ k ∈ ks, ∀ o, (copyP L k o).length = o.length + (post L k).length) → (ks.foldl (stepC (copyP L)) s).2.length = s.2.length + (ks.flatMap (post L)).length ∧ (ks.foldl (stepC (copyP L)) s).1.length = s.1.length + ks.length
  | [], s, _ => by simp
  | k :: ks, s, h => by
    have ih := fold_len ks (stepC (copyP L) s k) fun x hx => h x (by simp [hx])
    have h0 := h k (by simp) s.2
    rw [List.foldl_cons, List.flatMap_cons, ih.1, ih.2]
    unfold stepC
    simp only [List.length_append, List.length_cons, List.length_nil]
    omega
theorem copy_len {L : List ApiNode} (hI : inLs L) : ∀ (f i : Nat), i < f → i < L.length → ∀ o, (copyP L (i : Int) o).length = o.length + (post L (i : Int)).length
  | 0, i, h, _, _ => by omega
  | f + 1, i, hf, hi, o => by
    obtain ⟨n, hn⟩ := getI2 hi
    rw [copy_rec hI hn, post_rec hI hn, List.length_append, List.length_append, (fold_len (kidsP n) ([], o) fun k hk o => by
      have := hI i n hn k hk
      obtain ⟨m, rfl⟩ : ∃ m : Nat, k = (m : Int) := ⟨k.toNat, by omega⟩
      exact copy_len hI f m (by omega) (by omega) o).1]
    simp only [List.length_cons, List.length_nil]
    omega
theorem copy_len2 {L : List ApiNode} (hI : inLs L) {i : Nat} {n : ApiNode} (hn : L[i]? = some n) : ∀ k ∈ kidsP n, ∀ o, (copyP L k o).length = o.length + (post L k).length := by
  intro k hk o
  have := hI i n hn k hk
  have hi := getLt hn
  obtain ⟨m, rfl⟩ : ∃ m : Nat, k = (m : Int) := ⟨k.toNat, by omega⟩
  exact copy_len hI (m + 1) m (by omega) (by omega) o
theorem noParts_of {n : ApiNode} (h : rightB n = true) : noParts n := by
  intro hp
  unfold rightB at h
  simp only [Bool.and_eq_true] at h
  have h2 := h.2.1.2
  rw [parted_no n hp] at h2
  simp only [Bool.not_eq_true', decide_eq_false_iff_not] at h2
  exact List.length_eq_zero_iff.1 (by omega)
theorem rcopyL (e : ApiExpr) (self : ApiExpr → Int → List ApiNode → Option (List ApiNode)) (ks : List Int) (hl : ks.length ≤ 63) (o : List ApiNode) (hlen : ∀ k ∈ ks, ∀ o, (copyP e.l k o).length = o.length + (post e.l k).length) (hb : o.length + (ks.flatMap (post e.l)).length ≤ 100000)
    (hs : ∀ k ∈ ks, ∀ o : List ApiNode, o.length + (post e.l k).length ≤ 100000 → self e k o = some (copyP e.l k o)) :
    m_syntagmaref05_copyOf_l1 self e ks FU (0, [], o) = some (ks.foldl (stepC (copyP e.l)) ([], o)) := by
  obtain ⟨r, h1, h2⟩ := loop_rng (φ := fun n j (s : List Int × List ApiNode) => m_syntagmaref05_copyOf_l1 self e ks n (j, s.1, s.2)) (l := ks) (fun j s => s = (ks.take j).foldl (stepC (copyP e.l)) ([], o)) (fun r => r = ks.foldl (stepC (copyP e.l)) ([], o)) (by
    rintro n j x s hx hj rfl
    have hf := fold_len (L := e.l) (ks.take j) ([], o) (fun k hk => hlen k (List.mem_of_mem_take hk))
    have hx2 := hlen x (List.mem_of_getElem? hx) ((ks.take j).foldl (stepC (copyP e.l)) ([], o)).2
    have hsz : ((ks.take (j + 1)).flatMap (post e.l)).length ≤ (ks.flatMap (post e.l)).length := by
      have : ks.flatMap (post e.l) = (ks.take (j + 1)).flatMap (post e.l) ++ (ks.drop (j + 1)).flatMap (post e.l) := by
        rw [← List.flatMap_append, List.take_append_drop]
      rw [this, List.length_append]; omega
    rw [take_snoc hx, List.flatMap_append, List.length_append] at hsz
    simp only [List.flatMap_cons, List.flatMap_nil, List.append_nil] at hsz
    have hj2 : (ks.take j).length = j := by simp; omega
    simp only [List.length_nil] at hf
    simp only [m_syntagmaref05_copyOf_l1]
    rw [decide_eq_true (show (j : Int) < ks.length by omega), cond_true, getI hx, Option.bind_some, hs x (List.mem_of_getElem? hx) _ (by omega), Option.bind_some, grd_pos (by omega), grd_pos (by simp only [List.length_cons, List.length_nil]; omega), grd_pos (by omega)]
    refine .inl ⟨(_, _), rfl, ?_⟩
    rw [take_snoc hx, List.foldl_append]; rfl) (by
    rintro n s rfl
    simp only [m_syntagmaref05_copyOf_l1]
    rw [decide_eq_false (by omega), cond_false, List.take_length]
    exact ⟨_, rfl, rfl⟩) (by rw [FUv]; omega) ([], o) rfl
  rw [h1, h2]
theorem rcopy_eq (e : ApiExpr) (hN : ∀ n ∈ e.l, NB n) (hok : allOk e.l) : ∀ (f i : Nat), i < f → i < e.l.length → ∀ o : List ApiNode, o.length + (post e.l (i : Int)).length ≤ 100000 → m_syntagmaref05_copyOf f e (i : Int) o = some (copyP e.l (i : Int) o)
  | 0, i, h, _, _, _ => by omega
  | f + 1, i, h, hi, o, hb => by
    obtain ⟨n, hn⟩ := getI2 hi
    have hI := ok_inLs hok
    have hNn := hN n (List.mem_of_getElem? hn)
    have hkl := kids_len n hNn
    have hpost := post_rec hI hn
    rw [hpost, List.length_append] at hb
    simp only [List.length_cons, List.length_nil] at hb
    have hlen := copy_len2 hI hn
    have hf := fold_len (L := e.l) (kidsP n) ([], o) hlen
    simp only [List.length_nil, Nat.zero_add] at hf
    show m_syntagmaref05_copyOfF (m_syntagmaref05_copyOf f) e (i : Int) o = _
    unfold m_syntagmaref05_copyOfF
    rw [getI hn, Option.bind_some, rkids_eq n hNn, Option.bind_some, rcopyL e _ (kidsP n) hkl o hlen (by omega) (fun k hk o ho => by
      have := hI i n hn k hk
      obtain ⟨m, rfl⟩ : ∃ m : Nat, k = (m : Int) := ⟨k.toNat, by omega⟩
      exact rcopy_eq e hN hok f m (by omega) (by omega) o ho), Option.bind_some]
    simp only
    rw [Option.bind_some, rwith_eq n _ hNn (noParts_of (hok i n hn).1) (by rw [hf.2]), Option.bind_some, grd_pos (by simp only [List.length_cons, List.length_nil]; omega), copy_rec hI hn]
theorem subK (mm : List (Int × Int)) (ks : List Int) (h : ks.length ≤ 63) : m_tree_sub_l2 mm ks FU (0, []) = some (ks.map fun k => (mget mm k).getD 0) := by
  refine (loop_map (φ := fun n i s => m_tree_sub_l2 mm ks n (i, s)) (l := ks) (fun k => (mget mm k).getD 0) id 0 ?_ ?_ (by rw [FUv]; omega) [] rfl).trans rfl
  · intro n i x s hx hi hs
    simp only [m_tree_sub_l2]
    rw [decide_eq_true (show (i : Int) < ks.length by omega), cond_true, getI hx, Option.bind_some, grd_pos (by simp only [List.length_cons, List.length_nil]; omega), grd_pos (by omega)]
  · intro n s hs
    simp only [m_tree_sub_l2]
    rw [decide_eq_false (by omega), cond_false]; rfl
def RunOk (e : ApiExpr) (l : List Int) (mm : List (Int × Int)) (o : List ApiNode) (mm' : List (Int × Int)) (o' : List ApiNode) : Prop :=
  (∀ rest, m_tree_sub_r1 e (l ++ rest) (mm, o) = m_tree_sub_r1 e rest (mm', o')) ∧ ∀ x, x ∉ l → mget mm' x = mget mm x
theorem runKs (e : ApiExpr) : ∀ (ks : List Int) (mm : List (Int × Int)) (acc : List Int) (o : List ApiNode), (ks.flatMap (post e.l)).Nodup → (∀ k ∈ ks, k ∈ post e.l k) → (∀ k ∈ ks, ∀ o, (copyP e.l k o).length = o.length + (post e.l k).length) → o.length + (ks.flatMap (post e.l)).length ≤ 100000 →
    (∀ k ∈ ks, ∀ mm o, (post e.l k).Nodup → o.length + (post e.l k).length ≤ 100000 → ∃ mm', RunOk e (post e.l k) mm o mm' (copyP e.l k o) ∧ mget mm' k = some (lastI (copyP e.l k o))) →
    ∃ mm', RunOk e (ks.flatMap (post e.l)) mm o mm' (ks.foldl (stepC (copyP e.l)) (acc, o)).2 ∧ (ks.foldl (stepC (copyP e.l)) (acc, o)).1 = acc ++ ks.map fun k => (mget mm' k).getD 0
  | [], mm, acc, o, _, _, _, _, _ => ⟨mm, ⟨fun _ => rfl, fun _ _ => rfl⟩, by simp⟩
  | k :: ks, mm, acc, o, hd, hm, hlen, hb, hr => by
    rw [List.flatMap_cons] at hd hb
    have hd2 := List.nodup_append.1 hd
    rw [List.length_append] at hb
    have hl := hlen k (by simp) o
    obtain ⟨m1, ⟨r1, r2⟩, r3⟩ := hr k (by simp) mm o hd2.1 (by omega)
    obtain ⟨m2, ⟨s1, s2⟩, s3⟩ := runKs e ks m1 (acc ++ [lastI (copyP e.l k o)]) (copyP e.l k o) hd2.2.1 (fun x hx => hm x (by simp [hx])) (fun x hx => hlen x (by simp [hx])) (by omega) (fun x hx => hr x (by simp [hx]))
    refine ⟨m2, ⟨fun rest => ?_, fun x hx => ?_⟩, ?_⟩
    · rw [List.flatMap_cons, List.append_assoc, r1, s1]; rfl
    · rw [List.flatMap_cons, List.mem_append] at hx
      rw [s2 x (fun h => hx (.inr h)), r2 x (fun h => hx (.inl h))]
    · have hk : mget m2 k = some (lastI (copyP e.l k o)) := by
        rw [s2 k, r3]
        intro h
        exact hd2.2.2 k (hm k (by simp)) k h rfl
      show (ks.foldl (stepC (copyP e.l)) (acc ++ [lastI (copyP e.l k o)], copyP e.l k o)).1 = _
      rw [s3, List.map_cons, hk, List.append_assoc]; rfl
theorem run_eq (e : ApiExpr) (hN : ∀ n ∈ e.l, NB n) (hok : allOk e.l) : ∀ (f i : Nat), i < f → i < e.l.length → ∀ mm o, (post e.l (i : Int)).Nodup → o.length + (post e.l (i : Int)).length ≤ 100000 →
    ∃ mm', RunOk e (post e.l (i : Int)) mm o mm' (copyP e.l (i : Int) o) ∧ mget mm' (i : Int) = some (lastI (copyP e.l (i : Int) o))
  | 0, i, h, _, _, _, _, _ => by omega
  | f + 1, i, h, hi, mm, o, hd, hb => by
    obtain ⟨n, hn⟩ := getI2 hi
    have hI := ok_inLs hok
    have hNn := hN n (List.mem_of_getElem? hn)
    have hkl := kids_len n hNn
    have hpost := post_rec hI hn
    rw [hpost] at hd hb
    have hd2 := List.nodup_append.1 hd
    rw [List.length_append] at hb
    simp only [List.length_cons, List.length_nil] at hb
    have hlen := copy_len2 hI hn
    have hf := fold_len (L := e.l) (kidsP n) ([], o) hlen
    simp only [List.length_nil, Nat.zero_add] at hf
    obtain ⟨m1, ⟨r1, r2⟩, r3⟩ := runKs e (kidsP n) mm [] o hd2.1 (fun k hk => by
      have := hI i n hn k hk
      obtain ⟨m, rfl⟩ : ∃ m : Nat, k = (m : Int) := ⟨k.toNat, by omega⟩
      obtain ⟨n2, hn2⟩ := getI2 (l := e.l) (i := m) (by omega)
      rw [post_rec hI hn2]; simp) hlen (by omega) (fun k hk mm o h1 h2 => by
      have := hI i n hn k hk
      obtain ⟨m, rfl⟩ : ∃ m : Nat, k = (m : Int) := ⟨k.toNat, by omega⟩
      exact run_eq e hN hok f m (by omega) (by omega) mm o h1 h2)
    rw [List.nil_append] at r3
    refine ⟨mset m1 (i : Int) (((kidsP n).foldl (stepC (copyP e.l)) ([], o)).2.length : Int), ⟨fun rest => ?_, fun x hx => ?_⟩, ?_⟩
    · rw [hpost, List.append_assoc, r1]
      show m_tree_sub_r1 e ((i : Int) :: rest) _ = _
      simp only [m_tree_sub_r1]
      rw [getI hn, Option.bind_some, kids_eq n hNn, Option.bind_some, subK m1 (kidsP n) hkl, Option.bind_some, Option.bind_some, ← r3, with_eq n _ hNn (noParts_of (hok i n hn).1) (by rw [hf.2]), Option.bind_some, grd_pos (by simp only [List.length_cons, List.length_nil]; omega), copy_rec hI hn]
    · rw [hpost, List.mem_append, List.mem_singleton] at hx
      rw [mget_set, if_neg (fun h => hx (.inr h)), r2 x (fun h => hx (.inl h))]
    · rw [mget_set, if_pos rfl, copy_rec hI hn]
      unfold lastI
      rw [List.length_append]
      simp only [List.length_cons, List.length_nil]
      congr 1; omega
structure TreeOk (e : ApiExpr) : Prop where
  len : e.l.length ≤ 700
  nb : ∀ n ∈ e.l, NB n
  ok : allOk e.l
  one : one1 e.l
theorem mayT_tree {e : ApiExpr} (hl : e.l.length ≤ 700) (hN : ∀ n ∈ e.l, NB n) (h : mayT e.l = 0) : TreeOk e ∧ 1 ≤ e.l.length := by
  obtain ⟨h1, h2, h3⟩ := mayT_ok h
  refine ⟨⟨hl, hN, h3, one1_of h3 ?_⟩, h1⟩
  intro ho
  unfold mayT at h
  rw [if_neg (by omega), if_neg (fun q => q h3), if_pos ho] at h
  omega
theorem sub_eq {e : ApiExpr} (h : TreeOk e) (i : Nat) (hi : i < e.l.length) : m_tree_sub e (i : Int) = some ⟨copyP e.l (i : Int) []⟩ := by
  have hI := ok_inLs h.ok
  have hpl := post_len hI h.one i hi
  have hl := h.len
  unfold m_tree_sub
  rw [below_eq e h.nb hI (by omega) i hi, Option.bind_some]
  obtain ⟨m1, ⟨r1, _⟩, _⟩ := run_eq e h.nb h.ok (i + 1) i (by omega) hi [] [] (post_nodup hI h.one i hi) (by simp only [List.length_nil]; omega)
  have := r1 []
  rw [List.append_nil] at this
  rw [this]; rfl
theorem rsub_eq {e : ApiExpr} (h : TreeOk e) (i : Nat) (hi : i < e.l.length) : m_syntagmaref05_Sub e (i : Int) = some ⟨copyP e.l (i : Int) []⟩ := by
  have hI := ok_inLs h.ok
  have hpl := post_len hI h.one i hi
  have hl := h.len
  unfold m_syntagmaref05_Sub
  rw [rcopy_eq e h.nb h.ok FU i (by rw [FUv]; omega) hi [] (by simp only [List.length_nil]; omega), Option.bind_some]
theorem copy_nb {L : List ApiNode} (hI : inLs L) (hN : ∀ n ∈ L, NB n) : ∀ (f i : Nat), i < f → i < L.length → ∀ o, (∀ n ∈ o, NB n) → ∀ n ∈ copyP L (i : Int) o, NB n
  | 0, i, h, _, _, _ => by omega
  | f + 1, i, hf, hi, o, ho => by
    obtain ⟨n, hn⟩ := getI2 hi
    have key : ∀ (ks : List Int) (s : List Int × List ApiNode), (∀ k ∈ ks, k ∈ kidsP n) → (∀ n ∈ s.2, NB n) → ∀ n ∈ (ks.foldl (stepC (copyP L)) s).2, NB n := by
      intro ks
      induction ks with
      | nil => intro s _ h; exact h
      | cons k ks ih =>
        intro s hk h
        have := hI i n hn k (hk k (by simp))
        refine ih _ (fun x hx => hk x (by simp [hx])) ?_
        obtain ⟨m, rfl⟩ : ∃ m : Nat, k = (m : Int) := ⟨k.toNat, by omega⟩
        exact copy_nb hI hN f m (by omega) (by omega) s.2 h
    intro x hx
    rw [copy_rec hI hn, List.mem_append, List.mem_singleton] at hx
    rcases hx with hx | rfl
    · exact key (kidsP n) ([], o) (fun k hk => hk) ho x hx
    · have hNn := hN n (List.mem_of_getElem? hn)
      unfold NB at hNn ⊢
      unfold withP
      simp only
      split
      · rw [List.length_zipWith]; omega
      · simp
noncomputable def normT (e : ApiExpr) : ApiExpr × Int := if mayT e.l = 0 then (⟨copyP e.l (((e.l.length - 1 : Nat)) : Int) []⟩, 0) else (⟨[]⟩, mayT e.l)
noncomputable def subT (e : ApiExpr) (i : Int) : ApiExpr × Int := if mayT e.l = 0 then (if i < 0 ∨ (e.l.length : Int) ≤ i then (⟨[]⟩, 3) else (⟨copyP e.l i []⟩, 0)) else (⟨[]⟩, mayT e.l)
theorem norm_eq (e : ApiExpr) (hl : e.l.length ≤ 700) (hN : ∀ n ∈ e.l, NB n) : m_tree_Norm e = some (normT e) := by
  unfold m_tree_Norm normT
  rw [may_eq e (by omega) hN, Option.bind_some]
  by_cases h : mayT e.l = 0
  · obtain ⟨ht, h1⟩ := mayT_tree hl hN h
    rw [decide_eq_true h, if_pos h, Bool.not_true, cond_false, grd_pos (by omega), show ((e.l.length : Int) - 1) = ((e.l.length - 1 : Nat) : Int) by omega, sub_eq ht _ (by omega), Option.bind_some]
  · rw [decide_eq_false h, if_neg h, Bool.not_false, cond_true]
theorem tsub_eq (e : ApiExpr) (i : Int) (hl : e.l.length ≤ 700) (hN : ∀ n ∈ e.l, NB n) : m_tree_Sub e i = some (subT e i) := by
  unfold m_tree_Sub subT
  rw [may_eq e (by omega) hN, Option.bind_some]
  by_cases h : mayT e.l = 0
  · obtain ⟨ht, h1⟩ := mayT_tree hl hN h
    rw [decide_eq_true h, if_pos h, Bool.not_true, cond_false]
    by_cases hi : i < 0 ∨ (e.l.length : Int) ≤ i
    · rw [if_pos hi, show (decide (i < 0) || decide ((e.l.length : Int) ≤ i)) = true by rw [Bool.or_eq_true, decide_eq_true_eq, decide_eq_true_eq]; exact hi, cond_true]
    · rw [if_neg hi, show (decide (i < 0) || decide ((e.l.length : Int) ≤ i)) = false by rw [Bool.or_eq_false_iff, decide_eq_false_iff_not, decide_eq_false_iff_not]; omega, cond_false]
      obtain ⟨m, rfl⟩ : ∃ m : Nat, i = (m : Int) := ⟨i.toNat, by omega⟩
      rw [sub_eq ht m (by omega), Option.bind_some]
  · rw [decide_eq_false h, if_neg h, Bool.not_false, cond_true]
theorem rnorm_eq (e : ApiExpr) (hl : e.l.length ≤ 700) (hN : ∀ n ∈ e.l, NB n) (h : mayT e.l = 0) : m_syntagmaref05_Norm e = some (normT e).1 := by
  obtain ⟨ht, h1⟩ := mayT_tree hl hN h
  unfold m_syntagmaref05_Norm normT
  rw [if_pos h, grd_pos (by omega), show ((e.l.length : Int) - 1) = ((e.l.length - 1 : Nat) : Int) by omega, rsub_eq ht _ (by omega), Option.bind_some]
theorem normT_nb (e : ApiExpr) (hl : e.l.length ≤ 700) (hN : ∀ n ∈ e.l, NB n) : (normT e).1.l.length ≤ 700 ∧ ∀ n ∈ (normT e).1.l, NB n := by
  unfold normT
  by_cases h : mayT e.l = 0
  · obtain ⟨ht, h1⟩ := mayT_tree hl hN h
    have hI := ok_inLs ht.ok
    rw [if_pos h]
    refine ⟨?_, copy_nb hI hN _ _ (Nat.lt_succ_self _) (by omega) [] (by simp)⟩
    have := copy_len hI _ _ (Nat.lt_succ_self _) (show e.l.length - 1 < e.l.length by omega) []
    have h2 := post_len hI ht.one (e.l.length - 1) (by omega)
    simp only [List.length_nil] at this
    simp only
    omega
  · rw [if_neg h]; simp
theorem normT_2 (e : ApiExpr) : (normT e).2 = mayT e.l := by
  unfold normT
  by_cases h : mayT e.l = 0
  · rw [if_pos h, h]
  · rw [if_neg h]
theorem norm_eq2 (e : ApiExpr) (hl : e.l.length ≤ 700) (hN : ∀ n ∈ e.l, NB n) : m_tree_Norm e = some ((normT e).1, mayT e.l) := by
  rw [norm_eq e hl hN, ← normT_2]
def setKs (v : Int) (l ks : List Int) : List Int := ks.foldl (fun l k => l.set k.toNat v) l
theorem setKs_len (v : Int) : ∀ (ks l : List Int), (setKs v l ks).length = l.length
  | [], _ => rfl
  | k :: ks, l => by
    show (setKs v (l.set k.toNat v) ks).length = _
    rw [setKs_len v ks]; simp
theorem setKs_snoc (v : Int) (l ks : List Int) (k : Int) : setKs v l (ks ++ [k]) = (setKs v l ks).set k.toNat v := by
  unfold setKs; rw [List.foldl_append]; rfl
theorem setKs_gd (v : Int) : ∀ (ks l : List Int) (x : Int), inL l.length ks → 0 ≤ x → gd (setKs v l ks) x = if x ∈ ks then v else gd l x
  | [], l, x, _, _ => by simp [setKs]
  | k :: ks, l, x, h, hx => by
    have hk := h k (by simp)
    show gd (setKs v (l.set k.toNat v) ks) x = _
    rw [setKs_gd v ks (l.set k.toNat v) x (fun y hy => by have := h y (by simp [hy]); simpa using this) hx]
    by_cases e : x = k
    · subst e
      have := gd_self (l := l) (i := x.toNat) (by omega) v
      rw [show ((x.toNat : Nat) : Int) = x by omega] at this
      rw [this]; simp
    · rw [gd_other (by omega)]
      by_cases hm : x ∈ ks
      · rw [if_pos hm, if_pos (by simp [hm])]
      · rw [if_neg hm, if_neg (by simp [hm, e])]
theorem two1 {L : List ApiNode} (h1 : one1 L) {i j : Nat} {n m : ApiNode} (hn : L[i]? = some n) (hm : L[j]? = some m) {x : Int} (hx : x ∈ kidsP n) (hy : x ∈ kidsP m) : i = j := by
  refine Classical.byContradiction fun hne => ?_
  have hi := getLt hn
  have hj := getLt hm
  have h2 := sum_le_range L.length (fun p => (kidsAt L p).count x) [(i : Int), (j : Int)] (by simp; omega) (by
    intro p hp
    simp only [List.mem_cons, List.not_mem_nil, or_false] at hp
    rcases hp with rfl | rfl <;> omega)
  have h3 := h1 x
  simp only [List.map_cons, List.map_nil, List.sum_cons, List.sum_nil] at h2
  rw [kidsAt_s hn, kidsAt_s hm] at h2
  have := List.count_pos_iff.2 hx
  have := List.count_pos_iff.2 hy
  omega
end Go.Proofs.Ytnnjgbcojdnhhaa
