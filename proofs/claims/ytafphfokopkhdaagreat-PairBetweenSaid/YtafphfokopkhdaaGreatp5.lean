/- Part 5 of the proof: a program logic, what the functions compute, and what these answer; no condition. -/
import Derived.Test.YtafphfokopkhdaaGreatp4
import Derived.Shelf.Sort.Plain
import Derived.Ground.Names2Prog
import Derived.Shelf.Slices.CompactI
import Derived.Shelf.Slices.In.SortNone
import Derived.Test.YtafphfokopkhdaaGreatProg
set_option linter.unusedVariables false
set_option linter.unusedSimpArgs false
set_option maxRecDepth 100000
set_option maxHeartbeats 2000000
namespace Go.Proofs.YtafphfokopkhdaaGreat
open Go.V
theorem w_vars_sides {a1 : AutoAuto}  {s_1 : (List (Int × Int))} {a_q0c0 : Option Addr} {m_q0c0 : Nat} {cap_q0c0 : Nat} (hm : m_vars_sides a1 = some s_1) : Go.V.Fn Tryz.prog 88 [.agg [.v (.slice a_q0c0 m_q0c0 cap_q0c0), .i64 a1.start]] [arr a_q0c0 m_q0c0 cap_q0c0 60 13 AutoState.d a1.l] (fun d ms' => ∃ b_s_1, d = .v (.map (some b_s_1)) ∧ ms' = [arr a_q0c0 m_q0c0 cap_q0c0 60 13 AutoState.d a1.l, mp b_s_1 kI64 D.i64 s_1]) := by
  unfold m_vars_sides at hm
  refine fn_intro Tryz.func88 rfl Tryz.ntmps88 rfl fun H0 fr w0 => ?_
  refine g_seq ?_
  refine g_region ?_
  refine go_op rfl rfl rfl (o_box_own rfl rfl rfl) ?_
  rintro _ _ ⟨b1, rfl, rfl⟩
  refine go_p rfl rfl rfl (o_assign rfl) ?_
  refine go_nil ?_
  refine g_seq ?_
  refine g_region ?_
  refine go_op rfl rfl rfl (o_makeMap (fk := kI64) (fv := D.i64)) ?_
  rintro _ _ ⟨b2, rfl, rfl⟩
  refine go_p rfl rfl rfl (o_assign rfl) ?_
  refine go_nil ?_
  refine g_seq ?_
  refine g_seq ?_
  refine g_region ?_
  refine go_p rfl rfl rfl (o_fieldAddr_box fi_27_0 rfl) ?_
  refine go_p rfl rfl rfl (o_load_box 1 Tryz.isAgg25 rfl rfl rfl rfl) ?_
  refine go_p rfl rfl rfl (o_len_arr 2 Tryz.runUnderlying25 rfl rfl) ?_
  refine go_p rfl rfl rfl (o_move rfl) ?_
  refine go_nil ?_
  obtain ⟨o_1, hj1, hm1⟩ := bind_some hm
  refine g_cut_m [(3, _)] [(1, _), (2, _)] (fun (st : (List (Int × Int))) (hid : Unit) => match st, hid with | mm1, _ => []) (fun F (st : (List (Int × Int))) (hid : Unit) => match st, hid with | mm1, _ => [mp b2 kI64 D.i64 mm1, (nthF F 0), (nthF F 1)]) (fun st => st = o_1) ⟨rfl, trivial⟩ ⟨rfl, rfl, trivial⟩ ?_ ?_
  · skip
    refine g_block ?_
    refine g_loop_m [(3, _), (11, _), (12, _)] [(1, _), (2, _)] (fun (st : (Int × (List (Int × Int)))) (hid : Unit) => match st, hid with | (x1, mm2), _ => [(13, .i64 x1)]) (fun F (st : (Int × (List (Int × Int)))) (hid : Unit) => match st, hid with | (x1, mm2), _ => [mp b2 kI64 D.i64 mm2, (nthF F 0), (nthF F 1)]) () hj1 (fun _ => rfl) ⟨rfl, rfl, rfl, trivial⟩ ⟨rfl, rfl, trivial⟩ ⟨rfl, trivial⟩ rfl ?_
    rintro n ⟨x1, mm2⟩ _ hj1
    rw [m_vars_sides_l1] at hj1
    refine g_norm (L' := [(13, .i64 x1), (3, _), (11, _), (12, _)]) (ms' := [mp b2 kI64 D.i64 mm2, _, _]) rfl rfl ?_
    refine g_seq ?_
    refine g_region ?_
    refine go_p rfl rfl rfl (o_cmp rfl rfl rfl) ?_
    refine go_nil ?_
    refine g_seq ?_
    refine g_cond rfl (fun hc1 => ?_) (fun hc1 => ?_)
    · replace hj1 := cond_t hc1 hj1
      refine g_skip ?_
      refine g_seq ?_
      refine g_block ?_
      refine g_seq ?_
      refine g_region ?_
      obtain ⟨x2, hx1, hj1⟩ := bind_some hj1
      refine go_p rfl rfl rfl (o_indexAddr_arr 2 Tryz.runUnderlying25 Tryz.sizeOf60 rfl rfl rfl hx1) ?_
      refine go_p rfl rfl rfl (o_load_arr_agg 2 Tryz.isAgg60 Tryz.sizeOf60 rfl rfl (idx_some hx1).2 rfl rfl) ?_
      refine go_op rfl rfl rfl (o_alloc_own Tryz.zeroValue60 (cs := [.bool false, .bool false, .bool false, .bool false, .bool false, .bool false, .bool false, .bool false, .list 1 D.i64 [], .i64 0, .i64 0, .list 2 AutoEdge.d [], .list 2 AutoEdge.d []]) rfl) ?_
      rintro _ _ ⟨b3, rfl, rfl⟩
      refine go_u rfl rfl (o_store_box 0 Tryz.sizeOf60 rfl rfl rfl rfl rfl rfl rfl rfl (Nat.le_of_ble_eq_true rfl)) ?_
      rintro _ _ rfl
      refine go_ms (ms' := [box b3 60 [_, _, _, _, _, _, _, _, _, _, _, _, _], _, box b1 27 [_, _], _]) rfl ?_
      refine go_nil ?_
      refine g_seq ?_
      refine g_region ?_
      refine go_p rfl rfl rfl (o_assign rfl) ?_
      refine go_nil ?_
      refine g_seq ?_
      refine g_seq ?_
      refine g_region ?_
      refine go_p rfl rfl rfl (o_fieldAddr_box fi_60_0 rfl) ?_
      refine go_p rfl rfl rfl (o_load_box 0 Tryz.isAgg4 rfl rfl rfl rfl) ?_
      refine go_nil ?_
      obtain ⟨o_2, hj2, hm2⟩ := bind_some hj1
      refine g_cut_m [(3, _), (5, _), (11, _), (12, _), (13, _)] [(0, _), (1, _), (2, _), (3, _)] (fun (st : Int) (hid : Unit) => match st, hid with | side1, _ => [(6, .i64 side1)]) (fun F (st : Int) (hid : Unit) => match st, hid with | side1, _ => [(nthF F 0), (nthF F 1), (nthF F 2), (nthF F 3)]) (fun st => st = o_2) ⟨rfl, rfl, rfl, rfl, rfl, trivial⟩ ⟨rfl, rfl, rfl, rfl, trivial⟩ ?_ ?_
      · skip
        refine g_cond rfl (fun hc2 => ?_) (fun hc2 => ?_)
        · replace hj2 := cond_t hc2 hj2
          refine g_region ?_
          refine go_p rfl rfl rfl (o_assign rfl) ?_
          refine go_nil ?_
          exact ⟨_, (), some_eq hj2, ⟨rfl, trivial⟩, ⟨rfl, rfl, rfl, rfl, rfl, trivial⟩, [], rfl⟩
        · replace hj2 := cond_f hc2 hj2
          refine g_skip ?_
          exact ⟨_, (), some_eq hj2, ⟨rfl, trivial⟩, ⟨rfl, rfl, rfl, rfl, rfl, trivial⟩, [], rfl⟩
      · rintro side1 _ hst
        subst hst
        refine k_norm (L' := [(6, .i64 side1), (3, _), (5, _), (11, _), (12, _), (13, _)]) (ms' := [_, _, _, _]) rfl rfl ?_
        refine g_seq ?_
        refine g_region ?_
        refine go_p rfl rfl rfl (o_fieldAddr_box fi_60_8 rfl) ?_
        refine go_p rfl rfl rfl (o_load_box 0 Tryz.isAgg49 rfl rfl rfl rfl) ?_
        refine go_p rfl rfl rfl (o_len Tryz.runUnderlying49 rfl) ?_
        refine go_p rfl rfl rfl (o_move rfl) ?_
        refine go_nil ?_
        obtain ⟨o_3, hj3, hm3⟩ := bind_some hm2
        refine g_cut_m [(3, _), (11, _), (12, _), (13, _)] [(0, _), (2, _), (3, _)] (fun (st : (List (Int × Int))) (hid : Unit) => match st, hid with | mm3, _ => []) (fun F (st : (List (Int × Int))) (hid : Unit) => match st, hid with | mm3, _ => [(nthF F 0), mp b2 kI64 D.i64 mm3, (nthF F 1), (nthF F 2)]) (fun st => st = o_3) ⟨rfl, rfl, rfl, rfl, trivial⟩ ⟨rfl, rfl, rfl, trivial⟩ ?_ ?_
        · skip
          refine g_block ?_
          refine g_loop_m [(3, _), (6, _), (11, _), (12, _), (13, _), (20, _), (21, _)] [(0, _), (2, _), (3, _)] (fun (st : (Int × (List (Int × Int)))) (hid : Unit) => match st, hid with | (x3, mm4), _ => [(22, .i64 x3)]) (fun F (st : (Int × (List (Int × Int)))) (hid : Unit) => match st, hid with | (x3, mm4), _ => [(nthF F 0), mp b2 kI64 D.i64 mm4, (nthF F 1), (nthF F 2)]) () hj3 (fun _ => rfl) ⟨rfl, rfl, rfl, rfl, rfl, rfl, rfl, trivial⟩ ⟨rfl, rfl, rfl, trivial⟩ ⟨rfl, trivial⟩ rfl ?_
          rintro n ⟨x3, mm4⟩ _ hj3
          rw [m_vars_sides_l2] at hj3
          refine g_norm (L' := [(22, .i64 x3), (3, _), (6, _), (11, _), (12, _), (13, _), (20, _), (21, _)]) (ms' := [_, mp b2 kI64 D.i64 mm4, _, _]) rfl rfl ?_
          refine g_seq ?_
          refine g_region ?_
          refine go_p rfl rfl rfl (o_cmp rfl rfl rfl) ?_
          refine go_nil ?_
          refine g_seq ?_
          refine g_cond rfl (fun hc3 => ?_) (fun hc3 => ?_)
          · replace hj3 := cond_t hc3 hj3
            refine g_skip ?_
            refine g_seq ?_
            refine g_block ?_
            refine g_seq ?_
            refine g_region ?_
            obtain ⟨x4, hx2, hj3⟩ := bind_some hj3
            refine go_p rfl rfl rfl (o_indexAddr_m Tryz.runUnderlying49 Tryz.sizeOf3 rfl rfl hx2) ?_
            refine go_p rfl rfl rfl (o_load Tryz.isAgg3 rfl rfl) ?_
            refine go_p rfl rfl rfl (o_assign rfl) ?_
            refine go_nil ?_
            refine g_region ?_
            refine go_p rfl rfl rfl (o_move rfl) ?_
            refine go_p rfl rfl rfl (o_move rfl) ?_
            refine go_p rfl rfl rfl (o_lookup (z0 := (0 : Int)) 1 Tryz.runUnderlying132 (keyI64 Tryz.underlying3) Tryz.zeroValue3 (fun _ => conc_v.2 rfl) rfl rfl rfl) ?_
            refine go_p rfl rfl rfl (o_move rfl) ?_
            refine go_p rfl rfl rfl (o_or rfl rfl) ?_
            refine go_u rfl rfl (o_mapUpdate (v := (orI ((mget mm4 x4).getD (0 : Int)) side1)) 1 Tryz.runUnderlying132 (keyI64 Tryz.underlying3) rfl rfl rfl rfl) ?_
            rintro _ _ rfl
            refine go_nil ?_
            refine g_region ?_
            obtain ⟨hg3, hj3⟩ := grd_some hj3
            refine go_p rfl rfl rfl (o_add rfl rfl (i64_id hg3)) ?_
            refine go_p rfl rfl rfl (o_move rfl) ?_
            refine go_nil ?_
            exact ⟨_, (), hj3, ⟨rfl, trivial⟩, ⟨rfl, rfl, rfl, rfl, rfl, rfl, rfl, trivial⟩, [], rfl⟩
          · replace hj3 := cond_f hc3 hj3
            refine g_exit ?_
            exact ⟨_, (), some_eq hj3, trivial, ⟨rfl, rfl, rfl, rfl, trivial⟩, [], rfl⟩
        · rintro mm3 _ hst
          subst hst
          refine k_norm (L' := [(3, _), (11, _), (12, _), (13, _)]) (ms' := [_, mp b2 kI64 D.i64 mm3, _, _]) rfl rfl ?_
          refine g_region ?_
          obtain ⟨hg4, hm3⟩ := grd_some hm3
          refine go_p rfl rfl rfl (o_add rfl rfl (i64_id hg4)) ?_
          refine go_p rfl rfl rfl (o_move rfl) ?_
          refine go_nil ?_
          exact ⟨_, (), hm3, ⟨rfl, trivial⟩, ⟨rfl, rfl, rfl, trivial⟩, [_], rfl⟩
    · replace hj1 := cond_f hc1 hj1
      refine g_exit ?_
      exact ⟨_, (), some_eq hj1, trivial, ⟨rfl, trivial⟩, [], rfl⟩
  · rintro mm1 _ hst
    subst hst
    refine k_norm (L' := [(3, _)]) (ms' := [mp b2 kI64 D.i64 mm1, _, _]) rfl rfl ?_
    refine g_seq ?_
    refine g_region ?_
    refine go_p rfl rfl rfl (o_move rfl) ?_
    refine go_p rfl rfl rfl (o_assign rfl) ?_
    refine go_nil ?_
    refine g_ret ?_
    obtain rfl := some_eq hm1
    exact retK (ret_one' rfl (ret_tmp rfl) (permA 2 rfl (permA 0 rfl permN))) ⟨_, rfl, rfl⟩
structure VarsUse where
  var : Int
  side : Int
def VarsUse.d (x : VarsUse) : D := .agg [.i64 x.var, .i64 x.side]
theorem pl_106 : ∀ fs, (∀ w, (underlying 106).run Tryz.prog w = .ok (.struct fs) w) → placesOf Tryz.prog fs [(0, 1), (1, 1)] := by
  intro fs h w
  have := (h w).symm.trans (Tryz.runUnderlying106 w)
  simp only [Result.ok.injEq, TypeDesc.struct.injEq, and_true] at this
  subst this
  simp [Tryz.sizeOf3, Sem.run]
def m_vars_Sides_l1 (mm1 : (List (Int × Int))) : Nat → (Int × (List VarsUse)) → Option (List VarsUse)
  | 0, _ => none
  | n + 1, (x2, l2) =>
    bif (decide (x2 < (((mm1.map (·.1)).mergeSort fun x y => decide (x ≤ y)).length : Int))) then
      (idx ((mm1.map (·.1)).mergeSort fun x y => decide (x ≤ y)) x2).bind fun x3 =>
      grd ((l2.length + ([(⟨x3, ((mget mm1 x3).getD (0 : Int))⟩ : VarsUse)] : List _).length) * 16 ≤ 140737488355328) <|
      grd (InR (x2 + 1)) <|
      m_vars_Sides_l1 mm1 n ((x2 + 1), (l2 ++ [(⟨x3, ((mget mm1 x3).getD (0 : Int))⟩ : VarsUse)]))
    else
      some l2
def m_vars_Sides (a1 : AutoAuto) : Option ((List VarsUse) × Int) :=
  (m_auto_NormO a1).bind fun (x1, s1) =>
  bif (!decide (x1 = 0)) then
    some ([], x1)
  else
    (m_vars_sides (⟨s1.l, s1.start⟩ : AutoAuto)).bind fun mm1 =>
    grd (mm1.length * 8 ≤ 140737488355328) <|
    (m_vars_Sides_l1 mm1 FU (0, []) : Option (List VarsUse)).bind fun l1 =>
    some (l1, x1)
theorem w_vars_Sides {a1 : AutoAuto} {r_1 : (List VarsUse)} {r_2 : Int} (hm : m_vars_Sides a1 = some (r_1, r_2)) : Fn0 Tryz.prog 63 [AutoAuto.d a1] (.tup [.list 2 VarsUse.d r_1, .i64 r_2]) := by
  unfold m_vars_Sides at hm
  refine fn_intro Tryz.func63 rfl Tryz.ntmps63 rfl fun H0 fr w0 => ?_
  refine g_seq ?_
  refine g_region ?_
  refine go_p rfl rfl rfl (o_box rfl rfl) ?_
  refine go_p rfl rfl rfl (o_assign rfl) ?_
  refine go_conv (nilE (i := 2) (sz := 2) (f := VarsUse.d) rfl).refines ?_
  refine go_p rfl rfl rfl (o_assign rfl) ?_
  refine go_nil ?_
  refine g_seq ?_
  refine g_region ?_
  refine go_p rfl rfl rfl (o_load_agg Tryz.isAgg27 Tryz.sizeOf27 rfl rfl) ?_
  obtain ⟨⟨x1, s1⟩, hx1, hm⟩ := bind_some hm
  refine go_op rfl rfl rfl (o_call (ms₁ := []) Tryz.call27 rfl (List.Perm.refl _) (w_auto_NormO hx1)) ?_
  rintro _ _ ⟨_, ⟨a_r1, m_r1, cap_r1, rfl, rfl⟩, rfl⟩
  refine go_p rfl rfl rfl (o_move rfl) ?_
  refine go_p rfl rfl rfl (o_extract rfl rfl) ?_
  refine go_p rfl rfl rfl (o_extract rfl rfl) ?_
  refine go_op rfl rfl rfl (o_alloc_own Tryz.zeroValue27 (cs := [.list 13 AutoState.d [], .i64 0]) rfl) ?_
  rintro _ _ ⟨b1, rfl, rfl⟩
  refine go_u rfl rfl (o_store_box 0 Tryz.sizeOf27 rfl rfl rfl rfl rfl rfl rfl rfl (Nat.le_of_ble_eq_true rfl)) ?_
  rintro _ _ rfl
  refine go_ms (ms' := [box b1 27 [_, _], _]) rfl ?_
  refine go_p rfl rfl rfl (o_assign rfl) ?_
  refine go_nil ?_
  refine g_seq ?_
  refine g_seq ?_
  refine g_region ?_
  refine go_p rfl rfl rfl (o_move rfl) ?_
  refine go_p rfl rfl rfl (o_cmp rfl rfl rfl) ?_
  refine go_nil ?_
  refine g_cond rfl (fun hc1 => ?_) (fun hc1 => ?_)
  · replace hm := cond_t hc1 hm
    refine g_seq ?_
    refine g_region ?_
    refine go_p rfl rfl rfl (o_move rfl) ?_
    refine go_p rfl rfl rfl (o_assign rfl) ?_
    refine go_conv (nilE (i := 2) (sz := 2) (f := VarsUse.d) rfl).refines ?_
    refine go_p rfl rfl rfl (o_assign rfl) ?_
    refine go_nil ?_
    refine g_ret ?_
    exact retK (ret_many (ds := [_, _]) rfl (by decide) ⟨ret_tmp rfl, ⟨ret_tmp rfl, rfl⟩⟩ (perm_drop _)) (congrArg (fun (p : ((List VarsUse) × Int)) => D.tup [.list 2 VarsUse.d p.1, .i64 p.2]) (some_eq hm))
  · replace hm := cond_f hc1 hm
    refine g_skip ?_
    refine g_seq ?_
    refine g_region ?_
    refine go_p rfl rfl rfl (o_load_box_agg 0 Tryz.isAgg27 Tryz.sizeOf27 rfl rfl rfl rfl (Nat.le_of_ble_eq_true rfl)) ?_
    obtain ⟨mm1, hx2, hm⟩ := bind_some hm
    refine go_op rfl rfl rfl (o_call Tryz.call88 rfl ((permA 1 rfl permN).trans List.perm_append_comm) (w_vars_sides hx2)) ?_
    rintro _ _ ⟨_, ⟨b2, rfl, rfl⟩, rfl⟩
    refine go_ms (ms' := [_, _, box b1 27 [_, _]]) rfl ?_
    refine go_p rfl rfl rfl (o_assign rfl) ?_
    refine go_nil ?_
    refine g_seq ?_
    refine g_region ?_
    refine go_p rfl rfl rfl (o_assign rfl) ?_
    refine go_conv (refines_newrow (T := 106) (sz := 2) (f := VarsUse.d)) ?_
    refine go_nil ?_
    refine g_seq ?_
    refine g_seq ?_
    refine g_region ?_
    refine go_p rfl rfl rfl (o_move rfl) ?_
    refine go_p rfl rfl rfl (o_call0 Tryz.call90 rfl w_maps_Keys) ?_
    obtain ⟨hg3, hm⟩ := grd_some hm
    refine go_op rfl rfl rfl (o_call (ms₁ := [_]) Tryz.call89 rfl (perm_at _ 2 _ rfl) (w_Sorted sh_slices_Sort_int sh_slices_Sort_int_none hg3)) ?_
    rintro _ _ ⟨_, ⟨a_r3, m_r3, cap_r3, rfl, rfl⟩, rfl⟩
    refine go_ms (ms' := [_, _, _, _, box b1 27 [_, _]]) rfl ?_
    refine go_p rfl rfl rfl (o_len_arr 1 Tryz.runUnderlying49 rfl rfl) ?_
    refine go_p rfl rfl rfl (o_move rfl) ?_
    refine go_nil ?_
    obtain ⟨o_1, hj1, hm1⟩ := bind_some hm
    refine g_cut_m [(5, _)] [(0, _), (1, _), (3, _), (4, _)] (fun (st : (List VarsUse)) (hid : (Option Addr × Nat)) => match st, hid with | l1, (a_r2, cap_r2) => [(7, .v (.slice a_r2 l1.length cap_r2))]) (fun F (st : (List VarsUse)) (hid : (Option Addr × Nat)) => match st, hid with | l1, (a_r2, cap_r2) => [(nthF F 0), (nthF F 1), row a_r2 cap_r2 106 2 VarsUse.d l1, (nthF F 2), (nthF F 3)]) (fun st => st = o_1) ⟨rfl, trivial⟩ ⟨rfl, rfl, rfl, rfl, trivial⟩ ?_ ?_
    · skip
      refine g_block ?_
      refine g_loop_m [(5, _), (6, _), (22, _), (23, _)] [(0, _), (1, _), (3, _), (4, _)] (fun (st : (Int × (List VarsUse))) (hid : (Option Addr × Nat)) => match st, hid with | (x2, l2), (a_r2, cap_r2) => [(7, .v (.slice a_r2 l2.length cap_r2)), (24, .i64 x2)]) (fun F (st : (Int × (List VarsUse))) (hid : (Option Addr × Nat)) => match st, hid with | (x2, l2), (a_r2, cap_r2) => [(nthF F 0), (nthF F 1), row a_r2 cap_r2 106 2 VarsUse.d l2, (nthF F 2), (nthF F 3)]) (_, _) hj1 (fun _ => rfl) ⟨rfl, rfl, rfl, rfl, trivial⟩ ⟨rfl, rfl, rfl, rfl, trivial⟩ ⟨rfl, rfl, trivial⟩ rfl ?_
      rintro n ⟨x2, l2⟩ ⟨a_r2, cap_r2⟩ hj1
      rw [m_vars_Sides_l1] at hj1
      refine g_norm (L' := [(7, .v (.slice a_r2 l2.length cap_r2)), (24, .i64 x2), (5, _), (6, _), (22, _), (23, _)]) (ms' := [_, _, row a_r2 cap_r2 106 2 VarsUse.d l2, _, _]) rfl rfl ?_
      refine g_seq ?_
      refine g_region ?_
      refine go_p rfl rfl rfl (o_cmp rfl rfl rfl) ?_
      refine go_nil ?_
      refine g_seq ?_
      refine g_cond rfl (fun hc2 => ?_) (fun hc2 => ?_)
      · replace hj1 := cond_t hc2 hj1
        refine g_skip ?_
        refine g_seq ?_
        refine g_block ?_
        refine g_seq ?_
        refine g_region ?_
        obtain ⟨x3, hx4, hj1⟩ := bind_some hj1
        refine go_p rfl rfl rfl (o_indexAddr_arr 1 Tryz.runUnderlying49 Tryz.sizeOf3 rfl rfl rfl hx4) ?_
        refine go_p rfl rfl rfl (o_load_arr (off := 0) 1 Tryz.isAgg3 rfl rfl (idx_some hx4).2 rfl rfl rfl) ?_
        refine go_p rfl rfl rfl (o_assign rfl) ?_
        refine go_nil ?_
        refine g_region ?_
        refine go_p rfl rfl rfl (o_move rfl) ?_
        refine go_p rfl rfl rfl (o_move rfl) ?_
        refine go_p rfl rfl rfl (o_move rfl) ?_
        refine go_p rfl rfl rfl (o_move rfl) ?_
        refine go_p rfl rfl rfl (o_lookup (z0 := (0 : Int)) 0 Tryz.runUnderlying132 (keyI64 Tryz.underlying3) Tryz.zeroValue3 (fun _ => conc_v.2 rfl) rfl rfl rfl) ?_
        refine go_p rfl rfl rfl (o_build (zs := [.v (.int .i64 0), .v (.int .i64 0)]) Tryz.runUnderlying106 Tryz.zeroValue106 (pl_106 _ Tryz.runUnderlying106) rfl rfl rfl rfl) ?_
        refine go_p rfl rfl rfl (o_buildSlice (xs := [_]) (f := VarsUse.d) (l := [(⟨x3, ((mget mm1 x3).getD (0 : Int))⟩ : VarsUse)]) Tryz.runUnderlying102 Tryz.sizeOf106 Tryz.zeroValue106 rfl rfl rfl (fun _ => ⟨rfl, rfl, rfl⟩) rfl) ?_
        obtain ⟨hg5, hj1⟩ := grd_some hj1
        refine go_op rfl rfl rfl (o_append (a := _) 2 Tryz.underlying102 Tryz.type106 rfl rfl rfl rfl rfl rfl rfl (fun _ => rfl) (fun _ => rfl) hg5 (app_len hg5 rfl)) ?_
        rintro _ _ ⟨a_r2, cap_r2, rfl, rfl⟩
        refine go_ms (ms' := [_, _, _, _, box b1 27 [_, _]]) rfl ?_
        refine go_p rfl rfl rfl (o_assign rfl) ?_
        refine go_nil ?_
        refine g_region ?_
        obtain ⟨hg6, hj1⟩ := grd_some hj1
        refine go_p rfl rfl rfl (o_add rfl rfl (i64_id hg6)) ?_
        refine go_p rfl rfl rfl (o_move rfl) ?_
        refine go_nil ?_
        exact ⟨_, (_, _), hj1, ⟨rfl, rfl, trivial⟩, ⟨rfl, rfl, rfl, rfl, trivial⟩, [], rfl⟩
      · replace hj1 := cond_f hc2 hj1
        refine g_exit ?_
        exact ⟨_, (_, _), some_eq hj1, ⟨rfl, trivial⟩, ⟨rfl, trivial⟩, [], rfl⟩
    · rintro l1 ⟨a_r2, cap_r2⟩ hst
      subst hst
      refine k_norm (L' := [(7, .v (.slice a_r2 l1.length cap_r2)), (5, _)]) (ms' := [_, _, row a_r2 cap_r2 106 2 VarsUse.d l1, _, _]) rfl rfl ?_
      refine g_seq ?_
      refine g_region ?_
      refine go_p rfl rfl rfl (o_move rfl) ?_
      refine go_p rfl rfl rfl (o_move rfl) ?_
      refine go_p rfl rfl rfl (o_assign rfl) ?_
      refine go_p rfl rfl rfl (o_assign rfl) ?_
      refine go_nil ?_
      refine g_conv (peekE (i := 2) 2 rfl rfl rfl).refines ?_
      refine g_ret ?_
      exact retK (ret_many (ds := [_, _]) rfl (by decide) ⟨ret_tmp rfl, ⟨ret_tmp rfl, rfl⟩⟩ (perm_drop _)) (congrArg (fun (p : ((List VarsUse) × Int)) => D.tup [.list 2 VarsUse.d p.1, .i64 p.2]) (some_eq hm1))
theorem fi_106_1 : FieldIs Tryz.prog 106 1 1 1 false := ⟨⟨_, _, Tryz.runUnderlying106, rfl, rfl, Tryz.sizeOf3, by decide, Tryz.isAgg3⟩⟩
theorem fi_106_0 : FieldIs Tryz.prog 106 0 0 1 false := ⟨⟨_, _, Tryz.runUnderlying106, rfl, rfl, Tryz.sizeOf3, by decide, Tryz.isAgg3⟩⟩
def m_pair_doubles_l1 (x1 : (List VarsUse)) : Nat → (Int × (List Int)) → Option (List Int)
  | 0, _ => none
  | n + 1, (x3, l2) =>
    bif (decide (x3 < (x1.length : Int))) then
      (idx x1 x3).bind fun x4 =>
      bif (decide (x4.side = 3)) then
        grd ((l2.length + ([x4.var] : List _).length) * 8 ≤ 140737488355328) <|
        grd (InR (x3 + 1)) <|
        m_pair_doubles_l1 x1 n ((x3 + 1), (l2 ++ [x4.var]))
      else
        grd (InR (x3 + 1)) <|
        m_pair_doubles_l1 x1 n ((x3 + 1), l2)
    else
      some l2
def m_pair_doubles (a1 : AutoAuto)  : Option (List Int) :=
  (m_vars_Sides a1).bind fun (x1, x2) =>
  (m_pair_doubles_l1 x1 FU (0, []) : Option (List Int)).bind fun l1 =>
  some l1
theorem w_pair_doubles {a1 : AutoAuto}  {s_1 : (List Int)} (hm : m_pair_doubles a1 = some s_1) : Go.V.Fn Tryz.prog 29 [AutoAuto.d a1] [] (fun d ms' => ∃ a_s_1 cap_s_1, d = .v (.slice a_s_1 s_1.length cap_s_1) ∧ ms' = [row a_s_1 cap_s_1 3 1 D.i64 s_1]) := by
  unfold m_pair_doubles at hm
  refine fn_intro Tryz.func29 rfl Tryz.ntmps29 rfl fun H0 fr w0 => ?_
  refine g_seq ?_
  refine g_region ?_
  refine go_p rfl rfl rfl (o_box rfl rfl) ?_
  refine go_p rfl rfl rfl (o_assign rfl) ?_
  refine go_conv (nilE (i := 2) (sz := 1) (f := D.i64) rfl).refines ?_
  refine go_nil ?_
  refine g_seq ?_
  refine g_region ?_
  refine go_p rfl rfl rfl (o_load_agg Tryz.isAgg27 Tryz.sizeOf27 rfl rfl) ?_
  obtain ⟨⟨x1, x2⟩, hx1, hm⟩ := bind_some hm
  refine go_p rfl rfl rfl (o_call0 Tryz.call63 rfl (w_vars_Sides hx1)) ?_
  refine go_p rfl rfl rfl (o_move rfl) ?_
  refine go_p rfl rfl rfl (o_extract rfl rfl) ?_
  refine go_p rfl rfl rfl (o_extract rfl rfl) ?_
  refine go_p rfl rfl rfl (o_assign rfl) ?_
  refine go_p rfl rfl rfl (o_assign rfl) ?_
  refine go_nil ?_
  refine g_seq ?_
  refine g_region ?_
  refine go_p rfl rfl rfl (o_assign rfl) ?_
  refine go_conv (refines_newrow (T := 3) (sz := 1) (f := D.i64)) ?_
  refine go_nil ?_
  refine g_seq ?_
  refine g_seq ?_
  refine g_region ?_
  refine go_p rfl rfl rfl (o_move rfl) ?_
  refine go_p rfl rfl rfl (o_len Tryz.runUnderlying102 rfl) ?_
  refine go_p rfl rfl rfl (o_move rfl) ?_
  refine go_nil ?_
  obtain ⟨o_1, hj1, hm1⟩ := bind_some hm
  refine g_cut_m [] [] (fun (st : (List Int)) (hid : (Option Addr × Nat)) => match st, hid with | l1, (a_r1, cap_r1) => [(5, .v (.slice a_r1 l1.length cap_r1))]) (fun F (st : (List Int)) (hid : (Option Addr × Nat)) => match st, hid with | l1, (a_r1, cap_r1) => [row a_r1 cap_r1 3 1 D.i64 l1]) (fun st => st = o_1) trivial trivial ?_ ?_
  · skip
    refine g_block ?_
    refine g_loop_m [(13, _), (14, _)] [] (fun (st : (Int × (List Int))) (hid : (Option Addr × Nat)) => match st, hid with | (x3, l2), (a_r1, cap_r1) => [(5, .v (.slice a_r1 l2.length cap_r1)), (15, .i64 x3)]) (fun F (st : (Int × (List Int))) (hid : (Option Addr × Nat)) => match st, hid with | (x3, l2), (a_r1, cap_r1) => [row a_r1 cap_r1 3 1 D.i64 l2]) (_, _) hj1 (fun _ => rfl) ⟨rfl, rfl, trivial⟩ trivial ⟨rfl, rfl, trivial⟩ rfl ?_
    rintro n ⟨x3, l2⟩ ⟨a_r1, cap_r1⟩ hj1
    rw [m_pair_doubles_l1] at hj1
    refine g_norm (L' := [(5, .v (.slice a_r1 l2.length cap_r1)), (15, .i64 x3), (13, _), (14, _)]) (ms' := [row a_r1 cap_r1 3 1 D.i64 l2]) rfl rfl ?_
    refine g_seq ?_
    refine g_region ?_
    refine go_p rfl rfl rfl (o_cmp rfl rfl rfl) ?_
    refine go_nil ?_
    refine g_seq ?_
    refine g_cond rfl (fun hc1 => ?_) (fun hc1 => ?_)
    · replace hj1 := cond_t hc1 hj1
      refine g_skip ?_
      refine g_seq ?_
      refine g_block ?_
      refine g_seq ?_
      refine g_region ?_
      obtain ⟨x4, hx2, hj1⟩ := bind_some hj1
      refine go_p rfl rfl rfl (o_indexAddr_m Tryz.runUnderlying102 Tryz.sizeOf106 rfl rfl hx2) ?_
      refine go_p rfl rfl rfl (o_load_agg Tryz.isAgg106 Tryz.sizeOf106 rfl rfl) ?_
      refine go_op rfl rfl rfl (o_alloc_own Tryz.zeroValue106 (cs := [.i64 0, .i64 0]) rfl) ?_
      rintro _ _ ⟨b1, rfl, rfl⟩
      refine go_u rfl rfl (o_store_box 0 Tryz.sizeOf106 rfl rfl rfl rfl rfl rfl rfl rfl (Nat.le_of_ble_eq_true rfl)) ?_
      rintro _ _ rfl
      refine go_ms (ms' := [box b1 106 [_, _], _]) rfl ?_
      refine go_nil ?_
      refine g_seq ?_
      refine g_region ?_
      refine go_p rfl rfl rfl (o_fieldAddr_box fi_106_1 rfl) ?_
      refine go_p rfl rfl rfl (o_load_box 0 Tryz.isAgg3 rfl rfl rfl rfl) ?_
      refine go_p rfl rfl rfl (o_cmp rfl rfl rfl) ?_
      refine go_nil ?_
      refine g_cond rfl (fun hc2 => ?_) (fun hc2 => ?_)
      · replace hj1 := cond_t hc2 hj1
        refine g_region ?_
        refine go_p rfl rfl rfl (o_move rfl) ?_
        refine go_p rfl rfl rfl (o_fieldAddr_box fi_106_0 rfl) ?_
        refine go_p rfl rfl rfl (o_load_box 0 Tryz.isAgg3 rfl rfl rfl rfl) ?_
        refine go_p rfl rfl rfl (o_buildSlice (xs := [_]) (f := D.i64) (l := [_]) Tryz.runUnderlying49 Tryz.sizeOf3 Tryz.zeroValue3 rfl rfl rfl (fun _ => ⟨rfl, rfl, rfl⟩) rfl) ?_
        obtain ⟨hg3, hj1⟩ := grd_some hj1
        refine go_op rfl rfl rfl (o_append (a := _) 1 Tryz.underlying49 Tryz.type3 rfl rfl rfl rfl rfl rfl rfl (fun _ => rfl) (fun _ => rfl) hg3 (app_len hg3 rfl)) ?_
        rintro _ _ ⟨a_r1, cap_r1, rfl, rfl⟩
        refine go_ms (ms' := [box b1 106 [_, _], _]) rfl ?_
        refine go_p rfl rfl rfl (o_assign rfl) ?_
        refine go_nil ?_
        refine g_region ?_
        obtain ⟨hg4, hj1⟩ := grd_some hj1
        refine go_p rfl rfl rfl (o_add rfl rfl (i64_id hg4)) ?_
        refine go_p rfl rfl rfl (o_move rfl) ?_
        refine go_nil ?_
        exact ⟨_, (_, _), hj1, ⟨rfl, rfl, trivial⟩, ⟨rfl, rfl, trivial⟩, [_], rfl⟩
      · replace hj1 := cond_f hc2 hj1
        refine g_skip ?_
        refine g_region ?_
        obtain ⟨hg5, hj1⟩ := grd_some hj1
        refine go_p rfl rfl rfl (o_add rfl rfl (i64_id hg5)) ?_
        refine go_p rfl rfl rfl (o_move rfl) ?_
        refine go_nil ?_
        exact ⟨_, (_, _), hj1, ⟨rfl, rfl, trivial⟩, ⟨rfl, rfl, trivial⟩, [_], rfl⟩
    · replace hj1 := cond_f hc1 hj1
      refine g_exit ?_
      exact ⟨_, (_, _), some_eq hj1, ⟨rfl, trivial⟩, trivial, [], rfl⟩
  · rintro l1 ⟨a_r1, cap_r1⟩ hst
    subst hst
    refine k_norm (L' := [(5, .v (.slice a_r1 l1.length cap_r1))]) (ms' := [row a_r1 cap_r1 3 1 D.i64 l1]) rfl rfl ?_
    refine g_seq ?_
    refine g_region ?_
    refine go_p rfl rfl rfl (o_move rfl) ?_
    refine go_p rfl rfl rfl (o_assign rfl) ?_
    refine go_nil ?_
    refine g_ret ?_
    obtain rfl := some_eq hm1
    exact retK (ret_one' rfl (ret_tmp rfl) (permA 0 rfl permN)) ⟨_, _, rfl, rfl⟩
def m_cmp_isNaN_int (x1 : Int) : Option Bool :=
  some (!decide (x1 = x1))
theorem w_cmp_isNaN_int {x1 : Int} {r_1 : Bool} (hm : m_cmp_isNaN_int x1 = some r_1) : Fn0 Tryz.prog 161 [.i64 x1] (.bool r_1) := by
  unfold m_cmp_isNaN_int at hm
  refine fn_intro Tryz.func161 rfl Tryz.ntmps161 rfl fun H0 fr w0 => ?_
  refine g_seq ?_
  refine g_region ?_
  refine go_p rfl rfl rfl (o_assign rfl) ?_
  refine go_nil ?_
  refine g_seq ?_
  refine g_region ?_
  refine go_p rfl rfl rfl (o_move rfl) ?_
  refine go_p rfl rfl rfl (o_move rfl) ?_
  refine go_p rfl rfl rfl (o_cmp rfl rfl rfl) ?_
  refine go_p rfl rfl rfl (o_assign rfl) ?_
  refine go_nil ?_
  refine g_ret ?_
  exact retK (ret_one' rfl (ret_tmp rfl) (perm_drop _)) (congrArg (fun (p : Bool) => (.bool p : D)) (some_eq hm))
def m_cmp_Less_int (x1 : Int) (y1 : Int) : Option Bool :=
  (m_cmp_isNaN_int x1).bind fun x2 =>
  (bif x2 then ((m_cmp_isNaN_int y1).bind fun x3 =>
  some (!x3)) else (some false)).bind fun p1 =>
  some (p1 || (decide (x1 < y1)))
theorem w_cmp_Less_int {x1 : Int} {y1 : Int} {r_1 : Bool} (hm : m_cmp_Less_int x1 y1 = some r_1) : Fn0 Tryz.prog 126 [.i64 x1, .i64 y1] (.bool r_1) := by
  unfold m_cmp_Less_int at hm
  refine fn_intro Tryz.func126 rfl Tryz.ntmps126 rfl fun H0 fr w0 => ?_
  refine g_seq ?_
  refine g_region ?_
  refine go_p rfl rfl rfl (o_assign rfl) ?_
  refine go_nil ?_
  refine g_seq ?_
  refine g_region ?_
  refine go_p rfl rfl rfl (o_move rfl) ?_
  obtain ⟨x2, hx1, hm⟩ := bind_some hm
  refine go_p rfl rfl rfl (o_call0 Tryz.call161 rfl (w_cmp_isNaN_int hx1)) ?_
  refine go_p rfl rfl rfl (o_move rfl) ?_
  obtain ⟨p1, hp_1, hm⟩ := bind_some hm
  refine go_two [(0, _), (1, _)] 4 11 p1 (t := 7) ⟨rfl, rfl, trivial⟩ rfl (fun hg_1 hk1 => ?_) (fun hg_1 hk1 => ?_) ?_
  · replace hp_1 := cond_t hg_1 hp_1
    refine go_wantp rfl rfl rfl hg_1 rfl rfl (o_move rfl) ?_
    obtain ⟨x3, hx2, hp_1⟩ := bind_some hp_1
    refine go_wantp rfl rfl rfl hg_1 rfl rfl (o_call0 Tryz.call161 rfl (w_cmp_isNaN_int hx2)) ?_
    refine go_wantp rfl rfl rfl hg_1 rfl rfl (o_not rfl) ?_
    refine go_p rfl rfl rfl (o_pickT rfl hg_1 rfl) ?_
    exact go_meet hk1 (congrArg (fun b => some (D.bool b)) (some_eq hp_1)) ⟨rfl, rfl, trivial⟩
  · replace hp_1 := cond_f hg_1 hp_1
    refine go_skip rfl rfl rfl hg_1 rfl rfl ?_
    refine go_skip rfl rfl rfl hg_1 rfl rfl ?_
    refine go_skip rfl rfl rfl hg_1 rfl rfl ?_
    refine go_p rfl rfl rfl (o_pickF rfl hg_1 rfl) ?_
    exact go_meet hk1 (congrArg (fun b => some (D.bool b)) (some_eq hp_1)) ⟨rfl, rfl, trivial⟩
  refine go_p rfl rfl rfl (o_move rfl) ?_
  apply go_or [] 4 16 (t := 12) trivial rfl
  · intro hg_2 hk2
    refine go_wantp rfl rfl rfl hg_2 rfl rfl (o_move rfl) ?_
    refine go_wantp rfl rfl rfl hg_2 rfl rfl (o_move rfl) ?_
    refine go_wantp rfl rfl rfl hg_2 rfl rfl (o_cmp rfl rfl rfl) ?_
    refine go_p rfl rfl rfl (o_pickF rfl hg_2 rfl) ?_
    exact go_meet hk2 (rfl) trivial
  · intro hg_2 hk2
    refine go_skip rfl rfl rfl hg_2 rfl rfl ?_
    refine go_skip rfl rfl rfl hg_2 rfl rfl ?_
    refine go_skip rfl rfl rfl hg_2 rfl rfl ?_
    refine go_p rfl rfl rfl (o_pickT rfl hg_2 rfl) ?_
    exact go_meet hk2 (rfl) trivial
  refine go_p rfl rfl rfl (o_assign rfl) ?_
  refine go_nil ?_
  refine g_ret ?_
  exact retK (ret_one' rfl (ret_tmp rfl) (perm_drop _)) (congrArg (fun (p : Bool) => (.bool p : D)) (some_eq hm))
def m_slices_isNaN_int (x1 : Int) : Option Bool :=
  some (!decide (x1 = x1))
theorem w_slices_isNaN_int {x1 : Int} {r_1 : Bool} (hm : m_slices_isNaN_int x1 = some r_1) : Fn0 Tryz.prog 127 [.i64 x1] (.bool r_1) := by
  unfold m_slices_isNaN_int at hm
  refine fn_intro Tryz.func127 rfl Tryz.ntmps127 rfl fun H0 fr w0 => ?_
  refine g_seq ?_
  refine g_region ?_
  refine go_p rfl rfl rfl (o_assign rfl) ?_
  refine go_nil ?_
  refine g_seq ?_
  refine g_region ?_
  refine go_p rfl rfl rfl (o_move rfl) ?_
  refine go_p rfl rfl rfl (o_move rfl) ?_
  refine go_p rfl rfl rfl (o_cmp rfl rfl rfl) ?_
  refine go_p rfl rfl rfl (o_assign rfl) ?_
  refine go_nil ?_
  refine g_ret ?_
  exact retK (ret_one' rfl (ret_tmp rfl) (perm_drop _)) (congrArg (fun (p : Bool) => (.bool p : D)) (some_eq hm))
def m_slices_BinarySearch_int_int_l1 (x1 : (List Int)) (target1 : Int) : Nat → (Int × Int) → Option Int
  | 0, _ => none
  | n + 1, (i2, j1) =>
    bif (decide (i2 < j1)) then
      grd (InR (i2 + j1)) <|
      grd (0 ≤ (i2 + j1) ∧ (i2 + j1) < 9223372036854775808) <|
      grd (InR ((i2 + j1) / 2)) <|
      (idx x1 ((i2 + j1) / 2)).bind fun x2 =>
      (m_cmp_Less_int x2 target1).bind fun x3 =>
      bif x3 then
        grd (InR (((i2 + j1) / 2) + 1)) <|
        m_slices_BinarySearch_int_int_l1 x1 target1 n ((((i2 + j1) / 2) + 1), j1)
      else
        m_slices_BinarySearch_int_int_l1 x1 target1 n (i2, ((i2 + j1) / 2))
    else
      some i2
def m_slices_BinarySearch_int_int (x1 : (List Int)) (target1 : Int) : Option (Int × Bool) :=
  (m_slices_BinarySearch_int_int_l1 x1 target1 FU (0, (x1.length : Int)) : Option Int).bind fun i1 =>
  (bif (decide (i1 < (x1.length : Int))) then ((idx x1 i1).bind fun x4 =>
  (bif (decide (x4 = target1)) then (some true) else ((idx x1 i1).bind fun x5 =>
  (m_slices_isNaN_int x5).bind fun x6 =>
  (bif x6 then ((m_slices_isNaN_int target1).bind fun x7 =>
  some x7) else (some false)).bind fun p3 =>
  some p3)).bind fun p2 =>
  some p2) else (some false)).bind fun p1 =>
  some (i1, p1)
theorem w_slices_BinarySearch_int_int {x1 : (List Int)} {target1 : Int} {r_1 : Int} {r_2 : Bool} (hm : m_slices_BinarySearch_int_int x1 target1 = some (r_1, r_2)) : Fn0 Tryz.prog 91 [.list 1 D.i64 x1, .i64 target1] (.tup [.i64 r_1, .bool r_2]) := by
  unfold m_slices_BinarySearch_int_int at hm
  refine fn_intro Tryz.func91 rfl Tryz.ntmps91 rfl fun H0 fr w0 => ?_
  refine g_seq ?_
  refine g_region ?_
  refine go_p rfl rfl rfl (o_assign rfl) ?_
  refine go_p rfl rfl rfl (o_assign rfl) ?_
  refine go_nil ?_
  refine g_seq ?_
  refine g_region ?_
  refine go_p rfl rfl rfl (o_move rfl) ?_
  refine go_p rfl rfl rfl (o_len Tryz.runUnderlying49 rfl) ?_
  refine go_p rfl rfl rfl (o_assign rfl) ?_
  refine go_nil ?_
  refine g_seq ?_
  refine g_region ?_
  refine go_p rfl rfl rfl (o_move rfl) ?_
  refine go_p rfl rfl rfl (o_assign rfl) ?_
  refine go_p rfl rfl rfl (o_assign rfl) ?_
  refine go_nil ?_
  refine g_seq ?_
  obtain ⟨o_1, hj1, hm1⟩ := bind_some hm
  refine g_cut_m [(0, _), (1, _), (6, _)] [] (fun (st : Int) (hid : Unit) => match st, hid with | i1, _ => [(7, .i64 i1)]) (fun F (st : Int) (hid : Unit) => match st, hid with | i1, _ => []) (fun st => st = o_1) ⟨rfl, rfl, rfl, trivial⟩ trivial ?_ ?_
  · skip
    refine g_block ?_
    refine g_loop_m [(0, _), (1, _), (6, _)] [] (fun (st : (Int × Int)) (hid : Unit) => match st, hid with | (i2, j1), _ => [(7, .i64 i2), (8, .i64 j1)]) (fun F (st : (Int × Int)) (hid : Unit) => match st, hid with | (i2, j1), _ => []) () hj1 (fun _ => rfl) ⟨rfl, rfl, rfl, trivial⟩ trivial ⟨rfl, rfl, trivial⟩ rfl ?_
    rintro n ⟨i2, j1⟩ _ hj1
    rw [m_slices_BinarySearch_int_int_l1] at hj1
    refine g_norm (L' := [(7, .i64 i2), (8, .i64 j1), (0, _), (1, _), (6, _)]) (ms' := []) rfl rfl ?_
    refine g_seq ?_
    refine g_seq ?_
    refine g_region ?_
    refine go_p rfl rfl rfl (o_move rfl) ?_
    refine go_p rfl rfl rfl (o_move rfl) ?_
    refine go_p rfl rfl rfl (o_cmp rfl rfl rfl) ?_
    refine go_nil ?_
    refine g_cond rfl (fun hc1 => ?_) (fun hc1 => ?_)
    · replace hj1 := cond_t hc1 hj1
      refine g_skip ?_
      refine g_block ?_
      refine g_seq ?_
      refine g_region ?_
      refine go_p rfl rfl rfl (o_move rfl) ?_
      refine go_p rfl rfl rfl (o_move rfl) ?_
      obtain ⟨hg1, hj1⟩ := grd_some hj1
      refine go_p rfl rfl rfl (o_add rfl rfl (i64_id hg1)) ?_
      obtain ⟨hg2, hj1⟩ := grd_some hj1
      refine go_p rfl rfl rfl (o_conv Tryz.runUnderlying3 Tryz.runUnderlying141 rfl (u64_id hg2)) ?_
      refine go_p rfl rfl rfl (o_shr1 rfl rfl) ?_
      obtain ⟨hg3, hj1⟩ := grd_some hj1
      refine go_p rfl rfl rfl (o_conv Tryz.runUnderlying141 Tryz.runUnderlying3 rfl (i64_id hg3)) ?_
      refine go_p rfl rfl rfl (o_assign rfl) ?_
      refine go_nil ?_
      refine g_seq ?_
      refine g_region ?_
      refine go_p rfl rfl rfl (o_move rfl) ?_
      refine go_p rfl rfl rfl (o_move rfl) ?_
      obtain ⟨x2, hx4, hj1⟩ := bind_some hj1
      refine go_p rfl rfl rfl (o_indexAddr_m Tryz.runUnderlying49 Tryz.sizeOf3 rfl rfl hx4) ?_
      refine go_p rfl rfl rfl (o_load Tryz.isAgg3 rfl rfl) ?_
      refine go_p rfl rfl rfl (o_move rfl) ?_
      obtain ⟨x3, hx5, hj1⟩ := bind_some hj1
      refine go_p rfl rfl rfl (o_call0 Tryz.call126 rfl (w_cmp_Less_int hx5)) ?_
      refine go_nil ?_
      refine g_cond rfl (fun hc2 => ?_) (fun hc2 => ?_)
      · replace hj1 := cond_t hc2 hj1
        refine g_region ?_
        refine go_p rfl rfl rfl (o_move rfl) ?_
        obtain ⟨hg6, hj1⟩ := grd_some hj1
        refine go_p rfl rfl rfl (o_add rfl rfl (i64_id hg6)) ?_
        refine go_p rfl rfl rfl (o_assign rfl) ?_
        refine go_nil ?_
        exact ⟨_, (), hj1, ⟨rfl, rfl, trivial⟩, ⟨rfl, rfl, rfl, trivial⟩, [], rfl⟩
      · replace hj1 := cond_f hc2 hj1
        refine g_region ?_
        refine go_p rfl rfl rfl (o_move rfl) ?_
        refine go_p rfl rfl rfl (o_assign rfl) ?_
        refine go_nil ?_
        exact ⟨_, (), hj1, ⟨rfl, rfl, trivial⟩, ⟨rfl, rfl, rfl, trivial⟩, [], rfl⟩
    · replace hj1 := cond_f hc1 hj1
      refine g_exit ?_
      exact ⟨_, (), some_eq hj1, ⟨rfl, trivial⟩, ⟨rfl, rfl, rfl, trivial⟩, [], rfl⟩
  · rintro i1 _ hst
    subst hst
    refine k_norm (L' := [(7, .i64 i1), (0, _), (1, _), (6, _)]) (ms' := []) rfl rfl ?_
    refine g_seq ?_
    refine g_region ?_
    refine go_p rfl rfl rfl (o_move rfl) ?_
    refine go_p rfl rfl rfl (o_move rfl) ?_
    refine go_p rfl rfl rfl (o_move rfl) ?_
    refine go_p rfl rfl rfl (o_cmp rfl rfl rfl) ?_
    refine go_p rfl rfl rfl (o_move rfl) ?_
    obtain ⟨p1, hp_1, hm1⟩ := bind_some hm1
    refine go_two [(31, _)] 18 53 p1 (t := 35) ⟨rfl, trivial⟩ rfl (fun hg_1 hk1 => ?_) (fun hg_1 hk1 => ?_) ?_
    · replace hp_1 := cond_t hg_1 hp_1
      refine go_wantp rfl rfl rfl hg_1 rfl rfl (o_move rfl) ?_
      refine go_wantp rfl rfl rfl hg_1 rfl rfl (o_move rfl) ?_
      obtain ⟨x4, hx7, hp_1⟩ := bind_some hp_1
      refine go_wantp rfl rfl rfl hg_1 rfl rfl (o_indexAddr_m Tryz.runUnderlying49 Tryz.sizeOf3 rfl rfl hx7) ?_
      refine go_wantp rfl rfl rfl hg_1 rfl rfl (o_load Tryz.isAgg3 rfl rfl) ?_
      refine go_wantp rfl rfl rfl hg_1 rfl rfl (o_move rfl) ?_
      refine go_wantp rfl rfl rfl hg_1 rfl rfl (o_cmp rfl rfl rfl) ?_
      refine go_wantp rfl rfl rfl hg_1 rfl rfl (o_move rfl) ?_
      obtain ⟨p2, hp_2, hp_1⟩ := bind_some hp_1
      refine go_two [(31, _), (35, _)] 10 52 p2 (t := 42) ⟨rfl, rfl, trivial⟩ rfl (fun hg_2 hk2 => ?_) (fun hg_2 hk2 => ?_) ?_
      · replace hp_2 := cond_t hg_2 hp_2
        refine go_skip rfl rfl rfl hg_2 rfl rfl ?_
        refine go_skip rfl rfl rfl hg_2 rfl rfl ?_
        refine go_skip rfl rfl rfl hg_2 rfl rfl ?_
        refine go_skip rfl rfl rfl hg_2 rfl rfl ?_
        refine go_skip rfl rfl rfl hg_2 rfl rfl ?_
        refine go_skip rfl rfl rfl hg_2 rfl rfl ?_
        refine go_skipu rfl rfl rfl rfl rfl ?_
        refine go_skipu rfl rfl rfl rfl rfl ?_
        refine go_skip rfl rfl rfl hg_2 rfl rfl ?_
        refine go_wantp rfl rfl rfl hg_1 rfl rfl (o_pickT rfl hg_2 rfl) ?_
        exact go_meet hk2 (congrArg (fun b => some (D.bool b)) (some_eq hp_2)) ⟨rfl, rfl, trivial⟩
      · replace hp_2 := cond_f hg_2 hp_2
        refine go_wantp rfl rfl rfl hg_2 rfl rfl (o_move rfl) ?_
        refine go_wantp rfl rfl rfl hg_2 rfl rfl (o_move rfl) ?_
        obtain ⟨x5, hx8, hp_2⟩ := bind_some hp_2
        refine go_wantp rfl rfl rfl hg_2 rfl rfl (o_indexAddr_m Tryz.runUnderlying49 Tryz.sizeOf3 rfl rfl hx8) ?_
        refine go_wantp rfl rfl rfl hg_2 rfl rfl (o_load Tryz.isAgg3 rfl rfl) ?_
        obtain ⟨x6, hx9, hp_2⟩ := bind_some hp_2
        refine go_wantp rfl rfl rfl hg_2 rfl rfl (o_call0 Tryz.call127 rfl (w_slices_isNaN_int hx9)) ?_
        refine go_wantp rfl rfl rfl hg_2 rfl rfl (o_move rfl) ?_
        obtain ⟨p3, hp_3, hp_2⟩ := bind_some hp_2
        refine go_two [(31, _), (35, _), (42, _)] 3 51 p3 (t := 48) ⟨rfl, rfl, rfl, trivial⟩ rfl (fun hg_3 hk3 => ?_) (fun hg_3 hk3 => ?_) ?_
        · replace hp_3 := cond_t hg_3 hp_3
          refine go_wantp rfl rfl rfl hg_3 rfl rfl (o_move rfl) ?_
          obtain ⟨x7, hx10, hp_3⟩ := bind_some hp_3
          refine go_wantp rfl rfl rfl hg_3 rfl rfl (o_call0 Tryz.call127 rfl (w_slices_isNaN_int hx10)) ?_
          refine go_wantp rfl rfl rfl hg_2 rfl rfl (o_pickT rfl hg_3 rfl) ?_
          exact go_meet hk3 (congrArg (fun b => some (D.bool b)) (some_eq hp_3)) ⟨rfl, rfl, rfl, trivial⟩
        · replace hp_3 := cond_f hg_3 hp_3
          refine go_skip rfl rfl rfl hg_3 rfl rfl ?_
          refine go_skip rfl rfl rfl hg_3 rfl rfl ?_
          refine go_wantp rfl rfl rfl hg_2 rfl rfl (o_pickF rfl hg_3 rfl) ?_
          exact go_meet hk3 (congrArg (fun b => some (D.bool b)) (some_eq hp_3)) ⟨rfl, rfl, rfl, trivial⟩
        refine go_wantp rfl rfl rfl hg_1 rfl rfl (o_pickF rfl hg_2 rfl) ?_
        exact go_meet hk2 (congrArg (fun b => some (D.bool b)) (some_eq hp_2)) ⟨rfl, rfl, trivial⟩
      refine go_p rfl rfl rfl (o_pickT rfl hg_1 rfl) ?_
      exact go_meet hk1 (congrArg (fun b => some (D.bool b)) (some_eq hp_1)) ⟨rfl, trivial⟩
    · replace hp_1 := cond_f hg_1 hp_1
      refine go_skip rfl rfl rfl hg_1 rfl rfl ?_
      refine go_skip rfl rfl rfl hg_1 rfl rfl ?_
      refine go_skip rfl rfl rfl hg_1 rfl rfl ?_
      refine go_skip rfl rfl rfl hg_1 rfl rfl ?_
      refine go_skip rfl rfl rfl hg_1 rfl rfl ?_
      refine go_skip rfl rfl rfl hg_1 rfl rfl ?_
      refine go_skip rfl rfl rfl hg_1 rfl rfl ?_
      refine go_skipu rfl rfl rfl rfl rfl ?_
      refine go_skipu rfl rfl rfl rfl rfl ?_
      refine go_skipu rfl rfl rfl rfl rfl ?_
      refine go_skipu rfl rfl rfl rfl rfl ?_
      refine go_skipu rfl rfl rfl rfl rfl ?_
      refine go_skipu rfl rfl rfl rfl rfl ?_
      refine go_skipu rfl rfl rfl rfl rfl ?_
      refine go_skipu rfl rfl rfl rfl rfl ?_
      refine go_skipu rfl rfl rfl rfl rfl ?_
      refine go_skip rfl rfl rfl hg_1 rfl rfl ?_
      refine go_p rfl rfl rfl (o_pickF rfl hg_1 rfl) ?_
      exact go_meet hk1 (congrArg (fun b => some (D.bool b)) (some_eq hp_1)) ⟨rfl, trivial⟩
    refine go_p rfl rfl rfl (o_assign rfl) ?_
    refine go_p rfl rfl rfl (o_assign rfl) ?_
    refine go_nil ?_
    refine g_ret ?_
    exact retK (ret_many (ds := [_, _]) rfl (by decide) ⟨ret_tmp rfl, ⟨ret_tmp rfl, rfl⟩⟩ (perm_drop _)) (congrArg (fun (p : (Int × Bool)) => D.tup [.i64 p.1, .bool p.2]) (some_eq hm1))
def m_pair_has (s1 : AutoState) (v1 : Int) : Option Bool :=
  (m_slices_BinarySearch_int_int s1.vars v1).bind fun (x1, x2) =>
  some x2
theorem w_pair_has {s1 : AutoState} {v1 : Int} {r_1 : Bool} (hm : m_pair_has s1 v1 = some r_1) : Fn0 Tryz.prog 64 [AutoState.d s1, .i64 v1] (.bool r_1) := by
  unfold m_pair_has at hm
  refine fn_intro Tryz.func64 rfl Tryz.ntmps64 rfl fun H0 fr w0 => ?_
  refine g_seq ?_
  refine g_region ?_
  refine go_p rfl rfl rfl (o_box rfl rfl) ?_
  refine go_p rfl rfl rfl (o_assign rfl) ?_
  refine go_nil ?_
  refine g_seq ?_
  refine g_region ?_
  refine go_p rfl rfl rfl (o_fieldAddr fi_60_8 rfl rfl rfl) ?_
  refine go_p rfl rfl rfl (o_load Tryz.isAgg49 rfl rfl) ?_
  refine go_p rfl rfl rfl (o_move rfl) ?_
  obtain ⟨⟨x1, x2⟩, hx1, hm⟩ := bind_some hm
  refine go_p rfl rfl rfl (o_call0 Tryz.call91 rfl (w_slices_BinarySearch_int_int hx1)) ?_
  refine go_p rfl rfl rfl (o_move rfl) ?_
  refine go_p rfl rfl rfl (o_extract rfl rfl) ?_
  refine go_p rfl rfl rfl (o_extract rfl rfl) ?_
  refine go_p rfl rfl rfl (o_assign rfl) ?_
  refine go_p rfl rfl rfl (o_assign rfl) ?_
  refine go_nil ?_
  refine g_seq ?_
  refine g_region ?_
  refine go_p rfl rfl rfl (o_move rfl) ?_
  refine go_p rfl rfl rfl (o_assign rfl) ?_
  refine go_nil ?_
  refine g_ret ?_
  exact retK (ret_one' rfl (ret_tmp rfl) (perm_drop _)) (congrArg (fun (p : Bool) => (.bool p : D)) (some_eq hm))
def m_pair_together_l1 (a1 : AutoAuto) (v1 : Int) (w1 : Int) (plus1 : Bool) : Nat → (Bool × Int) → Option (Out Bool Bool)
  | 0, _ => none
  | n + 1, (some2, x1) =>
    bif (decide (x1 < (a1.l.length : Int))) then
      (idx a1.l x1).bind fun x2 =>
      bif (!(x2.plus == plus1)) then
        grd (InR (x1 + 1)) <|
        m_pair_together_l1 a1 v1 w1 plus1 n (some2, (x1 + 1))
      else
        (m_pair_has (⟨x2.plus, x2.all, x2.int, x2.bool, x2.str, x2.arrow, x2.rec_, x2.tag, x2.vars, x2.dom, x2.cod, x2.fields, x2.tags⟩ : AutoState) v1).bind fun x3 =>
        (m_pair_has (⟨x2.plus, x2.all, x2.int, x2.bool, x2.str, x2.arrow, x2.rec_, x2.tag, x2.vars, x2.dom, x2.cod, x2.fields, x2.tags⟩ : AutoState) w1).bind fun x4 =>
        bif (!(x3 == x4)) then
          some (Out.ret false)
        else
          grd (InR (x1 + 1)) <|
          m_pair_together_l1 a1 v1 w1 plus1 n ((some2 || x3), (x1 + 1))
    else
      some (Out.go (some2))
def m_pair_together (a1 : AutoAuto) (v1 : Int) (w1 : Int) (plus1 : Bool) : Option Bool :=
  ((m_pair_together_l1 a1 v1 w1 plus1 FU (false, 0) : Option (Out Bool Bool))).bind (fun oo => oo.on (fun r1 => some r1) (fun some1 =>
  some (some1 && (!decide (v1 = w1)))))
theorem w_pair_together {a1 : AutoAuto} {v1 : Int} {w1 : Int} {plus1 : Bool} {r_1 : Bool} (hm : m_pair_together a1 v1 w1 plus1 = some r_1) : Fn0 Tryz.prog 31 [AutoAuto.d a1, .i64 v1, .i64 w1, .bool plus1] (.bool r_1) := by
  unfold m_pair_together at hm
  refine fn_intro Tryz.func31 rfl Tryz.ntmps31 rfl fun H0 fr w0 => ?_
  refine g_seq ?_
  refine g_region ?_
  refine go_p rfl rfl rfl (o_box rfl rfl) ?_
  refine go_p rfl rfl rfl (o_assign rfl) ?_
  refine go_nil ?_
  refine g_seq ?_
  refine g_region ?_
  refine go_p rfl rfl rfl (o_assign rfl) ?_
  refine go_nil ?_
  refine g_seq ?_
  refine g_seq ?_
  refine g_region ?_
  refine go_p rfl rfl rfl (o_fieldAddr fi_27_0 rfl rfl rfl) ?_
  refine go_p rfl rfl rfl (o_load Tryz.isAgg25 rfl rfl) ?_
  refine go_p rfl rfl rfl (o_len Tryz.runUnderlying25 rfl) ?_
  refine go_p rfl rfl rfl (o_move rfl) ?_
  refine go_nil ?_
  obtain ⟨o_1, hj1, hm1⟩ := bind_some hm
  refine g_cut_m [(1, _), (2, _)] [] (fun (st : Bool) (hid : Unit) => match st, hid with | some1, _ => [(9, .bool some1)]) (fun F (st : Bool) (hid : Unit) => match st, hid with | some1, _ => []) (fun st => Out.go (st) = o_1) ⟨rfl, rfl, trivial⟩ trivial ?_ ?_
  · skip
    refine g_block ?_
    refine g_loop_m [(1, _), (2, _), (3, _), (15, _), (16, _)] [] (fun (st : (Bool × Int)) (hid : Unit) => match st, hid with | (some2, x1), _ => [(9, .bool some2), (17, .i64 x1)]) (fun F (st : (Bool × Int)) (hid : Unit) => match st, hid with | (some2, x1), _ => []) () hj1 (fun _ => rfl) ⟨rfl, rfl, rfl, rfl, rfl, trivial⟩ trivial ⟨rfl, rfl, trivial⟩ rfl ?_
    rintro n ⟨some2, x1⟩ _ hj1
    rw [m_pair_together_l1] at hj1
    refine g_norm (L' := [(9, .bool some2), (17, .i64 x1), (1, _), (2, _), (3, _), (15, _), (16, _)]) (ms' := []) rfl rfl ?_
    refine g_seq ?_
    refine g_region ?_
    refine go_p rfl rfl rfl (o_cmp rfl rfl rfl) ?_
    refine go_nil ?_
    refine g_seq ?_
    refine g_cond rfl (fun hc1 => ?_) (fun hc1 => ?_)
    · replace hj1 := cond_t hc1 hj1
      refine g_skip ?_
      refine g_seq ?_
      refine g_block ?_
      refine g_seq ?_
      refine g_region ?_
      obtain ⟨x2, hx1, hj1⟩ := bind_some hj1
      refine go_p rfl rfl rfl (o_indexAddr_m Tryz.runUnderlying25 Tryz.sizeOf60 rfl rfl hx1) ?_
      refine go_p rfl rfl rfl (o_load_agg Tryz.isAgg60 Tryz.sizeOf60 rfl rfl) ?_
      refine go_op rfl rfl rfl (o_alloc_own Tryz.zeroValue60 (cs := [.bool false, .bool false, .bool false, .bool false, .bool false, .bool false, .bool false, .bool false, .list 1 D.i64 [], .i64 0, .i64 0, .list 2 AutoEdge.d [], .list 2 AutoEdge.d []]) rfl) ?_
      rintro _ _ ⟨b1, rfl, rfl⟩
      refine go_u rfl rfl (o_store_box 0 Tryz.sizeOf60 rfl rfl rfl rfl rfl rfl rfl rfl (Nat.le_of_ble_eq_true rfl)) ?_
      rintro _ _ rfl
      refine go_ms (ms' := [box b1 60 [_, _, _, _, _, _, _, _, _, _, _, _, _]]) rfl ?_
      refine go_nil ?_
      refine g_seq ?_
      refine g_seq ?_
      refine g_region ?_
      refine go_p rfl rfl rfl (o_fieldAddr_box fi_60_0 rfl) ?_
      refine go_p rfl rfl rfl (o_load_box 0 Tryz.isAgg4 rfl rfl rfl rfl) ?_
      refine go_p rfl rfl rfl (o_move rfl) ?_
      refine go_p rfl rfl rfl (o_neqb Tryz.runUnderlying4 rfl rfl) ?_
      refine go_nil ?_
      refine g_cond rfl (fun hc2 => ?_) (fun hc2 => ?_)
      · replace hj1 := cond_t hc2 hj1
        refine g_exit ?_
        refine g_region ?_
        obtain ⟨hg2, hj1⟩ := grd_some hj1
        refine go_p rfl rfl rfl (o_add rfl rfl (i64_id hg2)) ?_
        refine go_p rfl rfl rfl (o_move rfl) ?_
        refine go_nil ?_
        exact ⟨_, (), hj1, ⟨rfl, rfl, trivial⟩, ⟨rfl, rfl, rfl, rfl, rfl, trivial⟩, [_], rfl⟩
      · replace hj1 := cond_f hc2 hj1
        refine g_skip ?_
        refine g_seq ?_
        obtain ⟨x3, hx3, hj1⟩ := bind_some hj1
        obtain ⟨x4, hx4, hj1⟩ := bind_some hj1
        refine g_draw 8 Tryz_mixed (by decide +kernel) ?_
        refine gd_p rfl rfl rfl (o_load_box_agg 0 Tryz.isAgg60 Tryz.sizeOf60 rfl rfl rfl rfl (Nat.le_of_ble_eq_true rfl)) ?_
        refine gd_p rfl rfl rfl (o_move rfl) ?_
        refine gd_p rfl rfl rfl (o_call0 Tryz.call64 rfl (w_pair_has hx3)) ?_
        refine gd_p rfl rfl rfl (o_load_box_agg 0 Tryz.isAgg60 Tryz.sizeOf60 rfl rfl rfl rfl (Nat.le_of_ble_eq_true rfl)) ?_
        refine gd_p rfl rfl rfl (o_move rfl) ?_
        refine gd_p rfl rfl rfl (o_call0 Tryz.call64 rfl (w_pair_has hx4)) ?_
        refine gd_p rfl rfl rfl (o_assign rfl) ?_
        refine gd_p rfl rfl rfl (o_assign rfl) ?_
        refine gd_nil ?_
        refine go_nil ?_
        refine g_seq ?_
        refine g_seq ?_
        refine g_region ?_
        refine go_p rfl rfl rfl (o_move rfl) ?_
        refine go_p rfl rfl rfl (o_move rfl) ?_
        refine go_p rfl rfl rfl (o_neqb Tryz.runUnderlying4 rfl rfl) ?_
        refine go_nil ?_
        refine g_cond rfl (fun hc3 => ?_) (fun hc3 => ?_)
        · replace hj1 := cond_t hc3 hj1
          refine g_seq ?_
          refine g_region ?_
          refine go_p rfl rfl rfl (o_assign rfl) ?_
          refine go_nil ?_
          refine g_ret ?_
          obtain rfl := some_eq hj1
          replace hm1 := on_ret hm1
          exact retK (ret_one' rfl (ret_tmp rfl) (perm_drop _)) (congrArg (fun (p : Bool) => (.bool p : D)) (some_eq hm1))
        · replace hj1 := cond_f hc3 hj1
          refine g_skip ?_
          refine g_region ?_
          refine go_p rfl rfl rfl (o_move rfl) ?_
          refine go_p rfl rfl rfl (o_move rfl) ?_
          apply go_or [(1, _), (2, _), (3, _), (15, _), (16, _), (17, _)] 2 37 (t := 35) ⟨rfl, rfl, rfl, rfl, rfl, rfl, trivial⟩ rfl
          · intro hg_1 hk1
            refine go_wantp rfl rfl rfl hg_1 rfl rfl (o_move rfl) ?_
            refine go_p rfl rfl rfl (o_pickF rfl hg_1 rfl) ?_
            exact go_meet hk1 (rfl) ⟨rfl, rfl, rfl, rfl, rfl, rfl, trivial⟩
          · intro hg_1 hk1
            refine go_skip rfl rfl rfl hg_1 rfl rfl ?_
            refine go_p rfl rfl rfl (o_pickT rfl hg_1 rfl) ?_
            exact go_meet hk1 (rfl) ⟨rfl, rfl, rfl, rfl, rfl, rfl, trivial⟩
          refine go_p rfl rfl rfl (o_assign rfl) ?_
          refine go_nil ?_
          refine g_region ?_
          obtain ⟨hg5, hj1⟩ := grd_some hj1
          refine go_p rfl rfl rfl (o_add rfl rfl (i64_id hg5)) ?_
          refine go_p rfl rfl rfl (o_move rfl) ?_
          refine go_nil ?_
          exact ⟨_, (), hj1, ⟨rfl, rfl, trivial⟩, ⟨rfl, rfl, rfl, rfl, rfl, trivial⟩, [_], rfl⟩
    · replace hj1 := cond_f hc1 hj1
      refine g_exit ?_
      exact ⟨_, (), some_eq hj1, ⟨rfl, trivial⟩, ⟨rfl, rfl, trivial⟩, [], rfl⟩
  · rintro some1 _ hst
    subst hst
    replace hm1 := on_go hm1
    refine k_norm (L' := [(9, .bool some1), (1, _), (2, _)]) (ms' := []) rfl rfl ?_
    refine g_seq ?_
    refine g_region ?_
    refine go_p rfl rfl rfl (o_move rfl) ?_
    refine go_p rfl rfl rfl (o_move rfl) ?_
    apply go_and [] 4 44 (t := 40) trivial rfl
    · intro hg_2 hk2
      refine go_wantp rfl rfl rfl hg_2 rfl rfl (o_move rfl) ?_
      refine go_wantp rfl rfl rfl hg_2 rfl rfl (o_move rfl) ?_
      refine go_wantp rfl rfl rfl hg_2 rfl rfl (o_cmp rfl rfl rfl) ?_
      refine go_p rfl rfl rfl (o_pickT rfl hg_2 rfl) ?_
      exact go_meet hk2 (rfl) trivial
    · intro hg_2 hk2
      refine go_skip rfl rfl rfl hg_2 rfl rfl ?_
      refine go_skip rfl rfl rfl hg_2 rfl rfl ?_
      refine go_skip rfl rfl rfl hg_2 rfl rfl ?_
      refine go_p rfl rfl rfl (o_pickF rfl hg_2 rfl) ?_
      exact go_meet hk2 (rfl) trivial
    refine go_p rfl rfl rfl (o_assign rfl) ?_
    refine go_nil ?_
    refine g_ret ?_
    exact retK (ret_one' rfl (ret_tmp rfl) (perm_drop _)) (congrArg (fun (p : Bool) => (.bool p : D)) (some_eq hm1))
def m_pair_Merge_1 (v1 : Int) (w1 : Int) (c1 : AutoAuto) : Option Bool :=
  (m_pair_together c1 v1 w1 true).bind fun x1 =>
  (bif x1 then (some true) else ((m_pair_together c1 v1 w1 false).bind fun x2 =>
  some x2)).bind fun p1 =>
  some p1
theorem w_pair_Merge_1 {v1 : Int} {w1 : Int} {c1 : AutoAuto} {r_1 : Bool} (hm : m_pair_Merge_1 v1 w1 c1 = some r_1) : Fn0 Tryz.prog 30 [.i64 v1, .i64 w1, .ref (AutoAuto.d c1)] (.bool r_1) := by
  unfold m_pair_Merge_1 at hm
  refine fn_intro Tryz.func30 rfl Tryz.ntmps30 rfl fun H0 fr w0 => ?_
  refine g_seq ?_
  refine g_region ?_
  refine go_p rfl rfl rfl (o_assign rfl) ?_
  refine go_nil ?_
  refine g_seq ?_
  refine g_region ?_
  refine go_p rfl rfl rfl (o_load_agg Tryz.isAgg27 Tryz.sizeOf27 rfl rfl) ?_
  refine go_p rfl rfl rfl (o_move rfl) ?_
  refine go_p rfl rfl rfl (o_move rfl) ?_
  obtain ⟨x1, hx1, hm⟩ := bind_some hm
  refine go_p rfl rfl rfl (o_call0 Tryz.call31 rfl (w_pair_together hx1)) ?_
  refine go_p rfl rfl rfl (o_move rfl) ?_
  obtain ⟨p1, hp_1, hm⟩ := bind_some hm
  refine go_two [] 5 15 p1 (t := 10) trivial rfl (fun hg_1 hk1 => ?_) (fun hg_1 hk1 => ?_) ?_
  · replace hp_1 := cond_t hg_1 hp_1
    refine go_skip rfl rfl rfl hg_1 rfl rfl ?_
    refine go_skip rfl rfl rfl hg_1 rfl rfl ?_
    refine go_skip rfl rfl rfl hg_1 rfl rfl ?_
    refine go_skip rfl rfl rfl hg_1 rfl rfl ?_
    refine go_p rfl rfl rfl (o_pickT rfl hg_1 rfl) ?_
    exact go_meet hk1 (congrArg (fun b => some (D.bool b)) (some_eq hp_1)) trivial
  · replace hp_1 := cond_f hg_1 hp_1
    refine go_wantp rfl rfl rfl hg_1 rfl rfl (o_load_agg Tryz.isAgg27 Tryz.sizeOf27 rfl rfl) ?_
    refine go_wantp rfl rfl rfl hg_1 rfl rfl (o_move rfl) ?_
    refine go_wantp rfl rfl rfl hg_1 rfl rfl (o_move rfl) ?_
    obtain ⟨x2, hx2, hp_1⟩ := bind_some hp_1
    refine go_wantp rfl rfl rfl hg_1 rfl rfl (o_call0 Tryz.call31 rfl (w_pair_together hx2)) ?_
    refine go_p rfl rfl rfl (o_pickF rfl hg_1 rfl) ?_
    exact go_meet hk1 (congrArg (fun b => some (D.bool b)) (some_eq hp_1)) trivial
  refine go_p rfl rfl rfl (o_assign rfl) ?_
  refine go_nil ?_
  refine g_ret ?_
  exact retK (ret_one' rfl (ret_tmp rfl) (perm_drop _)) (congrArg (fun (p : Bool) => (.bool p : D)) (some_eq hm))
def m_slices_Index_int_int_l1 (s1 : (List Int)) (v1 : Int) : Nat → Int → Option (Out Int Unit)
  | 0, _ => none
  | n + 1, x1 =>
    bif (decide (x1 < (s1.length : Int))) then
      (idx s1 x1).bind fun x2 =>
      bif (decide (v1 = x2)) then
        some (Out.ret x1)
      else
        grd (InR (x1 + 1)) <|
        m_slices_Index_int_int_l1 s1 v1 n (x1 + 1)
    else
      some (Out.go (()))
def m_slices_Index_int_int (s1 : (List Int)) (v1 : Int) : Option Int :=
  ((m_slices_Index_int_int_l1 s1 v1 FU 0 : Option (Out Int Unit))).bind (fun oo => oo.on (fun r1 => some r1) (fun _ =>
  some (-1)))
theorem w_slices_Index_int_int {s1 : (List Int)} {v1 : Int} {r_1 : Int} (hm : m_slices_Index_int_int s1 v1 = some r_1) : Fn0 Tryz.prog 65 [.list 1 D.i64 s1, .i64 v1] (.i64 r_1) := by
  unfold m_slices_Index_int_int at hm
  refine fn_intro Tryz.func65 rfl Tryz.ntmps65 rfl fun H0 fr w0 => ?_
  refine g_seq ?_
  refine g_region ?_
  refine go_p rfl rfl rfl (o_assign rfl) ?_
  refine go_nil ?_
  refine g_seq ?_
  refine g_seq ?_
  refine g_region ?_
  refine go_p rfl rfl rfl (o_move rfl) ?_
  refine go_p rfl rfl rfl (o_len Tryz.runUnderlying49 rfl) ?_
  refine go_p rfl rfl rfl (o_move rfl) ?_
  refine go_nil ?_
  obtain ⟨o_1, hj1, hm1⟩ := bind_some hm
  refine g_cut_m [] [] (fun (st : Unit) (hid : Unit) => match st, hid with | _, _ => []) (fun F (st : Unit) (hid : Unit) => match st, hid with | _, _ => []) (fun st => Out.go (st) = o_1) trivial trivial ?_ ?_
  · skip
    refine g_block ?_
    refine g_loop_m [(0, _), (1, _), (7, _)] [] (fun (st : Int) (hid : Unit) => match st, hid with | x1, _ => [(8, .i64 x1)]) (fun F (st : Int) (hid : Unit) => match st, hid with | x1, _ => []) () hj1 (fun _ => rfl) ⟨rfl, rfl, rfl, trivial⟩ trivial ⟨rfl, trivial⟩ rfl ?_
    rintro n x1 _ hj1
    rw [m_slices_Index_int_int_l1] at hj1
    refine g_norm (L' := [(8, .i64 x1), (0, _), (1, _), (7, _)]) (ms' := []) rfl rfl ?_
    refine g_seq ?_
    refine g_region ?_
    refine go_p rfl rfl rfl (o_cmp rfl rfl rfl) ?_
    refine go_nil ?_
    refine g_seq ?_
    refine g_cond rfl (fun hc1 => ?_) (fun hc1 => ?_)
    · replace hj1 := cond_t hc1 hj1
      refine g_skip ?_
      refine g_seq ?_
      refine g_block ?_
      refine g_seq ?_
      refine g_region ?_
      refine go_p rfl rfl rfl (o_move rfl) ?_
      refine go_p rfl rfl rfl (o_assign rfl) ?_
      refine go_nil ?_
      refine g_seq ?_
      refine g_region ?_
      refine go_p rfl rfl rfl (o_move rfl) ?_
      refine go_p rfl rfl rfl (o_move rfl) ?_
      refine go_p rfl rfl rfl (o_move rfl) ?_
      obtain ⟨x2, hx1, hj1⟩ := bind_some hj1
      refine go_p rfl rfl rfl (o_indexAddr_m Tryz.runUnderlying49 Tryz.sizeOf3 rfl rfl hx1) ?_
      refine go_p rfl rfl rfl (o_load Tryz.isAgg3 rfl rfl) ?_
      refine go_p rfl rfl rfl (o_cmp rfl rfl rfl) ?_
      refine go_nil ?_
      refine g_cond rfl (fun hc2 => ?_) (fun hc2 => ?_)
      · replace hj1 := cond_t hc2 hj1
        refine g_seq ?_
        refine g_region ?_
        refine go_p rfl rfl rfl (o_move rfl) ?_
        refine go_p rfl rfl rfl (o_assign rfl) ?_
        refine go_nil ?_
        refine g_ret ?_
        obtain rfl := some_eq hj1
        replace hm1 := on_ret hm1
        exact retK (ret_one' rfl (ret_tmp rfl) (perm_drop _)) (congrArg (fun (p : Int) => (.i64 p : D)) (some_eq hm1))
      · replace hj1 := cond_f hc2 hj1
        refine g_skip ?_
        refine g_region ?_
        obtain ⟨hg2, hj1⟩ := grd_some hj1
        refine go_p rfl rfl rfl (o_add rfl rfl (i64_id hg2)) ?_
        refine go_p rfl rfl rfl (o_move rfl) ?_
        refine go_nil ?_
        exact ⟨_, (), hj1, ⟨rfl, trivial⟩, ⟨rfl, rfl, rfl, trivial⟩, [], rfl⟩
    · replace hj1 := cond_f hc1 hj1
      refine g_exit ?_
      exact ⟨_, (), some_eq hj1, trivial, trivial, [], rfl⟩
  · rintro _ _ hst
    subst hst
    replace hm1 := on_go hm1
    refine k_norm (L' := []) (ms' := []) rfl rfl ?_
    refine g_seq ?_
    refine g_region ?_
    refine go_p rfl rfl rfl (o_assign rfl) ?_
    refine go_nil ?_
    refine g_ret ?_
    exact retK (ret_one' rfl (ret_tmp rfl) (perm_drop _)) (congrArg (fun (p : Int) => (.i64 p : D)) (some_eq hm1))
def m_pair_replace_l1 (a1 : AutoAuto) (w1 : Int) (v1 : Int) : Nat → (Int × (List AutoState)) → Option AutoAuto
  | 0, _ => none
  | n + 1, (x1, l1) =>
    bif (decide (x1 < (a1.l.length : Int))) then
      (idx l1 x1).bind fun x2 =>
      (m_pair_has x2 w1).bind fun x3 =>
      bif (!x3) then
        grd (InR (x1 + 1)) <|
        m_pair_replace_l1 a1 w1 v1 n ((x1 + 1), l1)
      else
        grd (x2.vars.length * 8 ≤ 140737488355328) <|
        (m_slices_Index_int_int x2.vars w1).bind fun x4 =>
        (idx x2.vars x4).bind fun x5 =>
        grd ((x2.vars.set (x4).toNat v1).length < 4611686018427387904) <|
        grd (InR (x1 + 1)) <|
        m_pair_replace_l1 a1 w1 v1 n ((x1 + 1), (l1.set (x1).toNat (⟨x2.plus, x2.all, x2.int, x2.bool, x2.str, x2.arrow, x2.rec_, x2.tag, (Lib.compact (List.mergeSort (x2.vars.set (x4).toNat v1) fun x y => decide (x ≤ y))), x2.dom, x2.cod, x2.fields, x2.tags⟩ : AutoState)))
    else
      some (⟨l1, a1.start⟩ : AutoAuto)
def m_pair_replace (a1 : AutoAuto) (w1 : Int) (v1 : Int)  : Option AutoAuto :=
  m_pair_replace_l1 a1 w1 v1 FU (0, a1.l)
theorem w_pair_replace {a1 : AutoAuto} {w1 : Int} {v1 : Int}  {s_1 : AutoAuto} {a_q0c0 : Option Addr} {m_q0c0 : Nat} {cap_q0c0 : Nat} (hm : m_pair_replace a1 w1 v1 = some s_1) : Go.V.Fn Tryz.prog 32 [.agg [.v (.slice a_q0c0 m_q0c0 cap_q0c0), .i64 a1.start], .i64 w1, .i64 v1] [arr a_q0c0 m_q0c0 cap_q0c0 60 13 AutoState.d a1.l] (fun d ms' => d = .tup [] ∧ ms' = [arr a_q0c0 m_q0c0 cap_q0c0 60 13 AutoState.d s_1.l]) := by
  unfold m_pair_replace at hm
  refine fn_intro Tryz.func32 rfl Tryz.ntmps32 rfl fun H0 fr w0 => ?_
  refine g_seq ?_
  refine g_region ?_
  refine go_p rfl rfl rfl (o_box rfl rfl) ?_
  refine go_nil ?_
  refine g_seq ?_
  refine g_region ?_
  refine go_p rfl rfl rfl (o_fieldAddr fi_27_0 rfl rfl rfl) ?_
  refine go_p rfl rfl rfl (o_load Tryz.isAgg25 rfl rfl) ?_
  refine go_p rfl rfl rfl (o_len_arr 0 Tryz.runUnderlying25 rfl rfl) ?_
  refine go_p rfl rfl rfl (o_move rfl) ?_
  refine go_nil ?_
  refine g_block ?_
  refine g_loop_m [(1, _), (2, _), (3, _), (11, _)] [] (fun (st : (Int × (List AutoState))) (hid : Unit) => match st, hid with | (x1, l1), _ => [(12, .i64 x1)]) (fun F (st : (Int × (List AutoState))) (hid : Unit) => match st, hid with | (x1, l1), _ => [arr a_q0c0 m_q0c0 cap_q0c0 60 13 AutoState.d l1]) () hm (fun _ => rfl) ⟨rfl, rfl, rfl, rfl, trivial⟩ trivial ⟨rfl, trivial⟩ rfl ?_
  rintro n ⟨x1, l1⟩ ⟨⟩ hm
  rw [m_pair_replace_l1] at hm
  refine g_norm (L' := [(12, .i64 x1), (1, _), (2, _), (3, _), (11, _)]) (ms' := [arr a_q0c0 m_q0c0 cap_q0c0 60 13 AutoState.d l1]) rfl rfl ?_
  refine g_seq ?_
  refine g_region ?_
  refine go_p rfl rfl rfl (o_cmp rfl rfl rfl) ?_
  refine go_nil ?_
  refine g_seq ?_
  refine g_cond rfl (fun hc1 => ?_) (fun hc1 => ?_)
  · replace hm := cond_t hc1 hm
    refine g_skip ?_
    refine g_seq ?_
    refine g_block ?_
    refine g_seq ?_
    refine g_region ?_
    refine go_p rfl rfl rfl (o_move rfl) ?_
    refine go_p rfl rfl rfl (o_assign rfl) ?_
    refine go_nil ?_
    refine g_seq ?_
    refine g_region ?_
    refine go_p rfl rfl rfl (o_fieldAddr fi_27_0 rfl rfl rfl) ?_
    refine go_p rfl rfl rfl (o_load Tryz.isAgg25 rfl rfl) ?_
    refine go_p rfl rfl rfl (o_move rfl) ?_
    obtain ⟨x2, hx1, hm⟩ := bind_some hm
    refine go_p rfl rfl rfl (o_indexAddr_arr 0 Tryz.runUnderlying25 Tryz.sizeOf60 rfl rfl rfl hx1) ?_
    refine go_p rfl rfl rfl (o_assign rfl) ?_
    refine go_nil ?_
    refine g_seq ?_
    refine g_seq ?_
    refine g_region ?_
    refine go_p rfl rfl rfl (o_move rfl) ?_
    refine go_p rfl rfl rfl (o_nilCheck_apt 0 rfl rfl (idx_some hx1).2) ?_
    refine go_p rfl rfl rfl (o_load_arr_agg 0 Tryz.isAgg60 Tryz.sizeOf60 rfl rfl (idx_some hx1).2 rfl rfl) ?_
    refine go_p rfl rfl rfl (o_move rfl) ?_
    obtain ⟨x3, hx2, hm⟩ := bind_some hm
    refine go_p rfl rfl rfl (o_call0 Tryz.call64 rfl (w_pair_has hx2)) ?_
    refine go_p rfl rfl rfl (o_not rfl) ?_
    refine go_nil ?_
    refine g_cond rfl (fun hc2 => ?_) (fun hc2 => ?_)
    · replace hm := cond_t hc2 hm
      refine g_exit ?_
      refine g_region ?_
      obtain ⟨hg3, hm⟩ := grd_some hm
      refine go_p rfl rfl rfl (o_add rfl rfl (i64_id hg3)) ?_
      refine go_p rfl rfl rfl (o_move rfl) ?_
      refine go_nil ?_
      exact ⟨_, (), hm, ⟨rfl, trivial⟩, ⟨rfl, rfl, rfl, rfl, trivial⟩, [], rfl⟩
    · replace hm := cond_f hc2 hm
      refine g_skip ?_
      refine g_seq ?_
      refine g_region ?_
      refine go_p rfl rfl rfl (o_move rfl) ?_
      refine go_p rfl rfl rfl (o_nilCheck_apt 0 rfl rfl (idx_some hx1).2) ?_
      refine go_p rfl rfl rfl (o_fieldAddr_apt (b := 0) 0 fi_60_8 rfl rfl (idx_some hx1).2) ?_
      refine go_p rfl rfl rfl (o_load_arr (off := 8) 0 Tryz.isAgg49 rfl rfl (idx_some hx1).2 rfl rfl rfl) ?_
      obtain ⟨hg4, hm⟩ := grd_some hm
      refine go_op rfl rfl rfl (o_call (ms₁ := []) Tryz.call47 rfl (List.Perm.refl _) (w_Clone_47 hg4)) ?_
      rintro _ _ ⟨_, ⟨a_r1, cap_r1, rfl, rfl⟩, rfl⟩
      generalize hm_r1 : x2.vars.length = m_r1
      clear hm_r1
      refine go_p rfl rfl rfl (o_assign rfl) ?_
      refine go_nil ?_
      refine g_seq ?_
      refine g_region ?_
      refine go_p rfl rfl rfl (o_move rfl) ?_
      refine go_p rfl rfl rfl (o_move rfl) ?_
      refine go_p rfl rfl rfl (o_move rfl) ?_
      obtain ⟨x4, hx5, hm⟩ := bind_some hm
      refine go_p rfl rfl rfl (o_lend Tryz.call65 rfl (w_slices_Index_int_int hx5) (sees_c (sees_arr 0 rfl) (sees_c sees_rfl sees_nil)) still_v) ?_
      refine go_p rfl rfl rfl (o_move rfl) ?_
      obtain ⟨x5, hx6, hm⟩ := bind_some hm
      refine go_p rfl rfl rfl (o_indexAddr_arr 0 Tryz.runUnderlying49 Tryz.sizeOf3 rfl rfl rfl hx6) ?_
      refine go_u rfl rfl (o_store_arr (off := 0) (z' := v1) 0 Tryz.sizeOf3 rfl rfl (idx_some hx6).2 rfl rfl rfl rfl rfl rfl (Nat.le_of_ble_eq_true rfl) rfl rfl) ?_
      rintro _ _ rfl
      refine go_ms (ms' := [_, _]) rfl ?_
      refine go_nil ?_
      refine g_seq ?_
      refine g_region ?_
      refine go_p rfl rfl rfl (o_move rfl) ?_
      obtain ⟨hg7, hm⟩ := grd_some hm
      refine go_op rfl rfl rfl (o_call_own [0] Tryz.call66 rfl rfl (getL_c rfl getL_n) (fn_sort_int sh_slices_Sort_int sh_slices_Sort_int_none hg7) (by rintro _ _ ⟨_, rfl⟩; rfl)) ?_
      rintro _ _ ⟨_, ⟨rfl, rfl⟩, rfl⟩
      refine go_ms (ms' := [_, _]) rfl ?_
      refine go_nil ?_
      refine g_region ?_
      refine go_p rfl rfl rfl (o_move rfl) ?_
      refine go_p rfl rfl rfl (o_move rfl) ?_
      refine go_op rfl rfl rfl (o_call_own [0] Tryz.call67 rfl rfl (getL_c rfl getL_n) (fn_compact_int sh_slices_Compact_int sh_slices_Compact_int_empty) (by rintro _ _ ⟨_, _, rfl⟩; rfl)) ?_
      rintro _ _ ⟨_, ⟨m_r1, rfl, rfl⟩, rfl⟩
      refine go_ms (ms' := [_, _]) rfl ?_
      refine go_p rfl rfl rfl (o_nilCheck_apt 1 rfl rfl (idx_some hx1).2) ?_
      refine go_p rfl rfl rfl (o_fieldAddr_apt (b := 0) 1 fi_60_8 rfl rfl (idx_some hx1).2) ?_
      refine go_u rfl rfl (OpT.thaw 0 rfl rfl (fun hl => .view (peekE (i := 40) 0 rfl rfl hl) (o_store_arr (off := 8) (z' := (⟨x2.plus, x2.all, x2.int, x2.bool, x2.str, x2.arrow, x2.rec_, x2.tag, (Lib.compact (List.mergeSort (x2.vars.set (x4).toNat v1) fun x y => decide (x ≤ y))), x2.dom, x2.cod, x2.fields, x2.tags⟩ : AutoState)) 1 Tryz.sizeOf49 rfl rfl (idx_some hx1).2 rfl rfl rfl rfl rfl rfl (Nat.le_of_ble_eq_true rfl) rfl rfl))) ?_
      rintro _ _ rfl
      refine go_ms (ms' := [_, _]) rfl ?_
      refine go_nil ?_
      refine g_region ?_
      obtain ⟨hg8, hm⟩ := grd_some hm
      refine go_p rfl rfl rfl (o_add rfl rfl (i64_id hg8)) ?_
      refine go_p rfl rfl rfl (o_move rfl) ?_
      refine go_nil ?_
      exact ⟨_, (), hm, ⟨rfl, trivial⟩, ⟨rfl, rfl, rfl, rfl, trivial⟩, [_], rfl⟩
  · replace hm := cond_f hc1 hm
    refine g_exit ?_
    obtain rfl := some_eq hm
    exact retKn (ret_none rfl (permA 0 rfl permN)) ⟨rfl, rfl⟩
def m_pair_Merge_l1 (x1 : Int) : Nat → (Int × (List AutoState)) → Option (AutoAuto × Int)
  | 0, _ => none
  | n + 1, (z1, l1) =>
    (m_pair_doubles (⟨l1, z1⟩ : AutoAuto)).bind fun l2 =>
    (m_pair_first l2 (fun y0 y1 => m_pair_Merge_1 y0 y1 (⟨l1, z1⟩ : AutoAuto))).bind fun (x2, x3, x4) =>
    bif (!x4) then
      some ((⟨l1, z1⟩ : AutoAuto), x1)
    else
      (m_pair_replace (⟨l1, z1⟩ : AutoAuto) x3 x2).bind fun s2 =>
      m_pair_Merge_l1 x1 n (z1, s2.l)
def m_pair_Merge (a1 : AutoAuto) : Option (AutoAuto × Int) :=
  (m_auto_NormO a1).bind fun (x1, s1) =>
  bif (!decide (x1 = 0)) then
    some ((⟨([] : List AutoState), 0⟩ : AutoAuto), x1)
  else
    m_pair_Merge_l1 x1 FU (s1.start, s1.l)
theorem w_pair_Merge {a1 : AutoAuto} {r_1 : AutoAuto} {r_2 : Int} (hm : m_pair_Merge a1 = some (r_1, r_2)) : Fn0 Tryz.prog 7 [AutoAuto.d a1] (.tup [AutoAuto.d r_1, .i64 r_2]) := by
  unfold m_pair_Merge at hm
  refine fn_intro Tryz.func7 rfl Tryz.ntmps7 rfl fun H0 fr w0 => ?_
  refine g_seq ?_
  refine g_region ?_
  refine go_p rfl rfl rfl (o_box rfl rfl) ?_
  refine go_op rfl rfl rfl (o_alloc_own Tryz.zeroValue27 (cs := [.list 13 AutoState.d [], .i64 0]) rfl) ?_
  rintro _ _ ⟨b1, rfl, rfl⟩
  refine go_p rfl rfl rfl (o_assign rfl) ?_
  refine go_nil ?_
  refine g_seq ?_
  refine g_region ?_
  refine go_p rfl rfl rfl (o_load_agg Tryz.isAgg27 Tryz.sizeOf27 rfl rfl) ?_
  obtain ⟨⟨x1, s1⟩, hx1, hm⟩ := bind_some hm
  refine go_op rfl rfl rfl (o_call (ms₁ := []) Tryz.call27 rfl (List.Perm.refl _) (w_auto_NormO hx1)) ?_
  rintro _ _ ⟨_, ⟨a_r1, m_r1, cap_r1, rfl, rfl⟩, rfl⟩
  refine go_p rfl rfl rfl (o_move rfl) ?_
  refine go_p rfl rfl rfl (o_extract rfl rfl) ?_
  refine go_p rfl rfl rfl (o_extract rfl rfl) ?_
  refine go_op rfl rfl rfl (o_alloc_own Tryz.zeroValue27 (cs := [.list 13 AutoState.d [], .i64 0]) rfl) ?_
  rintro _ _ ⟨b2, rfl, rfl⟩
  refine go_u rfl rfl (o_store_box 0 Tryz.sizeOf27 rfl rfl rfl rfl rfl rfl rfl rfl (Nat.le_of_ble_eq_true rfl)) ?_
  rintro _ _ rfl
  refine go_ms (ms' := [box b2 27 [_, _], _, box b1 27 [_, _]]) rfl ?_
  refine go_p rfl rfl rfl (o_assign rfl) ?_
  refine go_nil ?_
  refine g_seq ?_
  refine g_seq ?_
  refine g_region ?_
  refine go_p rfl rfl rfl (o_move rfl) ?_
  refine go_p rfl rfl rfl (o_cmp rfl rfl rfl) ?_
  refine go_nil ?_
  refine g_cond rfl (fun hc1 => ?_) (fun hc1 => ?_)
  · replace hm := cond_t hc1 hm
    refine g_seq ?_
    refine g_region ?_
    refine go_p rfl rfl rfl (o_build (zs := [.list 13 AutoState.d [], .v (.int .i64 0)]) Tryz.runUnderlying27 Tryz.zeroValue27 (pl_27 _ Tryz.runUnderlying27) rfl rfl rfl rfl) ?_
    refine go_p rfl rfl rfl (o_move rfl) ?_
    refine go_u rfl rfl (o_store_box 2 Tryz.sizeOf27 rfl rfl rfl rfl rfl rfl rfl rfl (Nat.le_of_ble_eq_true rfl)) ?_
    rintro _ _ rfl
    refine go_ms (ms' := [box b2 27 [_, _], _, box b1 27 [_, _]]) rfl ?_
    refine go_p rfl rfl rfl (o_assign rfl) ?_
    refine go_nil ?_
    refine g_ret ?_
    exact retK (ret_many (ds := [_, _]) rfl (by decide) ⟨ret_cell 2 rfl rfl rfl Tryz.isAgg27 Tryz.sizeOf27 rfl, ⟨ret_tmp rfl, rfl⟩⟩ (perm_drop _)) (congrArg (fun (p : (AutoAuto × Int)) => D.tup [AutoAuto.d p.1, .i64 p.2]) (some_eq hm))
  · replace hm := cond_f hc1 hm
    refine g_skip ?_
    refine g_block ?_
    refine g_loop_m [(2, _), (4, _), (5, _)] [(2, _)] (fun (st : (Int × (List AutoState))) (hid : Unit) => match st, hid with | (z1, l1), _ => []) (fun F (st : (Int × (List AutoState))) (hid : Unit) => match st, hid with | (z1, l1), _ => [box b2 27 [.v (.slice a_r1 m_r1 cap_r1), .i64 z1], arr a_r1 m_r1 cap_r1 60 13 AutoState.d l1, (nthF F 0)]) () hm (fun _ => rfl) ⟨rfl, rfl, rfl, trivial⟩ ⟨rfl, trivial⟩ trivial rfl ?_
    rintro n ⟨z1, l1⟩ ⟨⟩ hm
    rw [m_pair_Merge_l1] at hm
    refine g_norm (L' := [(2, _), (4, _), (5, _)]) (ms' := [box b2 27 [.v (.slice a_r1 m_r1 cap_r1), .i64 z1], arr a_r1 m_r1 cap_r1 60 13 AutoState.d l1, _]) rfl rfl ?_
    refine g_block ?_
    refine g_seq ?_
    refine g_region ?_
    refine go_p rfl rfl rfl (o_load_box_agg 0 Tryz.isAgg27 Tryz.sizeOf27 rfl rfl rfl rfl (Nat.le_of_ble_eq_true rfl)) ?_
    obtain ⟨l2, hx2, hm⟩ := bind_some hm
    refine go_op rfl rfl rfl (o_lend_row Tryz.call29 rfl (w_pair_doubles hx2) (sees_c (sees_agg (sees_c (sees_arr 1 rfl) (sees_c sees_rfl sees_nil))) sees_nil) still_i64) ?_
    rintro _ _ ⟨a_r2, cap_r2, rfl, rfl⟩
    refine go_p rfl rfl rfl (o_makeFunc rfl rfl) ?_
    obtain ⟨⟨x2, x3, x4⟩, hx3, hm⟩ := bind_some hm
    refine go_p rfl rfl rfl (o_lend (ds' := [_, .clo (.func 30) [] [_]]) Tryz.call28 rfl (w_pair_first (fun _ _ _ h => fv_clo Tryz.call30 (w_pair_Merge_1 h)) hx3) (sees_c (sees_row 0 rfl rfl) (sees_c (sees_clo sees_nil (sees_c (sees_box 1 rfl (sees_c (sees_arr 2 rfl) (sees_c sees_rfl sees_nil))) sees_nil)) sees_nil)) (still_tup (still_c still_v (still_c still_v (still_c still_v still_nil))))) ?_
    refine go_p rfl rfl rfl (o_move rfl) ?_
    refine go_p rfl rfl rfl (o_extract rfl rfl) ?_
    refine go_p rfl rfl rfl (o_extract rfl rfl) ?_
    refine go_p rfl rfl rfl (o_extract rfl rfl) ?_
    refine go_p rfl rfl rfl (o_assign rfl) ?_
    refine go_p rfl rfl rfl (o_assign rfl) ?_
    refine go_p rfl rfl rfl (o_assign rfl) ?_
    refine go_nil ?_
    refine g_seq ?_
    refine g_seq ?_
    refine g_region ?_
    refine go_p rfl rfl rfl (o_move rfl) ?_
    refine go_p rfl rfl rfl (o_not rfl) ?_
    refine go_nil ?_
    refine g_cond rfl (fun hc2 => ?_) (fun hc2 => ?_)
    · replace hm := cond_t hc2 hm
      refine g_seq ?_
      refine g_region ?_
      refine go_thaw 2 rfl rfl ?_
      rintro rfl
      refine go_p rfl rfl rfl (o_load_box_agg 1 Tryz.isAgg27 Tryz.sizeOf27 rfl rfl rfl rfl (Nat.le_of_ble_eq_true rfl)) ?_
      refine go_conv (peekAggE (i := 28) (q := 0) 2 rfl rfl rfl rfl rfl).refines ?_
      refine go_p rfl rfl rfl (o_move rfl) ?_
      refine go_u rfl rfl (o_store_box 3 Tryz.sizeOf27 rfl rfl rfl rfl rfl rfl rfl rfl (Nat.le_of_ble_eq_true rfl)) ?_
      rintro _ _ rfl
      refine go_ms (ms' := [_, box b2 27 [_, _], _, box b1 27 [_, _]]) rfl ?_
      refine go_p rfl rfl rfl (o_assign rfl) ?_
      refine go_nil ?_
      refine g_ret ?_
      exact retK (ret_many (ds := [_, _]) rfl (by decide) ⟨ret_cell 3 rfl rfl rfl Tryz.isAgg27 Tryz.sizeOf27 rfl, ⟨ret_tmp rfl, rfl⟩⟩ (perm_drop _)) (congrArg (fun (p : (AutoAuto × Int)) => D.tup [AutoAuto.d p.1, .i64 p.2]) (some_eq hm))
    · replace hm := cond_f hc2 hm
      refine g_skip ?_
      refine g_region ?_
      refine go_p rfl rfl rfl (o_load_box_agg 1 Tryz.isAgg27 Tryz.sizeOf27 rfl rfl rfl rfl (Nat.le_of_ble_eq_true rfl)) ?_
      refine go_p rfl rfl rfl (o_move rfl) ?_
      refine go_p rfl rfl rfl (o_move rfl) ?_
      obtain ⟨s2, hx4, hm⟩ := bind_some hm
      refine go_op rfl rfl rfl (o_call_own [2] Tryz.call32 rfl rfl (getL_c rfl getL_n) (w_pair_replace hx4) (by rintro _ _ ⟨rfl, rfl⟩; rfl)) ?_
      rintro _ _ ⟨_, ⟨rfl, rfl⟩, rfl⟩
      refine go_ms (ms' := [_, box b2 27 [_, _], _, box b1 27 [_, _]]) rfl ?_
      refine go_nil ?_
      exact ⟨_, (), hm, trivial, ⟨rfl, rfl, rfl, trivial⟩, [_], rfl⟩
theorem pl_24 : ∀ fs, (∀ w, (underlying 24).run Tryz.prog w = .ok (.struct fs) w) → placesOf Tryz.prog fs [(0, 1), (1, 1)] := by
  intro fs h w
  have := (h w).symm.trans (Tryz.runUnderlying24 w)
  simp only [Result.ok.injEq, TypeDesc.struct.injEq, and_true] at this
  subst this
  simp [Tryz.sizeOf22, Tryz.sizeOf3, Sem.run]
theorem pl_52 : ∀ fs, (∀ w, (underlying 52).run Tryz.prog w = .ok (.struct fs) w) → placesOf Tryz.prog fs [(0, 1), (1, 1), (2, 1), (3, 1), (4, 1), (5, 1), (6, 1), (7, 1), (8, 1), (9, 1), (10, 1), (11, 1), (12, 1)] := by
  intro fs h w
  have := (h w).symm.trans (Tryz.runUnderlying52 w)
  simp only [Result.ok.injEq, TypeDesc.struct.injEq, and_true] at this
  subst this
  simp [Tryz.sizeOf3, Tryz.sizeOf4, Tryz.sizeOf49, Tryz.sizeOf50, Sem.run]
theorem pl_62 : ∀ fs, (∀ w, (underlying 62).run Tryz.prog w = .ok (.struct fs) w) → placesOf Tryz.prog fs [(0, 1), (1, 1)] := by
  intro fs h w
  have := (h w).symm.trans (Tryz.runUnderlying62 w)
  simp only [Result.ok.injEq, TypeDesc.struct.injEq, and_true] at this
  subst this
  simp [Tryz.sizeOf3, Tryz.sizeOf9, Sem.run]
def m_syntagmalaw24_Of_l2 (x1 : AutoState) : Nat → (Int × (List AutoEdge) × (List AutoEdge) × Bool × Bool × Bool × Bool × Bool × Bool × Bool × Bool × (List Int) × Int × Int) → Option ((List AutoEdge) × (List AutoEdge) × Bool × Bool × Bool × Bool × Bool × Bool × Bool × Bool × (List Int) × Int × Int)
  | 0, _ => none
  | n + 1, (k1, l5, l6, z14, z15, z16, z17, z18, z19, z20, z21, z22, z23, z24) =>
    bif (decide (k1 < (x1.fields.length : Int))) then
      (idx x1.fields k1).bind fun x3 =>
      (idx x1.fields k1).bind fun x4 =>
      grd ((l6.length + ([(⟨x3.name, x4.to_⟩ : AutoEdge)] : List _).length) * 24 ≤ 140737488355328) <|
      grd (InR (k1 + 1)) <|
      m_syntagmalaw24_Of_l2 x1 n ((k1 + 1), l5, (l6 ++ [(⟨x3.name, x4.to_⟩ : AutoEdge)]), z14, z15, z16, z17, z18, z19, z20, z21, z22, z23, z24)
    else
      some (l5, l6, z14, z15, z16, z17, z18, z19, z20, z21, z22, z23, z24)
def m_syntagmalaw24_Of_l3 (x1 : AutoState) : Nat → (Int × (List AutoEdge) × (List AutoEdge) × Bool × Bool × Bool × Bool × Bool × Bool × Bool × Bool × (List Int) × Int × Int) → Option ((List AutoEdge) × (List AutoEdge) × Bool × Bool × Bool × Bool × Bool × Bool × Bool × Bool × (List Int) × Int × Int)
  | 0, _ => none
  | n + 1, (k2, l9, l10, z36, z37, z38, z39, z40, z41, z42, z43, z44, z45, z46) =>
    bif (decide (k2 < (x1.tags.length : Int))) then
      (idx x1.tags k2).bind fun x5 =>
      (idx x1.tags k2).bind fun x6 =>
      grd ((l9.length + ([(⟨x5.name, x6.to_⟩ : AutoEdge)] : List _).length) * 24 ≤ 140737488355328) <|
      grd (InR (k2 + 1)) <|
      m_syntagmalaw24_Of_l3 x1 n ((k2 + 1), (l9 ++ [(⟨x5.name, x6.to_⟩ : AutoEdge)]), l10, z36, z37, z38, z39, z40, z41, z42, z43, z44, z45, z46)
    else
      some (l9, l10, z36, z37, z38, z39, z40, z41, z42, z43, z44, z45, z46)
def m_syntagmalaw24_Of_l1 (a1 : AutoAuto) : Nat → (Int × (List AutoState) × Int) → Option ((List AutoState) × Int)
  | 0, _ => none
  | n + 1, (i1, l2, z2) =>
    bif (decide (i1 < (a1.l.length : Int))) then
      (idx a1.l i1).bind fun x1 =>
      (m_syntagmabase_Ints x1.vars).bind fun x2 =>
      (m_syntagmalaw24_Of_l2 x1 FU (0, ([] : List AutoEdge), ([] : List AutoEdge), x1.plus, x1.all, x1.int, x1.bool, x1.str, x1.arrow, x1.rec_, x1.tag, x2, x1.dom, x1.cod) : Option ((List AutoEdge) × (List AutoEdge) × Bool × Bool × Bool × Bool × Bool × Bool × Bool × Bool × (List Int) × Int × Int)).bind fun (l3, l4, z3, z4, z5, z6, z7, z8, z9, z10, z11, z12, z13) =>
      (m_syntagmalaw24_Of_l3 x1 FU (0, l3, l4, z3, z4, z5, z6, z7, z8, z9, z10, z11, z12, z13) : Option ((List AutoEdge) × (List AutoEdge) × Bool × Bool × Bool × Bool × Bool × Bool × Bool × Bool × (List Int) × Int × Int)).bind fun (l7, l8, z25, z26, z27, z28, z29, z30, z31, z32, z33, z34, z35) =>
      grd ((l2.length + ([(⟨z25, z26, z27, z28, z29, z30, z31, z32, z33, z34, z35, l8, l7⟩ : AutoState)] : List _).length) * 96 ≤ 140737488355328) <|
      grd (InR (i1 + 1)) <|
      m_syntagmalaw24_Of_l1 a1 n ((i1 + 1), (l2 ++ [(⟨z25, z26, z27, z28, z29, z30, z31, z32, z33, z34, z35, l8, l7⟩ : AutoState)]), z2)
    else
      some (l2, z2)
def m_syntagmalaw24_Of (a1 : AutoAuto) : Option AutoAuto :=
  (m_syntagmalaw24_Of_l1 a1 FU (0, ([] : List AutoState), a1.start) : Option ((List AutoState) × Int)).bind fun (l1, z1) =>
  some (⟨l1, z1⟩ : AutoAuto)
theorem w_syntagmalaw24_Of {a1 : AutoAuto} {r_1 : AutoAuto} (hm : m_syntagmalaw24_Of a1 = some r_1) : Fn0 Tryz.prog 8 [AutoAuto.d a1] (AutoAuto.d r_1) := by
  unfold m_syntagmalaw24_Of at hm
  refine fn_intro Tryz.func8 rfl Tryz.ntmps8 rfl fun H0 fr w0 => ?_
  refine g_seq ?_
  refine g_region ?_
  refine go_p rfl rfl rfl (o_box rfl rfl) ?_
  refine go_op rfl rfl rfl (o_alloc_own Tryz.zeroValue24 (cs := [.list 13 AutoState.d [], .i64 0]) rfl) ?_
  rintro _ _ ⟨b1, rfl, rfl⟩
  refine go_nil ?_
  refine g_seq ?_
  refine g_region ?_
  refine go_p rfl rfl rfl (o_fieldAddr fi_27_1 rfl rfl rfl) ?_
  refine go_p rfl rfl rfl (o_load Tryz.isAgg3 rfl rfl) ?_
  refine go_p rfl rfl rfl (o_build (zs := [.v (.slice none 0 0), .v (.int .i64 0)]) Tryz.runUnderlying24 Tryz.zeroValue24 (pl_24 _ Tryz.runUnderlying24) rfl rfl rfl rfl) ?_
  refine go_op rfl rfl rfl (o_alloc_own Tryz.zeroValue24 (cs := [.list 13 AutoState.d [], .i64 0]) rfl) ?_
  rintro _ _ ⟨b2, rfl, rfl⟩
  refine go_u rfl rfl (o_store_box 0 Tryz.sizeOf24 rfl rfl rfl rfl rfl rfl rfl rfl (Nat.le_of_ble_eq_true rfl)) ?_
  rintro _ _ rfl
  refine go_conv (refines_newrow (T := 52) (sz := 13) (f := AutoState.d)) ?_
  refine go_ms (ms' := [_, box b2 24 [_, _], box b1 24 [_, _]]) rfl ?_
  refine go_nil ?_
  refine g_seq ?_
  refine g_seq ?_
  refine g_region ?_
  refine go_p rfl rfl rfl (o_assign rfl) ?_
  refine go_nil ?_
  obtain ⟨o_1, hj1, hm1⟩ := bind_some hm
  refine g_cut_m [(2, _), (3, _)] [(2, _)] (fun (st : ((List AutoState) × Int)) (hid : (Option Addr × Nat)) => match st, hid with | (l1, z1), (a_r1, cap_r1) => []) (fun F (st : ((List AutoState) × Int)) (hid : (Option Addr × Nat)) => match st, hid with | (l1, z1), (a_r1, cap_r1) => [row a_r1 cap_r1 52 13 AutoState.d l1, box b2 24 [.v (.slice a_r1 l1.length cap_r1), .i64 z1], (nthF F 0)]) (fun st => st = o_1) ⟨rfl, rfl, trivial⟩ ⟨rfl, trivial⟩ ?_ ?_
  · skip
    refine g_block ?_
    refine g_loop_m [(1, _), (2, _), (3, _)] [(2, _)] (fun (st : (Int × (List AutoState) × Int)) (hid : (Option Addr × Nat)) => match st, hid with | (i1, l2, z2), (a_r1, cap_r1) => [(4, .i64 i1)]) (fun F (st : (Int × (List AutoState) × Int)) (hid : (Option Addr × Nat)) => match st, hid with | (i1, l2, z2), (a_r1, cap_r1) => [row a_r1 cap_r1 52 13 AutoState.d l2, box b2 24 [.v (.slice a_r1 l2.length cap_r1), .i64 z2], (nthF F 0)]) (_, _) hj1 (fun _ => rfl) ⟨rfl, rfl, rfl, trivial⟩ ⟨rfl, trivial⟩ ⟨rfl, trivial⟩ rfl ?_
    rintro n ⟨i1, l2, z2⟩ ⟨a_r1, cap_r1⟩ hj1
    rw [m_syntagmalaw24_Of_l1] at hj1
    refine g_norm (L' := [(4, .i64 i1), (1, _), (2, _), (3, _)]) (ms' := [row a_r1 cap_r1 52 13 AutoState.d l2, box b2 24 [.v (.slice a_r1 l2.length cap_r1), .i64 z2], _]) rfl rfl ?_
    refine g_seq ?_
    refine g_seq ?_
    refine g_region ?_
    refine go_p rfl rfl rfl (o_move rfl) ?_
    refine go_p rfl rfl rfl (o_fieldAddr fi_27_0 rfl rfl rfl) ?_
    refine go_p rfl rfl rfl (o_load Tryz.isAgg25 rfl rfl) ?_
    refine go_p rfl rfl rfl (o_len Tryz.runUnderlying25 rfl) ?_
    refine go_p rfl rfl rfl (o_cmp rfl rfl rfl) ?_
    refine go_nil ?_
    refine g_cond rfl (fun hc1 => ?_) (fun hc1 => ?_)
    · replace hj1 := cond_t hc1 hj1
      refine g_skip ?_
      refine g_seq ?_
      refine g_block ?_
      refine g_seq ?_
      refine g_region ?_
      refine go_p rfl rfl rfl (o_fieldAddr fi_27_0 rfl rfl rfl) ?_
      refine go_p rfl rfl rfl (o_load Tryz.isAgg25 rfl rfl) ?_
      refine go_p rfl rfl rfl (o_move rfl) ?_
      obtain ⟨x1, hx1, hj1⟩ := bind_some hj1
      refine go_p rfl rfl rfl (o_indexAddr_m Tryz.runUnderlying25 Tryz.sizeOf60 rfl rfl hx1) ?_
      refine go_p rfl rfl rfl (o_load_agg Tryz.isAgg60 Tryz.sizeOf60 rfl rfl) ?_
      refine go_op rfl rfl rfl (o_alloc_own Tryz.zeroValue60 (cs := [.bool false, .bool false, .bool false, .bool false, .bool false, .bool false, .bool false, .bool false, .list 1 D.i64 [], .i64 0, .i64 0, .list 2 AutoEdge.d [], .list 2 AutoEdge.d []]) rfl) ?_
      rintro _ _ ⟨b3, rfl, rfl⟩
      refine go_u rfl rfl (o_store_box 0 Tryz.sizeOf60 rfl rfl rfl rfl rfl rfl rfl rfl (Nat.le_of_ble_eq_true rfl)) ?_
      rintro _ _ rfl
      refine go_ms (ms' := [box b3 60 [_, _, _, _, _, _, _, _, _, _, _, _, _], _, box b2 24 [_, _], box b1 24 [_, _]]) rfl ?_
      refine go_nil ?_
      refine g_seq ?_
      obtain ⟨x2, hx2, hj1⟩ := bind_some hj1
      refine g_draw_f 25 [24] Tryz_mixed (by decide +kernel) (by decide +kernel) rfl (by decide +kernel) ?_
      refine gdf_p rfl rfl rfl rfl (o_fieldAddr_box fi_60_0 rfl) ?_
      refine gdf_p rfl rfl rfl rfl (o_load_box 0 Tryz.isAgg4 rfl rfl rfl rfl) ?_
      refine gdf_p rfl rfl rfl rfl (o_fieldAddr_box fi_60_1 rfl) ?_
      refine gdf_p rfl rfl rfl rfl (o_load_box 0 Tryz.isAgg4 rfl rfl rfl rfl) ?_
      refine gdf_p rfl rfl rfl rfl (o_fieldAddr_box fi_60_2 rfl) ?_
      refine gdf_p rfl rfl rfl rfl (o_load_box 0 Tryz.isAgg4 rfl rfl rfl rfl) ?_
      refine gdf_p rfl rfl rfl rfl (o_fieldAddr_box fi_60_3 rfl) ?_
      refine gdf_p rfl rfl rfl rfl (o_load_box 0 Tryz.isAgg4 rfl rfl rfl rfl) ?_
      refine gdf_p rfl rfl rfl rfl (o_fieldAddr_box fi_60_4 rfl) ?_
      refine gdf_p rfl rfl rfl rfl (o_load_box 0 Tryz.isAgg4 rfl rfl rfl rfl) ?_
      refine gdf_p rfl rfl rfl rfl (o_fieldAddr_box fi_60_5 rfl) ?_
      refine gdf_p rfl rfl rfl rfl (o_load_box 0 Tryz.isAgg4 rfl rfl rfl rfl) ?_
      refine gdf_p rfl rfl rfl rfl (o_fieldAddr_box fi_60_6 rfl) ?_
      refine gdf_p rfl rfl rfl rfl (o_load_box 0 Tryz.isAgg4 rfl rfl rfl rfl) ?_
      refine gdf_p rfl rfl rfl rfl (o_fieldAddr_box fi_60_7 rfl) ?_
      refine gdf_p rfl rfl rfl rfl (o_load_box 0 Tryz.isAgg4 rfl rfl rfl rfl) ?_
      refine gdf_p rfl rfl rfl rfl (o_fieldAddr_box fi_60_9 rfl) ?_
      refine gdf_p rfl rfl rfl rfl (o_load_box 0 Tryz.isAgg3 rfl rfl rfl rfl) ?_
      refine gdf_p rfl rfl rfl rfl (o_fieldAddr_box fi_60_10 rfl) ?_
      refine gdf_p rfl rfl rfl rfl (o_load_box 0 Tryz.isAgg3 rfl rfl rfl rfl) ?_
      refine gdf_p rfl rfl rfl rfl (o_fieldAddr_box fi_60_8 rfl) ?_
      refine gdf_p rfl rfl rfl rfl (o_load_box 0 Tryz.isAgg49 rfl rfl rfl rfl) ?_
      refine gdf_p rfl rfl rfl rfl (o_call0 Tryz.call26 rfl (w_syntagmabase_Ints hx2)) ?_
      refine gdf_p rfl rfl rfl rfl (o_build (zs := [.bool false, .bool false, .bool false, .bool false, .bool false, .bool false, .bool false, .bool false, .list 1 D.i64 [], .v (.int .i64 0), .v (.int .i64 0), .v (.slice none 0 0), .v (.slice none 0 0)]) Tryz.runUnderlying52 Tryz.zeroValue52 (pl_52 _ Tryz.runUnderlying52) rfl rfl rfl rfl) ?_
      refine gdf_fresh (R := fun d A => ∃ b, d = .v (.pointer (some ⟨b, 0, none⟩)) ∧ A = box b 52 [.bool false, .bool false, .bool false, .bool false, .bool false, .bool false, .bool false, .bool false, .list 1 D.i64 [], .i64 0, .i64 0, .list 2 AutoEdge.d [], .list 2 AutoEdge.d []]) rfl rfl rfl (OpT.mono (o_alloc_own Tryz.zeroValue52 (cs := [.bool false, .bool false, .bool false, .bool false, .bool false, .bool false, .bool false, .bool false, .list 1 D.i64 [], .i64 0, .i64 0, .list 2 AutoEdge.d [], .list 2 AutoEdge.d []]) rfl) (by rintro d ms' ⟨b, rfl, rfl⟩; exact ⟨_, ⟨b, rfl, rfl⟩, rfl⟩)) ?_
      refine gdf_nil ?_
      rintro _ _ ⟨b4, rfl, rfl⟩
      refine go_u rfl rfl (o_store_box 0 Tryz.sizeOf52 rfl rfl rfl rfl rfl rfl rfl rfl (Nat.le_of_ble_eq_true rfl)) ?_
      rintro _ _ rfl
      refine go_conv (refines_newrow (T := 62) (sz := 2) (f := AutoEdge.d)) ?_
      refine go_conv (refines_newrow (T := 62) (sz := 2) (f := AutoEdge.d)) ?_
      refine go_ms (ms' := [_, _, box b4 52 [_, _, _, _, _, _, _, _, _, _, _, _, _], box b3 60 [_, _, _, _, _, _, _, _, _, _, _, _, _], _, box b2 24 [_, _], box b1 24 [_, _]]) rfl ?_
      refine go_nil ?_
      refine g_seq ?_
      refine g_seq ?_
      refine g_region ?_
      refine go_p rfl rfl rfl (o_assign rfl) ?_
      refine go_nil ?_
      obtain ⟨o_2, hj2, hm2⟩ := bind_some hj1
      refine g_cut_m [(1, _), (2, _), (3, _), (4, _), (5, _), (6, _)] [(3, _), (4, _), (5, _), (6, _)] (fun (st : ((List AutoEdge) × (List AutoEdge) × Bool × Bool × Bool × Bool × Bool × Bool × Bool × Bool × (List Int) × Int × Int)) (hid : (Option Addr × Nat) × (Option Addr × Nat)) => match st, hid with | (l3, l4, z3, z4, z5, z6, z7, z8, z9, z10, z11, z12, z13), ((a_r3, cap_r3), (a_r2, cap_r2)) => []) (fun F (st : ((List AutoEdge) × (List AutoEdge) × Bool × Bool × Bool × Bool × Bool × Bool × Bool × Bool × (List Int) × Int × Int)) (hid : (Option Addr × Nat) × (Option Addr × Nat)) => match st, hid with | (l3, l4, z3, z4, z5, z6, z7, z8, z9, z10, z11, z12, z13), ((a_r3, cap_r3), (a_r2, cap_r2)) => [row a_r3 cap_r3 62 2 AutoEdge.d l3, row a_r2 cap_r2 62 2 AutoEdge.d l4, box b4 52 [.bool z3, .bool z4, .bool z5, .bool z6, .bool z7, .bool z8, .bool z9, .bool z10, .list 1 D.i64 z11, .i64 z12, .i64 z13, .v (.slice a_r2 l4.length cap_r2), .v (.slice a_r3 l3.length cap_r3)], (nthF F 0), (nthF F 1), (nthF F 2), (nthF F 3)]) (fun st => st = o_2) ⟨rfl, rfl, rfl, rfl, rfl, rfl, trivial⟩ ⟨rfl, rfl, rfl, rfl, trivial⟩ ?_ ?_
      · skip
        refine g_block ?_
        refine g_loop_m [(1, _), (2, _), (3, _), (4, _), (5, _), (6, _)] [(3, _), (4, _), (5, _), (6, _)] (fun (st : (Int × (List AutoEdge) × (List AutoEdge) × Bool × Bool × Bool × Bool × Bool × Bool × Bool × Bool × (List Int) × Int × Int)) (hid : (Option Addr × Nat) × (Option Addr × Nat)) => match st, hid with | (k1, l5, l6, z14, z15, z16, z17, z18, z19, z20, z21, z22, z23, z24), ((a_r3, cap_r3), (a_r2, cap_r2)) => [(7, .i64 k1)]) (fun F (st : (Int × (List AutoEdge) × (List AutoEdge) × Bool × Bool × Bool × Bool × Bool × Bool × Bool × Bool × (List Int) × Int × Int)) (hid : (Option Addr × Nat) × (Option Addr × Nat)) => match st, hid with | (k1, l5, l6, z14, z15, z16, z17, z18, z19, z20, z21, z22, z23, z24), ((a_r3, cap_r3), (a_r2, cap_r2)) => [row a_r3 cap_r3 62 2 AutoEdge.d l5, row a_r2 cap_r2 62 2 AutoEdge.d l6, box b4 52 [.bool z14, .bool z15, .bool z16, .bool z17, .bool z18, .bool z19, .bool z20, .bool z21, .list 1 D.i64 z22, .i64 z23, .i64 z24, .v (.slice a_r2 l6.length cap_r2), .v (.slice a_r3 l5.length cap_r3)], (nthF F 0), (nthF F 1), (nthF F 2), (nthF F 3)]) ((_, _), (_, _)) hj2 (fun _ => rfl) ⟨rfl, rfl, rfl, rfl, rfl, rfl, trivial⟩ ⟨rfl, rfl, rfl, rfl, trivial⟩ ⟨rfl, trivial⟩ rfl ?_
        rintro n ⟨k1, l5, l6, z14, z15, z16, z17, z18, z19, z20, z21, z22, z23, z24⟩ ⟨⟨a_r3, cap_r3⟩, ⟨a_r2, cap_r2⟩⟩ hj2
        rw [m_syntagmalaw24_Of_l2] at hj2
        refine g_norm (L' := [(7, .i64 k1), (1, _), (2, _), (3, _), (4, _), (5, _), (6, _)]) (ms' := [row a_r3 cap_r3 62 2 AutoEdge.d l5, row a_r2 cap_r2 62 2 AutoEdge.d l6, box b4 52 [.bool z14, .bool z15, .bool z16, .bool z17, .bool z18, .bool z19, .bool z20, .bool z21, .list 1 D.i64 z22, .i64 z23, .i64 z24, .v (.slice a_r2 l6.length cap_r2), .v (.slice a_r3 l5.length cap_r3)], _, _, _, _]) rfl rfl ?_
        refine g_seq ?_
        refine g_seq ?_
        refine g_region ?_
        refine go_p rfl rfl rfl (o_move rfl) ?_
        refine go_p rfl rfl rfl (o_fieldAddr_box fi_60_11 rfl) ?_
        refine go_p rfl rfl rfl (o_load_box 3 Tryz.isAgg58 rfl rfl rfl rfl) ?_
        refine go_p rfl rfl rfl (o_len Tryz.runUnderlying58 rfl) ?_
        refine go_p rfl rfl rfl (o_cmp rfl rfl rfl) ?_
        refine go_nil ?_
        refine g_cond rfl (fun hc2 => ?_) (fun hc2 => ?_)
        · replace hj2 := cond_t hc2 hj2
          refine g_skip ?_
          refine g_seq ?_
          refine g_block ?_
          obtain ⟨x3, hx3, hj2⟩ := bind_some hj2
          obtain ⟨x4, hx4, hj2⟩ := bind_some hj2
          refine g_draw 16 Tryz_mixed (by decide +kernel) ?_
          refine gd_p rfl rfl rfl (o_fieldAddr_box fi_52_11 rfl) ?_
          refine gd_p rfl rfl rfl (o_load_box 2 Tryz.isAgg50 rfl rfl rfl rfl) ?_
          refine gd_p rfl rfl rfl (o_fieldAddr_box fi_60_11 rfl) ?_
          refine gd_p rfl rfl rfl (o_load_box 3 Tryz.isAgg58 rfl rfl rfl rfl) ?_
          refine gd_p rfl rfl rfl (o_move rfl) ?_
          refine gd_p rfl rfl rfl (o_indexAddr_m Tryz.runUnderlying58 Tryz.sizeOf63 rfl rfl hx3) ?_
          refine gd_p rfl rfl rfl (o_fieldAddr fi_63_0 rfl rfl rfl) ?_
          refine gd_p rfl rfl rfl (o_load Tryz.isAgg9 rfl rfl) ?_
          refine gd_p rfl rfl rfl (o_fieldAddr_box fi_60_11 rfl) ?_
          refine gd_p rfl rfl rfl (o_load_box 3 Tryz.isAgg58 rfl rfl rfl rfl) ?_
          refine gd_p rfl rfl rfl (o_move rfl) ?_
          refine gd_p rfl rfl rfl (o_indexAddr_m Tryz.runUnderlying58 Tryz.sizeOf63 rfl rfl hx4) ?_
          refine gd_p rfl rfl rfl (o_fieldAddr fi_63_1 rfl rfl rfl) ?_
          refine gd_p rfl rfl rfl (o_load Tryz.isAgg3 rfl rfl) ?_
          refine gd_p rfl rfl rfl (o_build (zs := [.str [], .v (.int .i64 0)]) Tryz.runUnderlying62 Tryz.zeroValue62 (pl_62 _ Tryz.runUnderlying62) rfl rfl rfl rfl) ?_
          refine gd_p rfl rfl rfl (o_buildSlice (xs := [_]) (f := AutoEdge.d) (l := [(⟨x3.name, x4.to_⟩ : AutoEdge)]) Tryz.runUnderlying50 Tryz.sizeOf62 Tryz.zeroValue62 rfl rfl rfl (fun _ => ⟨rfl, rfl, rfl⟩) rfl) ?_
          refine gd_nil ?_
          obtain ⟨hg5, hj2⟩ := grd_some hj2
          refine go_op rfl rfl rfl (o_append (a := _) 1 Tryz.underlying50 Tryz.type62 rfl rfl rfl rfl rfl rfl rfl (fun _ => rfl) (fun _ => rfl) hg5 (app_len hg5 rfl)) ?_
          rintro _ _ ⟨a_r2, cap_r2, rfl, rfl⟩
          refine go_ms (ms' := [_, _, box b4 52 [_, _, _, _, _, _, _, _, _, _, _, _, _], box b3 60 [_, _, _, _, _, _, _, _, _, _, _, _, _], _, box b2 24 [_, _], box b1 24 [_, _]]) rfl ?_
          refine go_p rfl rfl rfl (o_fieldAddr_box fi_52_11 rfl) ?_
          refine go_u rfl rfl (o_store_box 2 Tryz.sizeOf50 rfl rfl rfl rfl rfl rfl rfl rfl (Nat.le_of_ble_eq_true rfl)) ?_
          rintro _ _ rfl
          refine go_ms (ms' := [_, _, box b4 52 [_, _, _, _, _, _, _, _, _, _, _, _, _], box b3 60 [_, _, _, _, _, _, _, _, _, _, _, _, _], _, box b2 24 [_, _], box b1 24 [_, _]]) rfl ?_
          refine go_nil ?_
          refine g_region ?_
          refine go_p rfl rfl rfl (o_move rfl) ?_
          obtain ⟨hg6, hj2⟩ := grd_some hj2
          refine go_p rfl rfl rfl (o_add rfl rfl (i64_id hg6)) ?_
          refine go_p rfl rfl rfl (o_assign rfl) ?_
          refine go_nil ?_
          exact ⟨_, ((_, _), (_, _)), hj2, ⟨rfl, trivial⟩, ⟨rfl, rfl, rfl, rfl, rfl, rfl, trivial⟩, [], rfl⟩
        · replace hj2 := cond_f hc2 hj2
          refine g_exit ?_
          exact ⟨_, ((_, _), (_, _)), some_eq hj2, trivial, ⟨rfl, rfl, rfl, rfl, rfl, rfl, trivial⟩, [], rfl⟩
      · rintro ⟨l3, l4, z3, z4, z5, z6, z7, z8, z9, z10, z11, z12, z13⟩ ⟨⟨a_r3, cap_r3⟩, ⟨a_r2, cap_r2⟩⟩ hst
        subst hst
        refine k_norm (L' := [(1, _), (2, _), (3, _), (4, _), (5, _), (6, _)]) (ms' := [row a_r3 cap_r3 62 2 AutoEdge.d l3, row a_r2 cap_r2 62 2 AutoEdge.d l4, box b4 52 [.bool z3, .bool z4, .bool z5, .bool z6, .bool z7, .bool z8, .bool z9, .bool z10, .list 1 D.i64 z11, .i64 z12, .i64 z13, .v (.slice a_r2 l4.length cap_r2), .v (.slice a_r3 l3.length cap_r3)], _, _, _, _]) rfl rfl ?_
        refine g_seq ?_
        refine g_seq ?_
        refine g_region ?_
        refine go_p rfl rfl rfl (o_assign rfl) ?_
        refine go_nil ?_
        obtain ⟨o_3, hj3, hm3⟩ := bind_some hm2
        refine g_cut_m [(1, _), (2, _), (3, _), (4, _), (6, _)] [(3, _), (4, _), (5, _), (6, _)] (fun (st : ((List AutoEdge) × (List AutoEdge) × Bool × Bool × Bool × Bool × Bool × Bool × Bool × Bool × (List Int) × Int × Int)) (hid : (Option Addr × Nat) × (Option Addr × Nat)) => match st, hid with | (l7, l8, z25, z26, z27, z28, z29, z30, z31, z32, z33, z34, z35), ((a_r3, cap_r3), (a_r2, cap_r2)) => []) (fun F (st : ((List AutoEdge) × (List AutoEdge) × Bool × Bool × Bool × Bool × Bool × Bool × Bool × Bool × (List Int) × Int × Int)) (hid : (Option Addr × Nat) × (Option Addr × Nat)) => match st, hid with | (l7, l8, z25, z26, z27, z28, z29, z30, z31, z32, z33, z34, z35), ((a_r3, cap_r3), (a_r2, cap_r2)) => [row a_r3 cap_r3 62 2 AutoEdge.d l7, row a_r2 cap_r2 62 2 AutoEdge.d l8, box b4 52 [.bool z25, .bool z26, .bool z27, .bool z28, .bool z29, .bool z30, .bool z31, .bool z32, .list 1 D.i64 z33, .i64 z34, .i64 z35, .v (.slice a_r2 l8.length cap_r2), .v (.slice a_r3 l7.length cap_r3)], (nthF F 0), (nthF F 1), (nthF F 2), (nthF F 3)]) (fun st => st = o_3) ⟨rfl, rfl, rfl, rfl, rfl, trivial⟩ ⟨rfl, rfl, rfl, rfl, trivial⟩ ?_ ?_
        · skip
          refine g_block ?_
          refine g_loop_m [(1, _), (2, _), (3, _), (4, _), (5, _), (6, _)] [(3, _), (4, _), (5, _), (6, _)] (fun (st : (Int × (List AutoEdge) × (List AutoEdge) × Bool × Bool × Bool × Bool × Bool × Bool × Bool × Bool × (List Int) × Int × Int)) (hid : (Option Addr × Nat) × (Option Addr × Nat)) => match st, hid with | (k2, l9, l10, z36, z37, z38, z39, z40, z41, z42, z43, z44, z45, z46), ((a_r3, cap_r3), (a_r2, cap_r2)) => [(8, .i64 k2)]) (fun F (st : (Int × (List AutoEdge) × (List AutoEdge) × Bool × Bool × Bool × Bool × Bool × Bool × Bool × Bool × (List Int) × Int × Int)) (hid : (Option Addr × Nat) × (Option Addr × Nat)) => match st, hid with | (k2, l9, l10, z36, z37, z38, z39, z40, z41, z42, z43, z44, z45, z46), ((a_r3, cap_r3), (a_r2, cap_r2)) => [row a_r3 cap_r3 62 2 AutoEdge.d l9, row a_r2 cap_r2 62 2 AutoEdge.d l10, box b4 52 [.bool z36, .bool z37, .bool z38, .bool z39, .bool z40, .bool z41, .bool z42, .bool z43, .list 1 D.i64 z44, .i64 z45, .i64 z46, .v (.slice a_r2 l10.length cap_r2), .v (.slice a_r3 l9.length cap_r3)], (nthF F 0), (nthF F 1), (nthF F 2), (nthF F 3)]) ((_, _), (_, _)) hj3 (fun _ => rfl) ⟨rfl, rfl, rfl, rfl, rfl, rfl, trivial⟩ ⟨rfl, rfl, rfl, rfl, trivial⟩ ⟨rfl, trivial⟩ rfl ?_
          rintro n ⟨k2, l9, l10, z36, z37, z38, z39, z40, z41, z42, z43, z44, z45, z46⟩ ⟨⟨a_r3, cap_r3⟩, ⟨a_r2, cap_r2⟩⟩ hj3
          rw [m_syntagmalaw24_Of_l3] at hj3
          refine g_norm (L' := [(8, .i64 k2), (1, _), (2, _), (3, _), (4, _), (5, _), (6, _)]) (ms' := [row a_r3 cap_r3 62 2 AutoEdge.d l9, row a_r2 cap_r2 62 2 AutoEdge.d l10, box b4 52 [.bool z36, .bool z37, .bool z38, .bool z39, .bool z40, .bool z41, .bool z42, .bool z43, .list 1 D.i64 z44, .i64 z45, .i64 z46, .v (.slice a_r2 l10.length cap_r2), .v (.slice a_r3 l9.length cap_r3)], _, _, _, _]) rfl rfl ?_
          refine g_seq ?_
          refine g_seq ?_
          refine g_region ?_
          refine go_p rfl rfl rfl (o_move rfl) ?_
          refine go_p rfl rfl rfl (o_fieldAddr_box fi_60_12 rfl) ?_
          refine go_p rfl rfl rfl (o_load_box 3 Tryz.isAgg58 rfl rfl rfl rfl) ?_
          refine go_p rfl rfl rfl (o_len Tryz.runUnderlying58 rfl) ?_
          refine go_p rfl rfl rfl (o_cmp rfl rfl rfl) ?_
          refine go_nil ?_
          refine g_cond rfl (fun hc3 => ?_) (fun hc3 => ?_)
          · replace hj3 := cond_t hc3 hj3
            refine g_skip ?_
            refine g_seq ?_
            refine g_block ?_
            obtain ⟨x5, hx7, hj3⟩ := bind_some hj3
            obtain ⟨x6, hx8, hj3⟩ := bind_some hj3
            refine g_draw 16 Tryz_mixed (by decide +kernel) ?_
            refine gd_p rfl rfl rfl (o_fieldAddr_box fi_52_12 rfl) ?_
            refine gd_p rfl rfl rfl (o_load_box 2 Tryz.isAgg50 rfl rfl rfl rfl) ?_
            refine gd_p rfl rfl rfl (o_fieldAddr_box fi_60_12 rfl) ?_
            refine gd_p rfl rfl rfl (o_load_box 3 Tryz.isAgg58 rfl rfl rfl rfl) ?_
            refine gd_p rfl rfl rfl (o_move rfl) ?_
            refine gd_p rfl rfl rfl (o_indexAddr_m Tryz.runUnderlying58 Tryz.sizeOf63 rfl rfl hx7) ?_
            refine gd_p rfl rfl rfl (o_fieldAddr fi_63_0 rfl rfl rfl) ?_
            refine gd_p rfl rfl rfl (o_load Tryz.isAgg9 rfl rfl) ?_
            refine gd_p rfl rfl rfl (o_fieldAddr_box fi_60_12 rfl) ?_
            refine gd_p rfl rfl rfl (o_load_box 3 Tryz.isAgg58 rfl rfl rfl rfl) ?_
            refine gd_p rfl rfl rfl (o_move rfl) ?_
            refine gd_p rfl rfl rfl (o_indexAddr_m Tryz.runUnderlying58 Tryz.sizeOf63 rfl rfl hx8) ?_
            refine gd_p rfl rfl rfl (o_fieldAddr fi_63_1 rfl rfl rfl) ?_
            refine gd_p rfl rfl rfl (o_load Tryz.isAgg3 rfl rfl) ?_
            refine gd_p rfl rfl rfl (o_build (zs := [.str [], .v (.int .i64 0)]) Tryz.runUnderlying62 Tryz.zeroValue62 (pl_62 _ Tryz.runUnderlying62) rfl rfl rfl rfl) ?_
            refine gd_p rfl rfl rfl (o_buildSlice (xs := [_]) (f := AutoEdge.d) (l := [(⟨x5.name, x6.to_⟩ : AutoEdge)]) Tryz.runUnderlying50 Tryz.sizeOf62 Tryz.zeroValue62 rfl rfl rfl (fun _ => ⟨rfl, rfl, rfl⟩) rfl) ?_
            refine gd_nil ?_
            obtain ⟨hg9, hj3⟩ := grd_some hj3
            refine go_op rfl rfl rfl (o_append (a := _) 0 Tryz.underlying50 Tryz.type62 rfl rfl rfl rfl rfl rfl rfl (fun _ => rfl) (fun _ => rfl) hg9 (app_len hg9 rfl)) ?_
            rintro _ _ ⟨a_r3, cap_r3, rfl, rfl⟩
            refine go_ms (ms' := [_, _, box b4 52 [_, _, _, _, _, _, _, _, _, _, _, _, _], box b3 60 [_, _, _, _, _, _, _, _, _, _, _, _, _], _, box b2 24 [_, _], box b1 24 [_, _]]) rfl ?_
            refine go_p rfl rfl rfl (o_fieldAddr_box fi_52_12 rfl) ?_
            refine go_u rfl rfl (o_store_box 2 Tryz.sizeOf50 rfl rfl rfl rfl rfl rfl rfl rfl (Nat.le_of_ble_eq_true rfl)) ?_
            rintro _ _ rfl
            refine go_ms (ms' := [_, _, box b4 52 [_, _, _, _, _, _, _, _, _, _, _, _, _], box b3 60 [_, _, _, _, _, _, _, _, _, _, _, _, _], _, box b2 24 [_, _], box b1 24 [_, _]]) rfl ?_
            refine go_nil ?_
            refine g_region ?_
            refine go_p rfl rfl rfl (o_move rfl) ?_
            obtain ⟨hg10, hj3⟩ := grd_some hj3
            refine go_p rfl rfl rfl (o_add rfl rfl (i64_id hg10)) ?_
            refine go_p rfl rfl rfl (o_assign rfl) ?_
            refine go_nil ?_
            exact ⟨_, ((_, _), (_, _)), hj3, ⟨rfl, trivial⟩, ⟨rfl, rfl, rfl, rfl, rfl, rfl, trivial⟩, [], rfl⟩
          · replace hj3 := cond_f hc3 hj3
            refine g_exit ?_
            exact ⟨_, ((_, _), (_, _)), some_eq hj3, trivial, ⟨rfl, rfl, rfl, rfl, rfl, trivial⟩, [], rfl⟩
        · rintro ⟨l7, l8, z25, z26, z27, z28, z29, z30, z31, z32, z33, z34, z35⟩ ⟨⟨a_r3, cap_r3⟩, ⟨a_r2, cap_r2⟩⟩ hst
          subst hst
          refine k_norm (L' := [(1, _), (2, _), (3, _), (4, _), (6, _)]) (ms' := [row a_r3 cap_r3 62 2 AutoEdge.d l7, row a_r2 cap_r2 62 2 AutoEdge.d l8, box b4 52 [.bool z25, .bool z26, .bool z27, .bool z28, .bool z29, .bool z30, .bool z31, .bool z32, .list 1 D.i64 z33, .i64 z34, .i64 z35, .v (.slice a_r2 l8.length cap_r2), .v (.slice a_r3 l7.length cap_r3)], _, _, _, _]) rfl rfl ?_
          refine g_region ?_
          refine go_p rfl rfl rfl (o_fieldAddr_box fi_24_0 rfl) ?_
          refine go_p rfl rfl rfl (o_load_box 5 Tryz.isAgg22 rfl rfl rfl rfl) ?_
          refine go_p rfl rfl rfl (o_load_box_agg 2 Tryz.isAgg52 Tryz.sizeOf52 rfl rfl rfl rfl (Nat.le_of_ble_eq_true rfl)) ?_
          refine go_conv (peekAggE (i := 100) (q := 11) 1 rfl rfl rfl rfl rfl).refines ?_
          refine go_conv (peekAggE (i := 100) (q := 12) 0 rfl rfl rfl rfl rfl).refines ?_
          refine go_p rfl rfl rfl (o_buildSlice (xs := [_]) (f := AutoState.d) (l := [(⟨z25, z26, z27, z28, z29, z30, z31, z32, z33, z34, z35, l8, l7⟩ : AutoState)]) Tryz.runUnderlying22 Tryz.sizeOf52 Tryz.zeroValue52 rfl rfl rfl (fun _ => ⟨rfl, rfl, rfl⟩) rfl) ?_
          obtain ⟨hg11, hm3⟩ := grd_some hm3
          refine go_op rfl rfl rfl (o_append (a := _) 4 Tryz.underlying22 Tryz.type52 rfl rfl rfl rfl rfl rfl rfl (fun _ => rfl) (fun _ => rfl) hg11 (app_len hg11 rfl)) ?_
          rintro _ _ ⟨a_r1, cap_r1, rfl, rfl⟩
          refine go_ms (ms' := [_, _, box b4 52 [_, _, _, _, _, _, _, _, _, _, _, _, _], box b3 60 [_, _, _, _, _, _, _, _, _, _, _, _, _], _, box b2 24 [_, _], box b1 24 [_, _]]) rfl ?_
          refine go_p rfl rfl rfl (o_fieldAddr_box fi_24_0 rfl) ?_
          refine go_u rfl rfl (o_store_box 5 Tryz.sizeOf22 rfl rfl rfl rfl rfl rfl rfl rfl (Nat.le_of_ble_eq_true rfl)) ?_
          rintro _ _ rfl
          refine go_ms (ms' := [_, _, box b4 52 [_, _, _, _, _, _, _, _, _, _, _, _, _], box b3 60 [_, _, _, _, _, _, _, _, _, _, _, _, _], _, box b2 24 [_, _], box b1 24 [_, _]]) rfl ?_
          refine go_nil ?_
          refine g_region ?_
          refine go_p rfl rfl rfl (o_move rfl) ?_
          obtain ⟨hg12, hm3⟩ := grd_some hm3
          refine go_p rfl rfl rfl (o_add rfl rfl (i64_id hg12)) ?_
          refine go_p rfl rfl rfl (o_assign rfl) ?_
          refine go_nil ?_
          exact ⟨_, (_, _), hm3, ⟨rfl, trivial⟩, ⟨rfl, rfl, rfl, trivial⟩, [_, _, _, _], rfl⟩
    · replace hj1 := cond_f hc1 hj1
      refine g_exit ?_
      exact ⟨_, (_, _), some_eq hj1, trivial, ⟨rfl, rfl, trivial⟩, [], rfl⟩
  · rintro ⟨l1, z1⟩ ⟨a_r1, cap_r1⟩ hst
    subst hst
    refine k_norm (L' := [(2, _), (3, _)]) (ms' := [row a_r1 cap_r1 52 13 AutoState.d l1, box b2 24 [.v (.slice a_r1 l1.length cap_r1), .i64 z1], _]) rfl rfl ?_
    refine g_seq ?_
    refine g_region ?_
    refine go_p rfl rfl rfl (o_load_box_agg 1 Tryz.isAgg24 Tryz.sizeOf24 rfl rfl rfl rfl (Nat.le_of_ble_eq_true rfl)) ?_
    refine go_conv (peekAggE (i := 104) (q := 0) 0 rfl rfl rfl rfl rfl).refines ?_
    refine go_u rfl rfl (o_store_box 2 Tryz.sizeOf24 rfl rfl rfl rfl rfl rfl rfl rfl (Nat.le_of_ble_eq_true rfl)) ?_
    rintro _ _ rfl
    refine go_ms (ms' := [_, box b2 24 [_, _], box b1 24 [_, _]]) rfl ?_
    refine go_nil ?_
    refine g_ret ?_
    exact retK (ret_one' rfl (ret_cell 2 rfl rfl rfl Tryz.isAgg24 Tryz.sizeOf24 rfl) (perm_drop _)) (congrArg (fun (p : AutoAuto) => (AutoAuto.d p : D)) (some_eq hm1))
def m_syntagmaref24_Next_l1 (s1 : AutoState) : Nat → (Int × (List Int)) → Option (List Int)
  | 0, _ => none
  | n + 1, (i1, l3) =>
    bif (decide (i1 < (s1.fields.length : Int))) then
      (idx s1.fields i1).bind fun x1 =>
      grd ((l3.length + ([x1.to_] : List _).length) * 8 ≤ 140737488355328) <|
      grd (InR (i1 + 1)) <|
      m_syntagmaref24_Next_l1 s1 n ((i1 + 1), (l3 ++ [x1.to_]))
    else
      some l3
def m_syntagmaref24_Next_l2 (s1 : AutoState) : Nat → (Int × (List Int)) → Option (List Int)
  | 0, _ => none
  | n + 1, (i2, l5) =>
    bif (decide (i2 < (s1.tags.length : Int))) then
      (idx s1.tags i2).bind fun x2 =>
      grd ((l5.length + ([x2.to_] : List _).length) * 8 ≤ 140737488355328) <|
      grd (InR (i2 + 1)) <|
      m_syntagmaref24_Next_l2 s1 n ((i2 + 1), (l5 ++ [x2.to_]))
    else
      some l5
def m_syntagmaref24_Next (s1 : AutoState) : Option (List Int) :=
  (bif s1.arrow then
    some [s1.dom, s1.cod]
  else
    some [] : Option (List Int)).bind fun l1 =>
  (m_syntagmaref24_Next_l1 s1 FU (0, l1) : Option (List Int)).bind fun l2 =>
  (m_syntagmaref24_Next_l2 s1 FU (0, l2) : Option (List Int)).bind fun l4 =>
  some l4
theorem w_syntagmaref24_Next {s1 : AutoState} {r_1 : (List Int)} (hm : m_syntagmaref24_Next s1 = some r_1) : Fn0 Tryz.prog 36 [AutoState.d s1] (.list 1 D.i64 r_1) := by
  unfold m_syntagmaref24_Next at hm
  refine fn_intro Tryz.func36 rfl Tryz.ntmps36 rfl fun H0 fr w0 => ?_
  refine g_seq ?_
  refine g_region ?_
  refine go_p rfl rfl rfl (o_box rfl rfl) ?_
  refine go_p rfl rfl rfl (o_assign rfl) ?_
  refine go_conv (nilE (i := 2) (sz := 1) (f := D.i64) rfl).refines ?_
  refine go_nil ?_
  refine g_seq ?_
  refine g_region ?_
  refine go_op rfl rfl rfl (o_buildSlice_row (xs := []) (f := D.i64) (l := []) Tryz.runUnderlying49 Tryz.sizeOf3 Tryz.zeroValue3 rfl rfl rfl (fun _ => ⟨rfl, rfl, rfl⟩) rfl (by simp [maxLen])) ?_
  rintro _ _ ⟨a_r1, rfl, rfl⟩
  refine go_p rfl rfl rfl (o_assign rfl) ?_
  refine go_nil ?_
  refine g_seq ?_
  refine g_seq ?_
  refine g_region ?_
  refine go_p rfl rfl rfl (o_fieldAddr fi_52_5 rfl rfl rfl) ?_
  refine go_p rfl rfl rfl (o_load Tryz.isAgg4 rfl rfl) ?_
  refine go_nil ?_
  obtain ⟨o_1, hj1, hm1⟩ := bind_some hm
  refine g_cut_m [(1, _)] [] (fun (st : (List Int)) (hid : (Option Addr × Nat)) => match st, hid with | l1, (a_r1, cap_r1) => [(3, .v (.slice a_r1 l1.length cap_r1))]) (fun F (st : (List Int)) (hid : (Option Addr × Nat)) => match st, hid with | l1, (a_r1, cap_r1) => [row a_r1 cap_r1 3 1 D.i64 l1]) (fun st => st = o_1) ⟨rfl, trivial⟩ trivial ?_ ?_
  · skip
    refine g_cond rfl (fun hc1 => ?_) (fun hc1 => ?_)
    · replace hj1 := cond_t hc1 hj1
      refine g_region ?_
      refine go_p rfl rfl rfl (o_fieldAddr fi_52_9 rfl rfl rfl) ?_
      refine go_p rfl rfl rfl (o_load Tryz.isAgg3 rfl rfl) ?_
      refine go_p rfl rfl rfl (o_fieldAddr fi_52_10 rfl rfl rfl) ?_
      refine go_p rfl rfl rfl (o_load Tryz.isAgg3 rfl rfl) ?_
      refine go_op rfl rfl rfl (o_buildSlice_row (xs := [_, _]) (f := D.i64) (l := [_, _]) Tryz.runUnderlying49 Tryz.sizeOf3 Tryz.zeroValue3 rfl rfl rfl (fun _ => ⟨rfl, rfl, rfl⟩) rfl (by simp [maxLen])) ?_
      rintro _ _ ⟨a_r2, rfl, rfl⟩
      refine go_p rfl rfl rfl (o_assign rfl) ?_
      refine go_conv (refines_shift 0 1 rfl rfl rfl rfl) ?_
      refine go_nil ?_
      exact ⟨_, (_, _), some_eq hj1, ⟨rfl, trivial⟩, ⟨rfl, trivial⟩, [], rfl⟩
    · replace hj1 := cond_f hc1 hj1
      refine g_skip ?_
      exact ⟨_, (_, _), some_eq hj1, ⟨rfl, trivial⟩, ⟨rfl, trivial⟩, [], rfl⟩
  · rintro l1 ⟨a_r1, cap_r1⟩ hst
    subst hst
    refine k_norm (L' := [(3, .v (.slice a_r1 l1.length cap_r1)), (1, _)]) (ms' := [row a_r1 cap_r1 3 1 D.i64 l1]) rfl rfl ?_
    refine g_seq ?_
    refine g_seq ?_
    refine g_region ?_
    refine go_p rfl rfl rfl (o_assign rfl) ?_
    refine go_nil ?_
    obtain ⟨o_2, hj2, hm2⟩ := bind_some hm1
    refine g_cut_m [(1, _)] [] (fun (st : (List Int)) (hid : (Option Addr × Nat)) => match st, hid with | l2, (a_r1, cap_r1) => [(3, .v (.slice a_r1 l2.length cap_r1))]) (fun F (st : (List Int)) (hid : (Option Addr × Nat)) => match st, hid with | l2, (a_r1, cap_r1) => [row a_r1 cap_r1 3 1 D.i64 l2]) (fun st => st = o_2) ⟨rfl, trivial⟩ trivial ?_ ?_
    · skip
      refine g_block ?_
      refine g_loop_m [(1, _)] [] (fun (st : (Int × (List Int))) (hid : (Option Addr × Nat)) => match st, hid with | (i1, l3), (a_r1, cap_r1) => [(3, .v (.slice a_r1 l3.length cap_r1)), (4, .i64 i1)]) (fun F (st : (Int × (List Int))) (hid : (Option Addr × Nat)) => match st, hid with | (i1, l3), (a_r1, cap_r1) => [row a_r1 cap_r1 3 1 D.i64 l3]) (_, _) hj2 (fun _ => rfl) ⟨rfl, trivial⟩ trivial ⟨rfl, rfl, trivial⟩ rfl ?_
      rintro n ⟨i1, l3⟩ ⟨a_r1, cap_r1⟩ hj2
      rw [m_syntagmaref24_Next_l1] at hj2
      refine g_norm (L' := [(3, .v (.slice a_r1 l3.length cap_r1)), (4, .i64 i1), (1, _)]) (ms' := [row a_r1 cap_r1 3 1 D.i64 l3]) rfl rfl ?_
      refine g_seq ?_
      refine g_seq ?_
      refine g_region ?_
      refine go_p rfl rfl rfl (o_move rfl) ?_
      refine go_p rfl rfl rfl (o_fieldAddr fi_52_11 rfl rfl rfl) ?_
      refine go_p rfl rfl rfl (o_load Tryz.isAgg50 rfl rfl) ?_
      refine go_p rfl rfl rfl (o_len Tryz.runUnderlying50 rfl) ?_
      refine go_p rfl rfl rfl (o_cmp rfl rfl rfl) ?_
      refine go_nil ?_
      refine g_cond rfl (fun hc2 => ?_) (fun hc2 => ?_)
      · replace hj2 := cond_t hc2 hj2
        refine g_skip ?_
        refine g_seq ?_
        refine g_block ?_
        refine g_region ?_
        refine go_p rfl rfl rfl (o_move rfl) ?_
        refine go_p rfl rfl rfl (o_fieldAddr fi_52_11 rfl rfl rfl) ?_
        refine go_p rfl rfl rfl (o_load Tryz.isAgg50 rfl rfl) ?_
        refine go_p rfl rfl rfl (o_move rfl) ?_
        obtain ⟨x1, hx1, hj2⟩ := bind_some hj2
        refine go_p rfl rfl rfl (o_indexAddr_m Tryz.runUnderlying50 Tryz.sizeOf62 rfl rfl hx1) ?_
        refine go_p rfl rfl rfl (o_fieldAddr fi_62_1 rfl rfl rfl) ?_
        refine go_p rfl rfl rfl (o_load Tryz.isAgg3 rfl rfl) ?_
        refine go_p rfl rfl rfl (o_buildSlice (xs := [_]) (f := D.i64) (l := [_]) Tryz.runUnderlying49 Tryz.sizeOf3 Tryz.zeroValue3 rfl rfl rfl (fun _ => ⟨rfl, rfl, rfl⟩) rfl) ?_
        obtain ⟨hg2, hj2⟩ := grd_some hj2
        refine go_op rfl rfl rfl (o_append (a := _) 0 Tryz.underlying49 Tryz.type3 rfl rfl rfl rfl rfl rfl rfl (fun _ => rfl) (fun _ => rfl) hg2 (app_len hg2 rfl)) ?_
        rintro _ _ ⟨a_r1, cap_r1, rfl, rfl⟩
        refine go_ms (ms' := [_]) rfl ?_
        refine go_p rfl rfl rfl (o_assign rfl) ?_
        refine go_nil ?_
        refine g_region ?_
        refine go_p rfl rfl rfl (o_move rfl) ?_
        obtain ⟨hg3, hj2⟩ := grd_some hj2
        refine go_p rfl rfl rfl (o_add rfl rfl (i64_id hg3)) ?_
        refine go_p rfl rfl rfl (o_assign rfl) ?_
        refine go_nil ?_
        exact ⟨_, (_, _), hj2, ⟨rfl, rfl, trivial⟩, ⟨rfl, trivial⟩, [], rfl⟩
      · replace hj2 := cond_f hc2 hj2
        refine g_exit ?_
        exact ⟨_, (_, _), some_eq hj2, ⟨rfl, trivial⟩, ⟨rfl, trivial⟩, [], rfl⟩
    · rintro l2 ⟨a_r1, cap_r1⟩ hst
      subst hst
      refine k_norm (L' := [(3, .v (.slice a_r1 l2.length cap_r1)), (1, _)]) (ms' := [row a_r1 cap_r1 3 1 D.i64 l2]) rfl rfl ?_
      refine g_seq ?_
      refine g_seq ?_
      refine g_region ?_
      refine go_p rfl rfl rfl (o_assign rfl) ?_
      refine go_nil ?_
      obtain ⟨o_3, hj3, hm3⟩ := bind_some hm2
      refine g_cut_m [] [] (fun (st : (List Int)) (hid : (Option Addr × Nat)) => match st, hid with | l4, (a_r1, cap_r1) => [(3, .v (.slice a_r1 l4.length cap_r1))]) (fun F (st : (List Int)) (hid : (Option Addr × Nat)) => match st, hid with | l4, (a_r1, cap_r1) => [row a_r1 cap_r1 3 1 D.i64 l4]) (fun st => st = o_3) trivial trivial ?_ ?_
      · skip
        refine g_block ?_
        refine g_loop_m [(1, _)] [] (fun (st : (Int × (List Int))) (hid : (Option Addr × Nat)) => match st, hid with | (i2, l5), (a_r1, cap_r1) => [(3, .v (.slice a_r1 l5.length cap_r1)), (5, .i64 i2)]) (fun F (st : (Int × (List Int))) (hid : (Option Addr × Nat)) => match st, hid with | (i2, l5), (a_r1, cap_r1) => [row a_r1 cap_r1 3 1 D.i64 l5]) (_, _) hj3 (fun _ => rfl) ⟨rfl, trivial⟩ trivial ⟨rfl, rfl, trivial⟩ rfl ?_
        rintro n ⟨i2, l5⟩ ⟨a_r1, cap_r1⟩ hj3
        rw [m_syntagmaref24_Next_l2] at hj3
        refine g_norm (L' := [(3, .v (.slice a_r1 l5.length cap_r1)), (5, .i64 i2), (1, _)]) (ms' := [row a_r1 cap_r1 3 1 D.i64 l5]) rfl rfl ?_
        refine g_seq ?_
        refine g_seq ?_
        refine g_region ?_
        refine go_p rfl rfl rfl (o_move rfl) ?_
        refine go_p rfl rfl rfl (o_fieldAddr fi_52_12 rfl rfl rfl) ?_
        refine go_p rfl rfl rfl (o_load Tryz.isAgg50 rfl rfl) ?_
        refine go_p rfl rfl rfl (o_len Tryz.runUnderlying50 rfl) ?_
        refine go_p rfl rfl rfl (o_cmp rfl rfl rfl) ?_
        refine go_nil ?_
        refine g_cond rfl (fun hc3 => ?_) (fun hc3 => ?_)
        · replace hj3 := cond_t hc3 hj3
          refine g_skip ?_
          refine g_seq ?_
          refine g_block ?_
          refine g_region ?_
          refine go_p rfl rfl rfl (o_move rfl) ?_
          refine go_p rfl rfl rfl (o_fieldAddr fi_52_12 rfl rfl rfl) ?_
          refine go_p rfl rfl rfl (o_load Tryz.isAgg50 rfl rfl) ?_
          refine go_p rfl rfl rfl (o_move rfl) ?_
          obtain ⟨x2, hx4, hj3⟩ := bind_some hj3
          refine go_p rfl rfl rfl (o_indexAddr_m Tryz.runUnderlying50 Tryz.sizeOf62 rfl rfl hx4) ?_
          refine go_p rfl rfl rfl (o_fieldAddr fi_62_1 rfl rfl rfl) ?_
          refine go_p rfl rfl rfl (o_load Tryz.isAgg3 rfl rfl) ?_
          refine go_p rfl rfl rfl (o_buildSlice (xs := [_]) (f := D.i64) (l := [_]) Tryz.runUnderlying49 Tryz.sizeOf3 Tryz.zeroValue3 rfl rfl rfl (fun _ => ⟨rfl, rfl, rfl⟩) rfl) ?_
          obtain ⟨hg5, hj3⟩ := grd_some hj3
          refine go_op rfl rfl rfl (o_append (a := _) 0 Tryz.underlying49 Tryz.type3 rfl rfl rfl rfl rfl rfl rfl (fun _ => rfl) (fun _ => rfl) hg5 (app_len hg5 rfl)) ?_
          rintro _ _ ⟨a_r1, cap_r1, rfl, rfl⟩
          refine go_ms (ms' := [_]) rfl ?_
          refine go_p rfl rfl rfl (o_assign rfl) ?_
          refine go_nil ?_
          refine g_region ?_
          refine go_p rfl rfl rfl (o_move rfl) ?_
          obtain ⟨hg6, hj3⟩ := grd_some hj3
          refine go_p rfl rfl rfl (o_add rfl rfl (i64_id hg6)) ?_
          refine go_p rfl rfl rfl (o_assign rfl) ?_
          refine go_nil ?_
          exact ⟨_, (_, _), hj3, ⟨rfl, rfl, trivial⟩, ⟨rfl, trivial⟩, [], rfl⟩
        · replace hj3 := cond_f hc3 hj3
          refine g_exit ?_
          exact ⟨_, (_, _), some_eq hj3, ⟨rfl, trivial⟩, trivial, [], rfl⟩
      · rintro l4 ⟨a_r1, cap_r1⟩ hst
        subst hst
        refine k_norm (L' := [(3, .v (.slice a_r1 l4.length cap_r1))]) (ms' := [row a_r1 cap_r1 3 1 D.i64 l4]) rfl rfl ?_
        refine g_seq ?_
        refine g_region ?_
        refine go_p rfl rfl rfl (o_move rfl) ?_
        refine go_p rfl rfl rfl (o_assign rfl) ?_
        refine go_nil ?_
        refine g_conv (peekE (i := 2) 0 rfl rfl rfl).refines ?_
        refine g_ret ?_
        exact retK (ret_one' rfl (ret_tmp rfl) (perm_drop _)) (congrArg (fun (p : (List Int)) => (.list 1 D.i64 p : D)) (some_eq hm3))
def m_syntagmaref03_small (c1 : UInt8) : Option Bool :=
  some (((decide (97 ≤ (c1.toNat : Int))) && (decide ((c1.toNat : Int) ≤ 122))) || (decide ((c1.toNat : Int) = 95)))
theorem w_syntagmaref03_small {c1 : UInt8} {r_1 : Bool} (hm : m_syntagmaref03_small c1 = some r_1) : Fn0 Tryz.prog 139 [.u8 c1] (.bool r_1) := by
  unfold m_syntagmaref03_small at hm
  refine fn_intro Tryz.func139 rfl Tryz.ntmps139 rfl fun H0 fr w0 => ?_
  refine g_seq ?_
  refine g_region ?_
  refine go_p rfl rfl rfl (o_assign rfl) ?_
  refine go_nil ?_
  refine g_seq ?_
  refine g_region ?_
  refine go_p rfl rfl rfl (o_move rfl) ?_
  refine go_p rfl rfl rfl (o_cmp rfl rfl rfl) ?_
  refine go_p rfl rfl rfl (o_move rfl) ?_
  apply go_and [(0, _)] 3 8 (t := 5) ⟨rfl, trivial⟩ rfl
  · intro hg_1 hk1
    refine go_wantp rfl rfl rfl hg_1 rfl rfl (o_move rfl) ?_
    refine go_wantp rfl rfl rfl hg_1 rfl rfl (o_cmp rfl rfl rfl) ?_
    refine go_p rfl rfl rfl (o_pickT rfl hg_1 rfl) ?_
    exact go_meet hk1 (rfl) ⟨rfl, trivial⟩
  · intro hg_1 hk1
    refine go_skip rfl rfl rfl hg_1 rfl rfl ?_
    refine go_skip rfl rfl rfl hg_1 rfl rfl ?_
    refine go_p rfl rfl rfl (o_pickF rfl hg_1 rfl) ?_
    exact go_meet hk1 (rfl) ⟨rfl, trivial⟩
  refine go_p rfl rfl rfl (o_move rfl) ?_
  apply go_or [] 3 12 (t := 9) trivial rfl
  · intro hg_2 hk2
    refine go_wantp rfl rfl rfl hg_2 rfl rfl (o_move rfl) ?_
    refine go_wantp rfl rfl rfl hg_2 rfl rfl (o_cmp rfl rfl rfl) ?_
    refine go_p rfl rfl rfl (o_pickF rfl hg_2 rfl) ?_
    exact go_meet hk2 (rfl) trivial
  · intro hg_2 hk2
    refine go_skip rfl rfl rfl hg_2 rfl rfl ?_
    refine go_skip rfl rfl rfl hg_2 rfl rfl ?_
    refine go_p rfl rfl rfl (o_pickT rfl hg_2 rfl) ?_
    exact go_meet hk2 (rfl) trivial
  refine go_p rfl rfl rfl (o_assign rfl) ?_
  refine go_nil ?_
  refine g_ret ?_
  exact retK (ret_one' rfl (ret_tmp rfl) (perm_drop _)) (congrArg (fun (p : Bool) => (.bool p : D)) (some_eq hm))
def m_syntagmaref03_great (c1 : UInt8) : Option Bool :=
  some ((decide (65 ≤ (c1.toNat : Int))) && (decide ((c1.toNat : Int) ≤ 90)))
theorem w_syntagmaref03_great {c1 : UInt8} {r_1 : Bool} (hm : m_syntagmaref03_great c1 = some r_1) : Fn0 Tryz.prog 141 [.u8 c1] (.bool r_1) := by
  unfold m_syntagmaref03_great at hm
  refine fn_intro Tryz.func141 rfl Tryz.ntmps141 rfl fun H0 fr w0 => ?_
  refine g_seq ?_
  refine g_region ?_
  refine go_p rfl rfl rfl (o_assign rfl) ?_
  refine go_nil ?_
  refine g_seq ?_
  refine g_region ?_
  refine go_p rfl rfl rfl (o_move rfl) ?_
  refine go_p rfl rfl rfl (o_cmp rfl rfl rfl) ?_
  refine go_p rfl rfl rfl (o_move rfl) ?_
  apply go_and [] 3 8 (t := 5) trivial rfl
  · intro hg_1 hk1
    refine go_wantp rfl rfl rfl hg_1 rfl rfl (o_move rfl) ?_
    refine go_wantp rfl rfl rfl hg_1 rfl rfl (o_cmp rfl rfl rfl) ?_
    refine go_p rfl rfl rfl (o_pickT rfl hg_1 rfl) ?_
    exact go_meet hk1 (rfl) trivial
  · intro hg_1 hk1
    refine go_skip rfl rfl rfl hg_1 rfl rfl ?_
    refine go_skip rfl rfl rfl hg_1 rfl rfl ?_
    refine go_p rfl rfl rfl (o_pickF rfl hg_1 rfl) ?_
    exact go_meet hk1 (rfl) trivial
  refine go_p rfl rfl rfl (o_assign rfl) ?_
  refine go_nil ?_
  refine g_ret ?_
  exact retK (ret_one' rfl (ret_tmp rfl) (perm_drop _)) (congrArg (fun (p : Bool) => (.bool p : D)) (some_eq hm))
def m_syntagmaref03_Word_l1 (s1 : (List UInt8)) : Nat → Int → Option Int
  | 0, _ => none
  | n + 1, n2 =>
    (bif (decide (n2 < (s1.length : Int))) then ((idx s1 n2).bind fun c3 =>
    (m_syntagmaref03_small c3).bind fun x3 =>
    (bif x3 then (some true) else ((idx s1 n2).bind fun c4 =>
    (m_syntagmaref03_great c4).bind fun x4 =>
    some x4)).bind fun p4 =>
    (bif p4 then (some true) else ((idx s1 n2).bind fun c5 =>
    (bif (decide (48 ≤ (c5.toNat : Int))) then ((idx s1 n2).bind fun c6 =>
    some (decide ((c6.toNat : Int) ≤ 57))) else (some false)).bind fun p6 =>
    some p6)).bind fun p5 =>
    some p5) else (some false)).bind fun p3 =>
    bif p3 then
      grd (InR (n2 + 1)) <|
      m_syntagmaref03_Word_l1 s1 n (n2 + 1)
    else
      some n2
def m_syntagmaref03_Word (s1 : (List UInt8)) : Option Int :=
  (bif (decide ((s1.length : Int) = 0)) then (some true) else ((idx s1 0).bind fun c1 =>
  (m_syntagmaref03_small c1).bind fun x1 =>
  (bif (!x1) then ((idx s1 0).bind fun c2 =>
  (m_syntagmaref03_great c2).bind fun x2 =>
  some (!x2)) else (some false)).bind fun p2 =>
  some p2)).bind fun p1 =>
  bif p1 then
    some 0
  else
    (m_syntagmaref03_Word_l1 s1 FU 1 : Option Int).bind fun n1 =>
    some n1
theorem w_syntagmaref03_Word {s1 : (List UInt8)} {r_1 : Int} (hm : m_syntagmaref03_Word s1 = some r_1) : Fn0 Tryz.prog 138 [.str s1] (.i64 r_1) := by
  unfold m_syntagmaref03_Word at hm
  refine fn_intro Tryz.func138 rfl Tryz.ntmps138 rfl fun H0 fr w0 => ?_
  refine g_seq ?_
  refine g_region ?_
  refine go_p rfl rfl rfl (o_assign rfl) ?_
  refine go_nil ?_
  refine g_seq ?_
  refine g_seq ?_
  refine g_region ?_
  refine go_p rfl rfl rfl (o_move rfl) ?_
  refine go_p rfl rfl rfl (o_len_str Tryz.runUnderlying9 rfl) ?_
  refine go_p rfl rfl rfl (o_cmp rfl rfl rfl) ?_
  refine go_p rfl rfl rfl (o_move rfl) ?_
  obtain ⟨p1, hp_1, hm⟩ := bind_some hm
  refine go_two [(0, _)] 11 18 p1 (t := 7) ⟨rfl, trivial⟩ rfl (fun hg_1 hk1 => ?_) (fun hg_1 hk1 => ?_) ?_
  · replace hp_1 := cond_t hg_1 hp_1
    refine go_skip rfl rfl rfl hg_1 rfl rfl ?_
    refine go_skip rfl rfl rfl hg_1 rfl rfl ?_
    refine go_skip rfl rfl rfl hg_1 rfl rfl ?_
    refine go_skip rfl rfl rfl hg_1 rfl rfl ?_
    refine go_skip rfl rfl rfl hg_1 rfl rfl ?_
    refine go_skipu rfl rfl rfl rfl rfl ?_
    refine go_skipu rfl rfl rfl rfl rfl ?_
    refine go_skipu rfl rfl rfl rfl rfl ?_
    refine go_skipu rfl rfl rfl rfl rfl ?_
    refine go_skip rfl rfl rfl hg_1 rfl rfl ?_
    refine go_p rfl rfl rfl (o_pickT rfl hg_1 rfl) ?_
    exact go_meet hk1 (congrArg (fun b => some (D.bool b)) (some_eq hp_1)) ⟨rfl, trivial⟩
  · replace hp_1 := cond_f hg_1 hp_1
    refine go_wantp rfl rfl rfl hg_1 rfl rfl (o_move rfl) ?_
    obtain ⟨c1, hx1, hp_1⟩ := bind_some hp_1
    refine go_wantp rfl rfl rfl hg_1 rfl rfl (o_index_m Tryz.runUnderlying9 rfl rfl hx1) ?_
    obtain ⟨x1, hx2, hp_1⟩ := bind_some hp_1
    refine go_wantp rfl rfl rfl hg_1 rfl rfl (o_call0 Tryz.call139 rfl (w_syntagmaref03_small hx2)) ?_
    refine go_wantp rfl rfl rfl hg_1 rfl rfl (o_not rfl) ?_
    refine go_wantp rfl rfl rfl hg_1 rfl rfl (o_move rfl) ?_
    obtain ⟨p2, hp_2, hp_1⟩ := bind_some hp_1
    refine go_two [(0, _), (7, _)] 5 17 p2 (t := 12) ⟨rfl, rfl, trivial⟩ rfl (fun hg_2 hk2 => ?_) (fun hg_2 hk2 => ?_) ?_
    · replace hp_2 := cond_t hg_2 hp_2
      refine go_wantp rfl rfl rfl hg_2 rfl rfl (o_move rfl) ?_
      obtain ⟨c2, hx3, hp_2⟩ := bind_some hp_2
      refine go_wantp rfl rfl rfl hg_2 rfl rfl (o_index_m Tryz.runUnderlying9 rfl rfl hx3) ?_
      obtain ⟨x2, hx4, hp_2⟩ := bind_some hp_2
      refine go_wantp rfl rfl rfl hg_2 rfl rfl (o_call0 Tryz.call141 rfl (w_syntagmaref03_great hx4)) ?_
      refine go_wantp rfl rfl rfl hg_2 rfl rfl (o_not rfl) ?_
      refine go_wantp rfl rfl rfl hg_1 rfl rfl (o_pickT rfl hg_2 rfl) ?_
      exact go_meet hk2 (congrArg (fun b => some (D.bool b)) (some_eq hp_2)) ⟨rfl, rfl, trivial⟩
    · replace hp_2 := cond_f hg_2 hp_2
      refine go_skip rfl rfl rfl hg_2 rfl rfl ?_
      refine go_skip rfl rfl rfl hg_2 rfl rfl ?_
      refine go_skip rfl rfl rfl hg_2 rfl rfl ?_
      refine go_skip rfl rfl rfl hg_2 rfl rfl ?_
      refine go_wantp rfl rfl rfl hg_1 rfl rfl (o_pickF rfl hg_2 rfl) ?_
      exact go_meet hk2 (congrArg (fun b => some (D.bool b)) (some_eq hp_2)) ⟨rfl, rfl, trivial⟩
    refine go_p rfl rfl rfl (o_pickF rfl hg_1 rfl) ?_
    exact go_meet hk1 (congrArg (fun b => some (D.bool b)) (some_eq hp_1)) ⟨rfl, trivial⟩
  refine go_nil ?_
  refine g_cond rfl (fun hc1 => ?_) (fun hc1 => ?_)
  · replace hm := cond_t hc1 hm
    refine g_seq ?_
    refine g_region ?_
    refine go_p rfl rfl rfl (o_assign rfl) ?_
    refine go_nil ?_
    refine g_ret ?_
    exact retK (ret_one' rfl (ret_tmp rfl) (perm_drop _)) (congrArg (fun (p : Int) => (.i64 p : D)) (some_eq hm))
  · replace hm := cond_f hc1 hm
    refine g_skip ?_
    refine g_seq ?_
    refine g_region ?_
    refine go_p rfl rfl rfl (o_assign rfl) ?_
    refine go_nil ?_
    refine g_seq ?_
    obtain ⟨o_1, hj1, hm1⟩ := bind_some hm
    refine g_cut_m [] [] (fun (st : Int) (hid : Unit) => match st, hid with | n1, _ => [(3, .i64 n1)]) (fun F (st : Int) (hid : Unit) => match st, hid with | n1, _ => []) (fun st => st = o_1) trivial trivial ?_ ?_
    · skip
      refine g_block ?_
      refine g_loop_m [(0, _)] [] (fun (st : Int) (hid : Unit) => match st, hid with | n2, _ => [(3, .i64 n2)]) (fun F (st : Int) (hid : Unit) => match st, hid with | n2, _ => []) () hj1 (fun _ => rfl) ⟨rfl, trivial⟩ trivial ⟨rfl, trivial⟩ rfl ?_
      rintro n n2 _ hj1
      rw [m_syntagmaref03_Word_l1] at hj1
      refine g_norm (L' := [(3, .i64 n2), (0, _)]) (ms' := []) rfl rfl ?_
      refine g_seq ?_
      refine g_seq ?_
      refine g_region ?_
      refine go_p rfl rfl rfl (o_move rfl) ?_
      refine go_p rfl rfl rfl (o_move rfl) ?_
      refine go_p rfl rfl rfl (o_len_str Tryz.runUnderlying9 rfl) ?_
      refine go_p rfl rfl rfl (o_cmp rfl rfl rfl) ?_
      refine go_p rfl rfl rfl (o_move rfl) ?_
      obtain ⟨p3, hp_3, hj1⟩ := bind_some hj1
      refine go_two [(0, _), (3, _)] 23 46 p3 (t := 23) ⟨rfl, rfl, trivial⟩ rfl (fun hg_3 hk3 => ?_) (fun hg_3 hk3 => ?_) ?_
      · replace hp_3 := cond_t hg_3 hp_3
        refine go_wantp rfl rfl rfl hg_3 rfl rfl (o_move rfl) ?_
        refine go_wantp rfl rfl rfl hg_3 rfl rfl (o_move rfl) ?_
        obtain ⟨c3, hx5, hp_3⟩ := bind_some hp_3
        refine go_wantp rfl rfl rfl hg_3 rfl rfl (o_index_m Tryz.runUnderlying9 rfl rfl hx5) ?_
        obtain ⟨x3, hx6, hp_3⟩ := bind_some hp_3
        refine go_wantp rfl rfl rfl hg_3 rfl rfl (o_call0 Tryz.call139 rfl (w_syntagmaref03_small hx6)) ?_
        refine go_wantp rfl rfl rfl hg_3 rfl rfl (o_move rfl) ?_
        obtain ⟨p4, hp_4, hp_3⟩ := bind_some hp_3
        refine go_two [(0, _), (3, _), (23, _)] 5 33 p4 (t := 28) ⟨rfl, rfl, rfl, trivial⟩ rfl (fun hg_4 hk4 => ?_) (fun hg_4 hk4 => ?_) ?_
        · replace hp_4 := cond_t hg_4 hp_4
          refine go_skip rfl rfl rfl hg_4 rfl rfl ?_
          refine go_skip rfl rfl rfl hg_4 rfl rfl ?_
          refine go_skip rfl rfl rfl hg_4 rfl rfl ?_
          refine go_skip rfl rfl rfl hg_4 rfl rfl ?_
          refine go_wantp rfl rfl rfl hg_3 rfl rfl (o_pickT rfl hg_4 rfl) ?_
          exact go_meet hk4 (congrArg (fun b => some (D.bool b)) (some_eq hp_4)) ⟨rfl, rfl, rfl, trivial⟩
        · replace hp_4 := cond_f hg_4 hp_4
          refine go_wantp rfl rfl rfl hg_4 rfl rfl (o_move rfl) ?_
          refine go_wantp rfl rfl rfl hg_4 rfl rfl (o_move rfl) ?_
          obtain ⟨c4, hx7, hp_4⟩ := bind_some hp_4
          refine go_wantp rfl rfl rfl hg_4 rfl rfl (o_index_m Tryz.runUnderlying9 rfl rfl hx7) ?_
          obtain ⟨x4, hx8, hp_4⟩ := bind_some hp_4
          refine go_wantp rfl rfl rfl hg_4 rfl rfl (o_call0 Tryz.call141 rfl (w_syntagmaref03_great hx8)) ?_
          refine go_wantp rfl rfl rfl hg_3 rfl rfl (o_pickF rfl hg_4 rfl) ?_
          exact go_meet hk4 (congrArg (fun b => some (D.bool b)) (some_eq hp_4)) ⟨rfl, rfl, rfl, trivial⟩
        refine go_wantp rfl rfl rfl hg_3 rfl rfl (o_move rfl) ?_
        obtain ⟨p5, hp_5, hp_3⟩ := bind_some hp_3
        refine go_two [(0, _), (3, _), (23, _)] 11 45 p5 (t := 34) ⟨rfl, rfl, rfl, trivial⟩ rfl (fun hg_5 hk5 => ?_) (fun hg_5 hk5 => ?_) ?_
        · replace hp_5 := cond_t hg_5 hp_5
          refine go_skip rfl rfl rfl hg_5 rfl rfl ?_
          refine go_skip rfl rfl rfl hg_5 rfl rfl ?_
          refine go_skip rfl rfl rfl hg_5 rfl rfl ?_
          refine go_skip rfl rfl rfl hg_5 rfl rfl ?_
          refine go_skip rfl rfl rfl hg_5 rfl rfl ?_
          refine go_skipu rfl rfl rfl rfl rfl ?_
          refine go_skipu rfl rfl rfl rfl rfl ?_
          refine go_skipu rfl rfl rfl rfl rfl ?_
          refine go_skipu rfl rfl rfl rfl rfl ?_
          refine go_skip rfl rfl rfl hg_5 rfl rfl ?_
          refine go_wantp rfl rfl rfl hg_3 rfl rfl (o_pickT rfl hg_5 rfl) ?_
          exact go_meet hk5 (congrArg (fun b => some (D.bool b)) (some_eq hp_5)) ⟨rfl, rfl, rfl, trivial⟩
        · replace hp_5 := cond_f hg_5 hp_5
          refine go_wantp rfl rfl rfl hg_5 rfl rfl (o_move rfl) ?_
          refine go_wantp rfl rfl rfl hg_5 rfl rfl (o_move rfl) ?_
          obtain ⟨c5, hx9, hp_5⟩ := bind_some hp_5
          refine go_wantp rfl rfl rfl hg_5 rfl rfl (o_index_m Tryz.runUnderlying9 rfl rfl hx9) ?_
          refine go_wantp rfl rfl rfl hg_5 rfl rfl (o_cmp rfl rfl rfl) ?_
          refine go_wantp rfl rfl rfl hg_5 rfl rfl (o_move rfl) ?_
          obtain ⟨p6, hp_6, hp_5⟩ := bind_some hp_5
          refine go_two [(0, _), (3, _), (23, _), (34, _)] 5 44 p6 (t := 39) ⟨rfl, rfl, rfl, rfl, trivial⟩ rfl (fun hg_6 hk6 => ?_) (fun hg_6 hk6 => ?_) ?_
          · replace hp_6 := cond_t hg_6 hp_6
            refine go_wantp rfl rfl rfl hg_6 rfl rfl (o_move rfl) ?_
            refine go_wantp rfl rfl rfl hg_6 rfl rfl (o_move rfl) ?_
            obtain ⟨c6, hx10, hp_6⟩ := bind_some hp_6
            refine go_wantp rfl rfl rfl hg_6 rfl rfl (o_index_m Tryz.runUnderlying9 rfl rfl hx10) ?_
            refine go_wantp rfl rfl rfl hg_6 rfl rfl (o_cmp rfl rfl rfl) ?_
            refine go_wantp rfl rfl rfl hg_5 rfl rfl (o_pickT rfl hg_6 rfl) ?_
            exact go_meet hk6 (congrArg (fun b => some (D.bool b)) (some_eq hp_6)) ⟨rfl, rfl, rfl, rfl, trivial⟩
          · replace hp_6 := cond_f hg_6 hp_6
            refine go_skip rfl rfl rfl hg_6 rfl rfl ?_
            refine go_skip rfl rfl rfl hg_6 rfl rfl ?_
            refine go_skip rfl rfl rfl hg_6 rfl rfl ?_
            refine go_skip rfl rfl rfl hg_6 rfl rfl ?_
            refine go_wantp rfl rfl rfl hg_5 rfl rfl (o_pickF rfl hg_6 rfl) ?_
            exact go_meet hk6 (congrArg (fun b => some (D.bool b)) (some_eq hp_6)) ⟨rfl, rfl, rfl, rfl, trivial⟩
          refine go_wantp rfl rfl rfl hg_3 rfl rfl (o_pickF rfl hg_5 rfl) ?_
          exact go_meet hk5 (congrArg (fun b => some (D.bool b)) (some_eq hp_5)) ⟨rfl, rfl, rfl, trivial⟩
        refine go_p rfl rfl rfl (o_pickT rfl hg_3 rfl) ?_
        exact go_meet hk3 (congrArg (fun b => some (D.bool b)) (some_eq hp_3)) ⟨rfl, rfl, trivial⟩
      · replace hp_3 := cond_f hg_3 hp_3
        refine go_skip rfl rfl rfl hg_3 rfl rfl ?_
        refine go_skip rfl rfl rfl hg_3 rfl rfl ?_
        refine go_skip rfl rfl rfl hg_3 rfl rfl ?_
        refine go_skip rfl rfl rfl hg_3 rfl rfl ?_
        refine go_skip rfl rfl rfl hg_3 rfl rfl ?_
        refine go_skipu rfl rfl rfl rfl rfl ?_
        refine go_skipu rfl rfl rfl rfl rfl ?_
        refine go_skipu rfl rfl rfl rfl rfl ?_
        refine go_skipu rfl rfl rfl rfl rfl ?_
        refine go_skip rfl rfl rfl hg_3 rfl rfl ?_
        refine go_skip rfl rfl rfl hg_3 rfl rfl ?_
        refine go_skipu rfl rfl rfl rfl rfl ?_
        refine go_skipu rfl rfl rfl rfl rfl ?_
        refine go_skipu rfl rfl rfl rfl rfl ?_
        refine go_skipu rfl rfl rfl rfl rfl ?_
        refine go_skipu rfl rfl rfl rfl rfl ?_
        refine go_skipu rfl rfl rfl rfl rfl ?_
        refine go_skipu rfl rfl rfl rfl rfl ?_
        refine go_skipu rfl rfl rfl rfl rfl ?_
        refine go_skipu rfl rfl rfl rfl rfl ?_
        refine go_skipu rfl rfl rfl rfl rfl ?_
        refine go_skip rfl rfl rfl hg_3 rfl rfl ?_
        refine go_p rfl rfl rfl (o_pickF rfl hg_3 rfl) ?_
        exact go_meet hk3 (congrArg (fun b => some (D.bool b)) (some_eq hp_3)) ⟨rfl, rfl, trivial⟩
      refine go_nil ?_
      refine g_cond rfl (fun hc2 => ?_) (fun hc2 => ?_)
      · replace hj1 := cond_t hc2 hj1
        refine g_skip ?_
        refine g_block ?_
        refine g_region ?_
        refine go_p rfl rfl rfl (o_move rfl) ?_
        obtain ⟨hg11, hj1⟩ := grd_some hj1
        refine go_p rfl rfl rfl (o_add rfl rfl (i64_id hg11)) ?_
        refine go_p rfl rfl rfl (o_assign rfl) ?_
        refine go_nil ?_
        exact ⟨_, (), hj1, ⟨rfl, trivial⟩, ⟨rfl, trivial⟩, [], rfl⟩
      · replace hj1 := cond_f hc2 hj1
        refine g_exit ?_
        exact ⟨_, (), some_eq hj1, ⟨rfl, trivial⟩, trivial, [], rfl⟩
    · rintro n1 _ hst
      subst hst
      refine k_norm (L' := [(3, .i64 n1)]) (ms' := []) rfl rfl ?_
      refine g_seq ?_
      refine g_region ?_
      refine go_p rfl rfl rfl (o_move rfl) ?_
      refine go_p rfl rfl rfl (o_assign rfl) ?_
      refine go_nil ?_
      refine g_ret ?_
      exact retK (ret_one' rfl (ret_tmp rfl) (perm_drop _)) (congrArg (fun (p : Int) => (.i64 p : D)) (some_eq hm1))
def m_syntagmaref03_In_l1 (s1 : (List UInt8)) (l1 : (List (List UInt8))) : Nat → Int → Option (Out Bool Unit)
  | 0, _ => none
  | n + 1, i1 =>
    bif (decide (i1 < (l1.length : Int))) then
      (idx l1 i1).bind fun x1 =>
      bif (decide ((x1 : List UInt8) = s1)) then
        some (Out.ret true)
      else
        grd (InR (i1 + 1)) <|
        m_syntagmaref03_In_l1 s1 l1 n (i1 + 1)
    else
      some (Out.go (()))
def m_syntagmaref03_In (s1 : (List UInt8)) (l1 : (List (List UInt8))) : Option Bool :=
  ((m_syntagmaref03_In_l1 s1 l1 FU 0 : Option (Out Bool Unit))).bind (fun oo => oo.on (fun r1 => some r1) (fun _ =>
  some false))
theorem w_syntagmaref03_In {s1 : (List UInt8)} {l1 : (List (List UInt8))} {r_1 : Bool} (hm : m_syntagmaref03_In s1 l1 = some r_1) : Fn0 Tryz.prog 167 [.str s1, .list 1 D.str l1] (.bool r_1) := by
  unfold m_syntagmaref03_In at hm
  refine fn_intro Tryz.func167 rfl Tryz.ntmps167 rfl fun H0 fr w0 => ?_
  refine g_seq ?_
  refine g_region ?_
  refine go_p rfl rfl rfl (o_assign rfl) ?_
  refine go_nil ?_
  refine g_seq ?_
  refine g_seq ?_
  refine g_region ?_
  refine go_p rfl rfl rfl (o_assign rfl) ?_
  refine go_nil ?_
  obtain ⟨o_1, hj1, hm1⟩ := bind_some hm
  refine g_cut_m [] [] (fun (st : Unit) (hid : Unit) => match st, hid with | _, _ => []) (fun F (st : Unit) (hid : Unit) => match st, hid with | _, _ => []) (fun st => Out.go (st) = o_1) trivial trivial ?_ ?_
  · skip
    refine g_block ?_
    refine g_loop_m [(0, _), (1, _)] [] (fun (st : Int) (hid : Unit) => match st, hid with | i1, _ => [(5, .i64 i1)]) (fun F (st : Int) (hid : Unit) => match st, hid with | i1, _ => []) () hj1 (fun _ => rfl) ⟨rfl, rfl, trivial⟩ trivial ⟨rfl, trivial⟩ rfl ?_
    rintro n i1 _ hj1
    rw [m_syntagmaref03_In_l1] at hj1
    refine g_norm (L' := [(5, .i64 i1), (0, _), (1, _)]) (ms' := []) rfl rfl ?_
    refine g_seq ?_
    refine g_seq ?_
    refine g_region ?_
    refine go_p rfl rfl rfl (o_move rfl) ?_
    refine go_p rfl rfl rfl (o_move rfl) ?_
    refine go_p rfl rfl rfl (o_len Tryz.runUnderlying181 rfl) ?_
    refine go_p rfl rfl rfl (o_cmp rfl rfl rfl) ?_
    refine go_nil ?_
    refine g_cond rfl (fun hc1 => ?_) (fun hc1 => ?_)
    · replace hj1 := cond_t hc1 hj1
      refine g_skip ?_
      refine g_seq ?_
      refine g_block ?_
      refine g_seq ?_
      refine g_region ?_
      refine go_p rfl rfl rfl (o_move rfl) ?_
      refine go_p rfl rfl rfl (o_move rfl) ?_
      obtain ⟨x1, hx1, hj1⟩ := bind_some hj1
      refine go_p rfl rfl rfl (o_indexAddr_m Tryz.runUnderlying181 Tryz.sizeOf9 rfl rfl hx1) ?_
      refine go_p rfl rfl rfl (o_load Tryz.isAgg9 rfl rfl) ?_
      refine go_p rfl rfl rfl (o_move rfl) ?_
      refine go_p rfl rfl rfl (o_cmps rfl rfl rfl) ?_
      refine go_nil ?_
      refine g_cond rfl (fun hc2 => ?_) (fun hc2 => ?_)
      · replace hj1 := cond_t hc2 hj1
        refine g_seq ?_
        refine g_region ?_
        refine go_p rfl rfl rfl (o_assign rfl) ?_
        refine go_nil ?_
        refine g_ret ?_
        obtain rfl := some_eq hj1
        replace hm1 := on_ret hm1
        exact retK (ret_one' rfl (ret_tmp rfl) (perm_drop _)) (congrArg (fun (p : Bool) => (.bool p : D)) (some_eq hm1))
      · replace hj1 := cond_f hc2 hj1
        refine g_skip ?_
        refine g_region ?_
        refine go_p rfl rfl rfl (o_move rfl) ?_
        obtain ⟨hg2, hj1⟩ := grd_some hj1
        refine go_p rfl rfl rfl (o_add rfl rfl (i64_id hg2)) ?_
        refine go_p rfl rfl rfl (o_assign rfl) ?_
        refine go_nil ?_
        exact ⟨_, (), hj1, ⟨rfl, trivial⟩, ⟨rfl, rfl, trivial⟩, [], rfl⟩
    · replace hj1 := cond_f hc1 hj1
      refine g_exit ?_
      exact ⟨_, (), some_eq hj1, trivial, trivial, [], rfl⟩
  · rintro _ _ hst
    subst hst
    replace hm1 := on_go hm1
    refine k_norm (L' := []) (ms' := []) rfl rfl ?_
    refine g_seq ?_
    refine g_region ?_
    refine go_p rfl rfl rfl (o_assign rfl) ?_
    refine go_nil ?_
    refine g_ret ?_
    exact retK (ret_one' rfl (ret_tmp rfl) (perm_drop _)) (congrArg (fun (p : Bool) => (.bool p : D)) (some_eq hm1))
def m_syntagmaref03_Keywords  : Option (List (List UInt8)) :=
  some [([102, 117, 110] : List UInt8), ([108, 101, 116] : List UInt8), ([114, 101, 99] : List UInt8), ([105, 110] : List UInt8), ([105, 102] : List UInt8), ([116, 104, 101, 110] : List UInt8), ([101, 108, 115, 101] : List UInt8), ([99, 97, 115, 101] : List UInt8), ([111, 102] : List UInt8), ([101, 110, 100] : List UInt8), ([116, 114, 117, 101] : List UInt8), ([102, 97, 108, 115, 101] : List UInt8), ([99, 104, 101, 99, 107] : List UInt8), ([97, 115, 107] : List UInt8), ([116, 111, 112] : List UInt8), ([98, 111, 116] : List UInt8), ([105, 110, 116] : List UInt8), ([98, 111, 111, 108] : List UInt8), ([115, 116, 114, 105, 110, 103] : List UInt8), ([109, 117] : List UInt8)]
theorem w_syntagmaref03_Keywords  {r_1 : (List (List UInt8))} (hm : m_syntagmaref03_Keywords = some r_1) : Fn0 Tryz.prog 168 [] (.list 1 D.str r_1) := by
  unfold m_syntagmaref03_Keywords at hm
  refine fn_intro Tryz.func168 rfl Tryz.ntmps168 rfl fun H0 fr w0 => ?_
  refine g_seq ?_
  refine g_region ?_
  refine go_p rfl rfl rfl (o_assign rfl) ?_
  refine go_conv (nilE (i := 0) (sz := 1) (f := D.str) rfl).refines ?_
  refine go_nil ?_
  refine g_seq ?_
  refine g_region ?_
  refine go_p rfl rfl rfl (o_buildSlice (xs := [_, _, _, _, _, _, _, _, _, _, _, _, _, _, _, _, _, _, _, _]) (f := D.str) (l := [_, _, _, _, _, _, _, _, _, _, _, _, _, _, _, _, _, _, _, _]) Tryz.runUnderlying181 Tryz.sizeOf9 Tryz.zeroValue9 rfl rfl rfl (fun _ => ⟨rfl, rfl, rfl⟩) rfl) ?_
  refine go_p rfl rfl rfl (o_assign rfl) ?_
  refine go_nil ?_
  refine g_ret ?_
  exact retK (ret_one' rfl (ret_tmp rfl) (perm_drop _)) (congrArg (fun (p : (List (List UInt8))) => (.list 1 D.str p : D)) (some_eq hm))
def m_syntagmaref03_Keyword (s1 : (List UInt8)) : Option Bool :=
  (m_syntagmaref03_Keywords).bind fun x1 =>
  (m_syntagmaref03_In s1 x1).bind fun x2 =>
  some x2
theorem w_syntagmaref03_Keyword {s1 : (List UInt8)} {r_1 : Bool} (hm : m_syntagmaref03_Keyword s1 = some r_1) : Fn0 Tryz.prog 140 [.str s1] (.bool r_1) := by
  unfold m_syntagmaref03_Keyword at hm
  refine fn_intro Tryz.func140 rfl Tryz.ntmps140 rfl fun H0 fr w0 => ?_
  refine g_seq ?_
  refine g_region ?_
  refine go_p rfl rfl rfl (o_assign rfl) ?_
  refine go_nil ?_
  refine g_seq ?_
  refine g_region ?_
  refine go_p rfl rfl rfl (o_move rfl) ?_
  obtain ⟨x1, hx1, hm⟩ := bind_some hm
  refine go_p rfl rfl rfl (o_call0 Tryz.call168 rfl (w_syntagmaref03_Keywords hx1)) ?_
  obtain ⟨x2, hx2, hm⟩ := bind_some hm
  refine go_p rfl rfl rfl (o_call0 Tryz.call167 rfl (w_syntagmaref03_In hx2)) ?_
  refine go_p rfl rfl rfl (o_assign rfl) ?_
  refine go_nil ?_
  refine g_ret ?_
  exact retK (ret_one' rfl (ret_tmp rfl) (perm_drop _)) (congrArg (fun (p : Bool) => (.bool p : D)) (some_eq hm))
def m_syntagmaref03_Name (s1 : (List UInt8)) : Option Bool :=
  (bif ((decide (0 < (s1.length : Int))) && (decide ((s1.length : Int) ≤ 20))) then ((m_syntagmaref03_Word s1).bind fun x1 =>
  some (decide (x1 = (s1.length : Int)))) else (some false)).bind fun p1 =>
  (bif p1 then ((idx s1 0).bind fun c1 =>
  (m_syntagmaref03_small c1).bind fun x2 =>
  some x2) else (some false)).bind fun p2 =>
  (bif p2 then ((m_syntagmaref03_Keyword s1).bind fun x3 =>
  some (!x3)) else (some false)).bind fun p3 =>
  some p3
theorem w_syntagmaref03_Name {s1 : (List UInt8)} {r_1 : Bool} (hm : m_syntagmaref03_Name s1 = some r_1) : Fn0 Tryz.prog 94 [.str s1] (.bool r_1) := by
  unfold m_syntagmaref03_Name at hm
  refine fn_intro Tryz.func94 rfl Tryz.ntmps94 rfl fun H0 fr w0 => ?_
  refine g_seq ?_
  refine g_region ?_
  refine go_p rfl rfl rfl (o_assign rfl) ?_
  refine go_nil ?_
  refine g_seq ?_
  refine g_region ?_
  refine go_p rfl rfl rfl (o_move rfl) ?_
  refine go_p rfl rfl rfl (o_len_str Tryz.runUnderlying9 rfl) ?_
  refine go_p rfl rfl rfl (o_cmp rfl rfl rfl) ?_
  refine go_p rfl rfl rfl (o_move rfl) ?_
  apply go_and [(0, _)] 4 10 (t := 6) ⟨rfl, trivial⟩ rfl
  · intro hg_1 hk1
    refine go_wantp rfl rfl rfl hg_1 rfl rfl (o_move rfl) ?_
    refine go_wantp rfl rfl rfl hg_1 rfl rfl (o_len_str Tryz.runUnderlying9 rfl) ?_
    refine go_wantp rfl rfl rfl hg_1 rfl rfl (o_cmp rfl rfl rfl) ?_
    refine go_p rfl rfl rfl (o_pickT rfl hg_1 rfl) ?_
    exact go_meet hk1 (rfl) ⟨rfl, trivial⟩
  · intro hg_1 hk1
    refine go_skip rfl rfl rfl hg_1 rfl rfl ?_
    refine go_skip rfl rfl rfl hg_1 rfl rfl ?_
    refine go_skip rfl rfl rfl hg_1 rfl rfl ?_
    refine go_p rfl rfl rfl (o_pickF rfl hg_1 rfl) ?_
    exact go_meet hk1 (rfl) ⟨rfl, trivial⟩
  refine go_p rfl rfl rfl (o_move rfl) ?_
  obtain ⟨p1, hp_2, hm⟩ := bind_some hm
  refine go_two [(0, _)] 6 17 p1 (t := 11) ⟨rfl, trivial⟩ rfl (fun hg_2 hk2 => ?_) (fun hg_2 hk2 => ?_) ?_
  · replace hp_2 := cond_t hg_2 hp_2
    refine go_wantp rfl rfl rfl hg_2 rfl rfl (o_move rfl) ?_
    obtain ⟨x1, hx1, hp_2⟩ := bind_some hp_2
    refine go_wantp rfl rfl rfl hg_2 rfl rfl (o_call0 Tryz.call138 rfl (w_syntagmaref03_Word hx1)) ?_
    refine go_wantp rfl rfl rfl hg_2 rfl rfl (o_move rfl) ?_
    refine go_wantp rfl rfl rfl hg_2 rfl rfl (o_len_str Tryz.runUnderlying9 rfl) ?_
    refine go_wantp rfl rfl rfl hg_2 rfl rfl (o_cmp rfl rfl rfl) ?_
    refine go_p rfl rfl rfl (o_pickT rfl hg_2 rfl) ?_
    exact go_meet hk2 (congrArg (fun b => some (D.bool b)) (some_eq hp_2)) ⟨rfl, trivial⟩
  · replace hp_2 := cond_f hg_2 hp_2
    refine go_skip rfl rfl rfl hg_2 rfl rfl ?_
    refine go_skip rfl rfl rfl hg_2 rfl rfl ?_
    refine go_skip rfl rfl rfl hg_2 rfl rfl ?_
    refine go_skip rfl rfl rfl hg_2 rfl rfl ?_
    refine go_skip rfl rfl rfl hg_2 rfl rfl ?_
    refine go_p rfl rfl rfl (o_pickF rfl hg_2 rfl) ?_
    exact go_meet hk2 (congrArg (fun b => some (D.bool b)) (some_eq hp_2)) ⟨rfl, trivial⟩
  refine go_p rfl rfl rfl (o_move rfl) ?_
  obtain ⟨p2, hp_3, hm⟩ := bind_some hm
  refine go_two [(0, _)] 4 22 p2 (t := 18) ⟨rfl, trivial⟩ rfl (fun hg_3 hk3 => ?_) (fun hg_3 hk3 => ?_) ?_
  · replace hp_3 := cond_t hg_3 hp_3
    refine go_wantp rfl rfl rfl hg_3 rfl rfl (o_move rfl) ?_
    obtain ⟨c1, hx2, hp_3⟩ := bind_some hp_3
    refine go_wantp rfl rfl rfl hg_3 rfl rfl (o_index_m Tryz.runUnderlying9 rfl rfl hx2) ?_
    obtain ⟨x2, hx3, hp_3⟩ := bind_some hp_3
    refine go_wantp rfl rfl rfl hg_3 rfl rfl (o_call0 Tryz.call139 rfl (w_syntagmaref03_small hx3)) ?_
    refine go_p rfl rfl rfl (o_pickT rfl hg_3 rfl) ?_
    exact go_meet hk3 (congrArg (fun b => some (D.bool b)) (some_eq hp_3)) ⟨rfl, trivial⟩
  · replace hp_3 := cond_f hg_3 hp_3
    refine go_skip rfl rfl rfl hg_3 rfl rfl ?_
    refine go_skip rfl rfl rfl hg_3 rfl rfl ?_
    refine go_skip rfl rfl rfl hg_3 rfl rfl ?_
    refine go_p rfl rfl rfl (o_pickF rfl hg_3 rfl) ?_
    exact go_meet hk3 (congrArg (fun b => some (D.bool b)) (some_eq hp_3)) ⟨rfl, trivial⟩
  refine go_p rfl rfl rfl (o_move rfl) ?_
  obtain ⟨p3, hp_4, hm⟩ := bind_some hm
  refine go_two [] 4 27 p3 (t := 23) trivial rfl (fun hg_4 hk4 => ?_) (fun hg_4 hk4 => ?_) ?_
  · replace hp_4 := cond_t hg_4 hp_4
    refine go_wantp rfl rfl rfl hg_4 rfl rfl (o_move rfl) ?_
    obtain ⟨x3, hx4, hp_4⟩ := bind_some hp_4
    refine go_wantp rfl rfl rfl hg_4 rfl rfl (o_call0 Tryz.call140 rfl (w_syntagmaref03_Keyword hx4)) ?_
    refine go_wantp rfl rfl rfl hg_4 rfl rfl (o_not rfl) ?_
    refine go_p rfl rfl rfl (o_pickT rfl hg_4 rfl) ?_
    exact go_meet hk4 (congrArg (fun b => some (D.bool b)) (some_eq hp_4)) trivial
  · replace hp_4 := cond_f hg_4 hp_4
    refine go_skip rfl rfl rfl hg_4 rfl rfl ?_
    refine go_skip rfl rfl rfl hg_4 rfl rfl ?_
    refine go_skip rfl rfl rfl hg_4 rfl rfl ?_
    refine go_p rfl rfl rfl (o_pickF rfl hg_4 rfl) ?_
    exact go_meet hk4 (congrArg (fun b => some (D.bool b)) (some_eq hp_4)) trivial
  refine go_p rfl rfl rfl (o_assign rfl) ?_
  refine go_nil ?_
  refine g_ret ?_
  exact retK (ret_one' rfl (ret_tmp rfl) (perm_drop _)) (congrArg (fun (p : Bool) => (.bool p : D)) (some_eq hm))
def m_syntagmaref03_Tag (s1 : (List UInt8)) : Option Bool :=
  (bif ((decide (0 < (s1.length : Int))) && (decide ((s1.length : Int) ≤ 20))) then ((m_syntagmaref03_Word s1).bind fun x1 =>
  some (decide (x1 = (s1.length : Int)))) else (some false)).bind fun p1 =>
  (bif p1 then ((idx s1 0).bind fun c1 =>
  (m_syntagmaref03_great c1).bind fun x2 =>
  some x2) else (some false)).bind fun p2 =>
  some p2
theorem w_syntagmaref03_Tag {s1 : (List UInt8)} {r_1 : Bool} (hm : m_syntagmaref03_Tag s1 = some r_1) : Fn0 Tryz.prog 95 [.str s1] (.bool r_1) := by
  unfold m_syntagmaref03_Tag at hm
  refine fn_intro Tryz.func95 rfl Tryz.ntmps95 rfl fun H0 fr w0 => ?_
  refine g_seq ?_
  refine g_region ?_
  refine go_p rfl rfl rfl (o_assign rfl) ?_
  refine go_nil ?_
  refine g_seq ?_
  refine g_region ?_
  refine go_p rfl rfl rfl (o_move rfl) ?_
  refine go_p rfl rfl rfl (o_len_str Tryz.runUnderlying9 rfl) ?_
  refine go_p rfl rfl rfl (o_cmp rfl rfl rfl) ?_
  refine go_p rfl rfl rfl (o_move rfl) ?_
  apply go_and [(0, _)] 4 10 (t := 6) ⟨rfl, trivial⟩ rfl
  · intro hg_1 hk1
    refine go_wantp rfl rfl rfl hg_1 rfl rfl (o_move rfl) ?_
    refine go_wantp rfl rfl rfl hg_1 rfl rfl (o_len_str Tryz.runUnderlying9 rfl) ?_
    refine go_wantp rfl rfl rfl hg_1 rfl rfl (o_cmp rfl rfl rfl) ?_
    refine go_p rfl rfl rfl (o_pickT rfl hg_1 rfl) ?_
    exact go_meet hk1 (rfl) ⟨rfl, trivial⟩
  · intro hg_1 hk1
    refine go_skip rfl rfl rfl hg_1 rfl rfl ?_
    refine go_skip rfl rfl rfl hg_1 rfl rfl ?_
    refine go_skip rfl rfl rfl hg_1 rfl rfl ?_
    refine go_p rfl rfl rfl (o_pickF rfl hg_1 rfl) ?_
    exact go_meet hk1 (rfl) ⟨rfl, trivial⟩
  refine go_p rfl rfl rfl (o_move rfl) ?_
  obtain ⟨p1, hp_2, hm⟩ := bind_some hm
  refine go_two [(0, _)] 6 17 p1 (t := 11) ⟨rfl, trivial⟩ rfl (fun hg_2 hk2 => ?_) (fun hg_2 hk2 => ?_) ?_
  · replace hp_2 := cond_t hg_2 hp_2
    refine go_wantp rfl rfl rfl hg_2 rfl rfl (o_move rfl) ?_
    obtain ⟨x1, hx1, hp_2⟩ := bind_some hp_2
    refine go_wantp rfl rfl rfl hg_2 rfl rfl (o_call0 Tryz.call138 rfl (w_syntagmaref03_Word hx1)) ?_
    refine go_wantp rfl rfl rfl hg_2 rfl rfl (o_move rfl) ?_
    refine go_wantp rfl rfl rfl hg_2 rfl rfl (o_len_str Tryz.runUnderlying9 rfl) ?_
    refine go_wantp rfl rfl rfl hg_2 rfl rfl (o_cmp rfl rfl rfl) ?_
    refine go_p rfl rfl rfl (o_pickT rfl hg_2 rfl) ?_
    exact go_meet hk2 (congrArg (fun b => some (D.bool b)) (some_eq hp_2)) ⟨rfl, trivial⟩
  · replace hp_2 := cond_f hg_2 hp_2
    refine go_skip rfl rfl rfl hg_2 rfl rfl ?_
    refine go_skip rfl rfl rfl hg_2 rfl rfl ?_
    refine go_skip rfl rfl rfl hg_2 rfl rfl ?_
    refine go_skip rfl rfl rfl hg_2 rfl rfl ?_
    refine go_skip rfl rfl rfl hg_2 rfl rfl ?_
    refine go_p rfl rfl rfl (o_pickF rfl hg_2 rfl) ?_
    exact go_meet hk2 (congrArg (fun b => some (D.bool b)) (some_eq hp_2)) ⟨rfl, trivial⟩
  refine go_p rfl rfl rfl (o_move rfl) ?_
  obtain ⟨p2, hp_3, hm⟩ := bind_some hm
  refine go_two [] 4 22 p2 (t := 18) trivial rfl (fun hg_3 hk3 => ?_) (fun hg_3 hk3 => ?_) ?_
  · replace hp_3 := cond_t hg_3 hp_3
    refine go_wantp rfl rfl rfl hg_3 rfl rfl (o_move rfl) ?_
    obtain ⟨c1, hx2, hp_3⟩ := bind_some hp_3
    refine go_wantp rfl rfl rfl hg_3 rfl rfl (o_index_m Tryz.runUnderlying9 rfl rfl hx2) ?_
    obtain ⟨x2, hx3, hp_3⟩ := bind_some hp_3
    refine go_wantp rfl rfl rfl hg_3 rfl rfl (o_call0 Tryz.call141 rfl (w_syntagmaref03_great hx3)) ?_
    refine go_p rfl rfl rfl (o_pickT rfl hg_3 rfl) ?_
    exact go_meet hk3 (congrArg (fun b => some (D.bool b)) (some_eq hp_3)) trivial
  · replace hp_3 := cond_f hg_3 hp_3
    refine go_skip rfl rfl rfl hg_3 rfl rfl ?_
    refine go_skip rfl rfl rfl hg_3 rfl rfl ?_
    refine go_skip rfl rfl rfl hg_3 rfl rfl ?_
    refine go_p rfl rfl rfl (o_pickF rfl hg_3 rfl) ?_
    exact go_meet hk3 (congrArg (fun b => some (D.bool b)) (some_eq hp_3)) trivial
  refine go_p rfl rfl rfl (o_assign rfl) ?_
  refine go_nil ?_
  refine g_ret ?_
  exact retK (ret_one' rfl (ret_tmp rfl) (perm_drop _)) (congrArg (fun (p : Bool) => (.bool p : D)) (some_eq hm))
def m_syntagmaref24_edges_l1 (l1 : (List AutoEdge)) (tags1 : Bool) : Nat → Int → Option (Out Bool Unit)
  | 0, _ => none
  | n + 1, i1 =>
    bif (decide (i1 < (l1.length : Int))) then
      (idx l1 i1).bind fun x1 =>
      (bif (!tags1) then ((m_syntagmaref03_Name x1.name).bind fun x2 =>
      some (!x2)) else (some false)).bind fun p1 =>
      (bif p1 then (some true) else ((bif tags1 then ((m_syntagmaref03_Tag x1.name).bind fun x3 =>
      some (!x3)) else (some false)).bind fun p3 =>
      some p3)).bind fun p2 =>
      (bif p2 then (some true) else ((bif (decide (0 < i1)) then (grd (InR (i1 - 1)) <|
      (idx l1 (i1 - 1)).bind fun x4 =>
      some (!Op.bytesLess x4.name x1.name)) else (some false)).bind fun p5 =>
      some p5)).bind fun p4 =>
      bif p4 then
        some (Out.ret false)
      else
        grd (InR (i1 + 1)) <|
        m_syntagmaref24_edges_l1 l1 tags1 n (i1 + 1)
    else
      some (Out.go (()))
def m_syntagmaref24_edges (l1 : (List AutoEdge)) (tags1 : Bool) : Option Bool :=
  ((m_syntagmaref24_edges_l1 l1 tags1 FU 0 : Option (Out Bool Unit))).bind (fun oo => oo.on (fun r1 => some r1) (fun _ =>
  some (decide ((l1.length : Int) ≤ 30))))
theorem w_syntagmaref24_edges {l1 : (List AutoEdge)} {tags1 : Bool} {r_1 : Bool} (hm : m_syntagmaref24_edges l1 tags1 = some r_1) : Fn0 Tryz.prog 68 [.list 2 AutoEdge.d l1, .bool tags1] (.bool r_1) := by
  unfold m_syntagmaref24_edges at hm
  refine fn_intro Tryz.func68 rfl Tryz.ntmps68 rfl fun H0 fr w0 => ?_
  refine g_seq ?_
  refine g_region ?_
  refine go_p rfl rfl rfl (o_assign rfl) ?_
  refine go_nil ?_
  refine g_seq ?_
  refine g_seq ?_
  refine g_region ?_
  refine go_p rfl rfl rfl (o_assign rfl) ?_
  refine go_nil ?_
  obtain ⟨o_1, hj1, hm1⟩ := bind_some hm
  refine g_cut_m [(0, _)] [] (fun (st : Unit) (hid : Unit) => match st, hid with | _, _ => []) (fun F (st : Unit) (hid : Unit) => match st, hid with | _, _ => []) (fun st => Out.go (st) = o_1) ⟨rfl, trivial⟩ trivial ?_ ?_
  · skip
    refine g_block ?_
    refine g_loop_m [(0, _), (1, _)] [] (fun (st : Int) (hid : Unit) => match st, hid with | i1, _ => [(5, .i64 i1)]) (fun F (st : Int) (hid : Unit) => match st, hid with | i1, _ => []) () hj1 (fun _ => rfl) ⟨rfl, rfl, trivial⟩ trivial ⟨rfl, trivial⟩ rfl ?_
    rintro n i1 _ hj1
    rw [m_syntagmaref24_edges_l1] at hj1
    refine g_norm (L' := [(5, .i64 i1), (0, _), (1, _)]) (ms' := []) rfl rfl ?_
    refine g_seq ?_
    refine g_seq ?_
    refine g_region ?_
    refine go_p rfl rfl rfl (o_move rfl) ?_
    refine go_p rfl rfl rfl (o_move rfl) ?_
    refine go_p rfl rfl rfl (o_len Tryz.runUnderlying50 rfl) ?_
    refine go_p rfl rfl rfl (o_cmp rfl rfl rfl) ?_
    refine go_nil ?_
    refine g_cond rfl (fun hc1 => ?_) (fun hc1 => ?_)
    · replace hj1 := cond_t hc1 hj1
      refine g_skip ?_
      refine g_seq ?_
      refine g_block ?_
      refine g_seq ?_
      refine g_region ?_
      refine go_p rfl rfl rfl (o_move rfl) ?_
      refine go_p rfl rfl rfl (o_move rfl) ?_
      obtain ⟨x1, hx1, hj1⟩ := bind_some hj1
      refine go_p rfl rfl rfl (o_indexAddr_m Tryz.runUnderlying50 Tryz.sizeOf62 rfl rfl hx1) ?_
      refine go_p rfl rfl rfl (o_fieldAddr fi_62_0 rfl rfl rfl) ?_
      refine go_p rfl rfl rfl (o_load Tryz.isAgg9 rfl rfl) ?_
      refine go_p rfl rfl rfl (o_assign rfl) ?_
      refine go_nil ?_
      refine g_seq ?_
      refine g_region ?_
      refine go_p rfl rfl rfl (o_move rfl) ?_
      refine go_p rfl rfl rfl (o_not rfl) ?_
      refine go_p rfl rfl rfl (o_move rfl) ?_
      obtain ⟨p1, hp_1, hj1⟩ := bind_some hj1
      refine go_two [(0, _), (1, _), (5, _), (6, _)] 4 24 p1 (t := 20) ⟨rfl, rfl, rfl, rfl, trivial⟩ rfl (fun hg_1 hk1 => ?_) (fun hg_1 hk1 => ?_) ?_
      · replace hp_1 := cond_t hg_1 hp_1
        refine go_wantp rfl rfl rfl hg_1 rfl rfl (o_move rfl) ?_
        obtain ⟨x2, hx2, hp_1⟩ := bind_some hp_1
        refine go_wantp rfl rfl rfl hg_1 rfl rfl (o_call0 Tryz.call94 rfl (w_syntagmaref03_Name hx2)) ?_
        refine go_wantp rfl rfl rfl hg_1 rfl rfl (o_not rfl) ?_
        refine go_p rfl rfl rfl (o_pickT rfl hg_1 rfl) ?_
        exact go_meet hk1 (congrArg (fun b => some (D.bool b)) (some_eq hp_1)) ⟨rfl, rfl, rfl, rfl, trivial⟩
      · replace hp_1 := cond_f hg_1 hp_1
        refine go_skip rfl rfl rfl hg_1 rfl rfl ?_
        refine go_skip rfl rfl rfl hg_1 rfl rfl ?_
        refine go_skip rfl rfl rfl hg_1 rfl rfl ?_
        refine go_p rfl rfl rfl (o_pickF rfl hg_1 rfl) ?_
        exact go_meet hk1 (congrArg (fun b => some (D.bool b)) (some_eq hp_1)) ⟨rfl, rfl, rfl, rfl, trivial⟩
      refine go_p rfl rfl rfl (o_move rfl) ?_
      obtain ⟨p2, hp_2, hj1⟩ := bind_some hj1
      refine go_two [(0, _), (1, _), (5, _), (6, _)] 7 32 p2 (t := 25) ⟨rfl, rfl, rfl, rfl, trivial⟩ rfl (fun hg_2 hk2 => ?_) (fun hg_2 hk2 => ?_) ?_
      · replace hp_2 := cond_t hg_2 hp_2
        refine go_skip rfl rfl rfl hg_2 rfl rfl ?_
        refine go_skip rfl rfl rfl hg_2 rfl rfl ?_
        refine go_skipu rfl rfl rfl rfl rfl ?_
        refine go_skipu rfl rfl rfl rfl rfl ?_
        refine go_skipu rfl rfl rfl rfl rfl ?_
        refine go_skip rfl rfl rfl hg_2 rfl rfl ?_
        refine go_p rfl rfl rfl (o_pickT rfl hg_2 rfl) ?_
        exact go_meet hk2 (congrArg (fun b => some (D.bool b)) (some_eq hp_2)) ⟨rfl, rfl, rfl, rfl, trivial⟩
      · replace hp_2 := cond_f hg_2 hp_2
        refine go_wantp rfl rfl rfl hg_2 rfl rfl (o_move rfl) ?_
        refine go_wantp rfl rfl rfl hg_2 rfl rfl (o_move rfl) ?_
        obtain ⟨p3, hp_3, hp_2⟩ := bind_some hp_2
        refine go_two [(0, _), (1, _), (5, _), (6, _), (25, _)] 4 31 p3 (t := 27) ⟨rfl, rfl, rfl, rfl, rfl, trivial⟩ rfl (fun hg_3 hk3 => ?_) (fun hg_3 hk3 => ?_) ?_
        · replace hp_3 := cond_t hg_3 hp_3
          refine go_wantp rfl rfl rfl hg_3 rfl rfl (o_move rfl) ?_
          obtain ⟨x3, hx3, hp_3⟩ := bind_some hp_3
          refine go_wantp rfl rfl rfl hg_3 rfl rfl (o_call0 Tryz.call95 rfl (w_syntagmaref03_Tag hx3)) ?_
          refine go_wantp rfl rfl rfl hg_3 rfl rfl (o_not rfl) ?_
          refine go_wantp rfl rfl rfl hg_2 rfl rfl (o_pickT rfl hg_3 rfl) ?_
          exact go_meet hk3 (congrArg (fun b => some (D.bool b)) (some_eq hp_3)) ⟨rfl, rfl, rfl, rfl, rfl, trivial⟩
        · replace hp_3 := cond_f hg_3 hp_3
          refine go_skip rfl rfl rfl hg_3 rfl rfl ?_
          refine go_skip rfl rfl rfl hg_3 rfl rfl ?_
          refine go_skip rfl rfl rfl hg_3 rfl rfl ?_
          refine go_wantp rfl rfl rfl hg_2 rfl rfl (o_pickF rfl hg_3 rfl) ?_
          exact go_meet hk3 (congrArg (fun b => some (D.bool b)) (some_eq hp_3)) ⟨rfl, rfl, rfl, rfl, rfl, trivial⟩
        refine go_p rfl rfl rfl (o_pickF rfl hg_2 rfl) ?_
        exact go_meet hk2 (congrArg (fun b => some (D.bool b)) (some_eq hp_2)) ⟨rfl, rfl, rfl, rfl, trivial⟩
      refine go_p rfl rfl rfl (o_move rfl) ?_
      obtain ⟨p4, hp_4, hj1⟩ := bind_some hj1
      refine go_two [(0, _), (1, _), (5, _)] 13 46 p4 (t := 33) ⟨rfl, rfl, rfl, trivial⟩ rfl (fun hg_4 hk4 => ?_) (fun hg_4 hk4 => ?_) ?_
      · replace hp_4 := cond_t hg_4 hp_4
        refine go_skip rfl rfl rfl hg_4 rfl rfl ?_
        refine go_skip rfl rfl rfl hg_4 rfl rfl ?_
        refine go_skip rfl rfl rfl hg_4 rfl rfl ?_
        refine go_skipu rfl rfl rfl rfl rfl ?_
        refine go_skipu rfl rfl rfl rfl rfl ?_
        refine go_skipu rfl rfl rfl rfl rfl ?_
        refine go_skipu rfl rfl rfl rfl rfl ?_
        refine go_skipu rfl rfl rfl rfl rfl ?_
        refine go_skipu rfl rfl rfl rfl rfl ?_
        refine go_skipu rfl rfl rfl rfl rfl ?_
        refine go_skipu rfl rfl rfl rfl rfl ?_
        refine go_skip rfl rfl rfl hg_4 rfl rfl ?_
        refine go_p rfl rfl rfl (o_pickT rfl hg_4 rfl) ?_
        exact go_meet hk4 (congrArg (fun b => some (D.bool b)) (some_eq hp_4)) ⟨rfl, rfl, rfl, trivial⟩
      · replace hp_4 := cond_f hg_4 hp_4
        refine go_wantp rfl rfl rfl hg_4 rfl rfl (o_move rfl) ?_
        refine go_wantp rfl rfl rfl hg_4 rfl rfl (o_cmp rfl rfl rfl) ?_
        refine go_wantp rfl rfl rfl hg_4 rfl rfl (o_move rfl) ?_
        obtain ⟨p5, hp_5, hp_4⟩ := bind_some hp_4
        refine go_two [(0, _), (1, _), (5, _), (33, _)] 9 45 p5 (t := 36) ⟨rfl, rfl, rfl, rfl, trivial⟩ rfl (fun hg_5 hk5 => ?_) (fun hg_5 hk5 => ?_) ?_
        · replace hp_5 := cond_t hg_5 hp_5
          refine go_wantp rfl rfl rfl hg_5 rfl rfl (o_move rfl) ?_
          refine go_wantp rfl rfl rfl hg_5 rfl rfl (o_move rfl) ?_
          obtain ⟨hg4, hp_5⟩ := grd_some hp_5
          refine go_wantp rfl rfl rfl hg_5 rfl rfl (o_sub rfl rfl (i64_id hg4)) ?_
          obtain ⟨x4, hx5, hp_5⟩ := bind_some hp_5
          refine go_wantp rfl rfl rfl hg_5 rfl rfl (o_indexAddr_m Tryz.runUnderlying50 Tryz.sizeOf62 rfl rfl hx5) ?_
          refine go_wantp rfl rfl rfl hg_5 rfl rfl (o_fieldAddr fi_62_0 rfl rfl rfl) ?_
          refine go_wantp rfl rfl rfl hg_5 rfl rfl (o_load Tryz.isAgg9 rfl rfl) ?_
          refine go_wantp rfl rfl rfl hg_5 rfl rfl (o_move rfl) ?_
          refine go_wantp rfl rfl rfl hg_5 rfl rfl (o_cmps rfl rfl rfl) ?_
          refine go_wantp rfl rfl rfl hg_4 rfl rfl (o_pickT rfl hg_5 rfl) ?_
          exact go_meet hk5 (congrArg (fun b => some (D.bool b)) (some_eq hp_5)) ⟨rfl, rfl, rfl, rfl, trivial⟩
        · replace hp_5 := cond_f hg_5 hp_5
          refine go_skip rfl rfl rfl hg_5 rfl rfl ?_
          refine go_skip rfl rfl rfl hg_5 rfl rfl ?_
          refine go_skip rfl rfl rfl hg_5 rfl rfl ?_
          refine go_skip rfl rfl rfl hg_5 rfl rfl ?_
          refine go_skip rfl rfl rfl hg_5 rfl rfl ?_
          refine go_skip rfl rfl rfl hg_5 rfl rfl ?_
          refine go_skip rfl rfl rfl hg_5 rfl rfl ?_
          refine go_skip rfl rfl rfl hg_5 rfl rfl ?_
          refine go_wantp rfl rfl rfl hg_4 rfl rfl (o_pickF rfl hg_5 rfl) ?_
          exact go_meet hk5 (congrArg (fun b => some (D.bool b)) (some_eq hp_5)) ⟨rfl, rfl, rfl, rfl, trivial⟩
        refine go_p rfl rfl rfl (o_pickF rfl hg_4 rfl) ?_
        exact go_meet hk4 (congrArg (fun b => some (D.bool b)) (some_eq hp_4)) ⟨rfl, rfl, rfl, trivial⟩
      refine go_nil ?_
      refine g_cond rfl (fun hc2 => ?_) (fun hc2 => ?_)
      · replace hj1 := cond_t hc2 hj1
        refine g_seq ?_
        refine g_region ?_
        refine go_p rfl rfl rfl (o_assign rfl) ?_
        refine go_nil ?_
        refine g_ret ?_
        obtain rfl := some_eq hj1
        replace hm1 := on_ret hm1
        exact retK (ret_one' rfl (ret_tmp rfl) (perm_drop _)) (congrArg (fun (p : Bool) => (.bool p : D)) (some_eq hm1))
      · replace hj1 := cond_f hc2 hj1
        refine g_skip ?_
        refine g_region ?_
        refine go_p rfl rfl rfl (o_move rfl) ?_
        obtain ⟨hg6, hj1⟩ := grd_some hj1
        refine go_p rfl rfl rfl (o_add rfl rfl (i64_id hg6)) ?_
        refine go_p rfl rfl rfl (o_assign rfl) ?_
        refine go_nil ?_
        exact ⟨_, (), hj1, ⟨rfl, trivial⟩, ⟨rfl, rfl, trivial⟩, [], rfl⟩
    · replace hj1 := cond_f hc1 hj1
      refine g_exit ?_
      exact ⟨_, (), some_eq hj1, trivial, ⟨rfl, trivial⟩, [], rfl⟩
  · rintro _ _ hst
    subst hst
    replace hm1 := on_go hm1
    refine k_norm (L' := [(0, _)]) (ms' := []) rfl rfl ?_
    refine g_seq ?_
    refine g_region ?_
    refine go_p rfl rfl rfl (o_move rfl) ?_
    refine go_p rfl rfl rfl (o_len Tryz.runUnderlying50 rfl) ?_
    refine go_p rfl rfl rfl (o_cmp rfl rfl rfl) ?_
    refine go_p rfl rfl rfl (o_assign rfl) ?_
    refine go_nil ?_
    refine g_ret ?_
    exact retK (ret_one' rfl (ret_tmp rfl) (perm_drop _)) (congrArg (fun (p : Bool) => (.bool p : D)) (some_eq hm1))
def m_syntagmaref24_right_l1 (s1 : AutoState) : Nat → Int → Option (Out Bool Unit)
  | 0, _ => none
  | n + 1, i1 =>
    bif (decide (i1 < (s1.vars.length : Int))) then
      (idx s1.vars i1).bind fun x1 =>
      bif (decide (x1 < 0)) then (some (Out.ret false)) else ((idx s1.vars i1).bind fun x2 =>
      bif (decide (999 < x2)) then (some (Out.ret false)) else (bif (decide (0 < i1)) then (grd (InR (i1 - 1)) <|
      (idx s1.vars (i1 - 1)).bind fun x3 =>
      (idx s1.vars i1).bind fun x4 =>
      bif (decide (x4 ≤ x3)) then
        some (Out.ret false)
      else
        grd (InR (i1 + 1)) <|
        m_syntagmaref24_right_l1 s1 n (i1 + 1)) else (grd (InR (i1 + 1)) <|
      m_syntagmaref24_right_l1 s1 n (i1 + 1))))
    else
      some (Out.go (()))
def m_syntagmaref24_right_l2 (a1 : AutoAuto) (s1 : AutoState) (x5 : (List Int)) : Nat → Int → Option (Out Bool Unit)
  | 0, _ => none
  | n + 1, i2 =>
    bif (decide (i2 < (x5.length : Int))) then
      (idx x5 i2).bind fun x6 =>
      bif (decide (x6 < 0)) then (some (Out.ret false)) else ((idx x5 i2).bind fun x7 =>
      bif (decide ((a1.l.length : Int) ≤ x7)) then
        some (Out.ret false)
      else
        (idx x5 i2).bind fun x8 =>
        (idx a1.l x8).bind fun x9 =>
        bif ((x9.plus == s1.plus) == (s1.arrow && (decide (i2 = 0)))) then
          some (Out.ret false)
        else
          grd (InR (i2 + 1)) <|
          m_syntagmaref24_right_l2 a1 s1 x5 n (i2 + 1))
    else
      some (Out.go (()))
def m_syntagmaref24_right (a1 : AutoAuto) (s1 : AutoState) : Option Bool :=
  bif ((((s1.all && ((((((s1.int || s1.bool) || s1.str) || s1.arrow) || s1.rec_) || s1.tag) || (decide (0 < (s1.vars.length : Int))))) || ((!s1.arrow) && ((!decide (s1.dom = 0)) || (!decide (s1.cod = 0))))) || ((!s1.rec_) && (decide (0 < (s1.fields.length : Int))))) || ((!s1.tag) && (decide (0 < (s1.tags.length : Int))))) then
    some false
  else
    ((m_syntagmaref24_right_l1 s1 FU 0 : Option (Out Bool Unit))).bind (fun oo => oo.on (fun r2 => some r2) (fun _ =>
    (m_syntagmaref24_Next s1).bind fun x5 =>
    ((m_syntagmaref24_right_l2 a1 s1 x5 FU 0 : Option (Out Bool Unit))).bind (fun oo => oo.on (fun r1 => some r1) (fun _ =>
    (m_syntagmaref24_edges s1.fields false).bind fun x10 =>
    (bif x10 then ((m_syntagmaref24_edges s1.tags true).bind fun x11 =>
    some x11) else (some false)).bind fun p1 =>
    some p1))))
theorem w_syntagmaref24_right {a1 : AutoAuto} {s1 : AutoState} {r_1 : Bool} (hm : m_syntagmaref24_right a1 s1 = some r_1) : Fn0 Tryz.prog 33 [AutoAuto.d a1, AutoState.d s1] (.bool r_1) := by
  unfold m_syntagmaref24_right at hm
  refine fn_intro Tryz.func33 rfl Tryz.ntmps33 rfl fun H0 fr w0 => ?_
  refine g_seq ?_
  refine g_region ?_
  refine go_p rfl rfl rfl (o_box rfl rfl) ?_
  refine go_p rfl rfl rfl (o_box rfl rfl) ?_
  refine go_p rfl rfl rfl (o_assign rfl) ?_
  refine go_nil ?_
  refine g_seq ?_
  refine g_seq ?_
  refine g_region ?_
  refine go_p rfl rfl rfl (o_fieldAddr fi_52_1 rfl rfl rfl) ?_
  refine go_p rfl rfl rfl (o_load Tryz.isAgg4 rfl rfl) ?_
  refine go_p rfl rfl rfl (o_move rfl) ?_
  apply go_and [(2, _), (3, _)] 29 40 (t := 11) ⟨rfl, rfl, trivial⟩ rfl
  · intro hg_1 hk1
    refine go_wantp rfl rfl rfl hg_1 rfl rfl (o_fieldAddr fi_52_2 rfl rfl rfl) ?_
    refine go_wantp rfl rfl rfl hg_1 rfl rfl (o_load Tryz.isAgg4 rfl rfl) ?_
    refine go_wantp rfl rfl rfl hg_1 rfl rfl (o_move rfl) ?_
    apply go_or [(2, _), (3, _), (11, _)] 3 17 (t := 14) ⟨rfl, rfl, rfl, trivial⟩ rfl
    · intro hg_2 hk2
      refine go_wantp rfl rfl rfl hg_2 rfl rfl (o_fieldAddr fi_52_3 rfl rfl rfl) ?_
      refine go_wantp rfl rfl rfl hg_2 rfl rfl (o_load Tryz.isAgg4 rfl rfl) ?_
      refine go_wantp rfl rfl rfl hg_1 rfl rfl (o_pickF rfl hg_2 rfl) ?_
      exact go_meet hk2 (rfl) ⟨rfl, rfl, rfl, trivial⟩
    · intro hg_2 hk2
      refine go_skip rfl rfl rfl hg_2 rfl rfl ?_
      refine go_skip rfl rfl rfl hg_2 rfl rfl ?_
      refine go_wantp rfl rfl rfl hg_1 rfl rfl (o_pickT rfl hg_2 rfl) ?_
      exact go_meet hk2 (rfl) ⟨rfl, rfl, rfl, trivial⟩
    refine go_wantp rfl rfl rfl hg_1 rfl rfl (o_move rfl) ?_
    apply go_or [(2, _), (3, _), (11, _)] 3 21 (t := 18) ⟨rfl, rfl, rfl, trivial⟩ rfl
    · intro hg_3 hk3
      refine go_wantp rfl rfl rfl hg_3 rfl rfl (o_fieldAddr fi_52_4 rfl rfl rfl) ?_
      refine go_wantp rfl rfl rfl hg_3 rfl rfl (o_load Tryz.isAgg4 rfl rfl) ?_
      refine go_wantp rfl rfl rfl hg_1 rfl rfl (o_pickF rfl hg_3 rfl) ?_
      exact go_meet hk3 (rfl) ⟨rfl, rfl, rfl, trivial⟩
    · intro hg_3 hk3
      refine go_skip rfl rfl rfl hg_3 rfl rfl ?_
      refine go_skip rfl rfl rfl hg_3 rfl rfl ?_
      refine go_wantp rfl rfl rfl hg_1 rfl rfl (o_pickT rfl hg_3 rfl) ?_
      exact go_meet hk3 (rfl) ⟨rfl, rfl, rfl, trivial⟩
    refine go_wantp rfl rfl rfl hg_1 rfl rfl (o_move rfl) ?_
    apply go_or [(2, _), (3, _), (11, _)] 3 25 (t := 22) ⟨rfl, rfl, rfl, trivial⟩ rfl
    · intro hg_4 hk4
      refine go_wantp rfl rfl rfl hg_4 rfl rfl (o_fieldAddr fi_52_5 rfl rfl rfl) ?_
      refine go_wantp rfl rfl rfl hg_4 rfl rfl (o_load Tryz.isAgg4 rfl rfl) ?_
      refine go_wantp rfl rfl rfl hg_1 rfl rfl (o_pickF rfl hg_4 rfl) ?_
      exact go_meet hk4 (rfl) ⟨rfl, rfl, rfl, trivial⟩
    · intro hg_4 hk4
      refine go_skip rfl rfl rfl hg_4 rfl rfl ?_
      refine go_skip rfl rfl rfl hg_4 rfl rfl ?_
      refine go_wantp rfl rfl rfl hg_1 rfl rfl (o_pickT rfl hg_4 rfl) ?_
      exact go_meet hk4 (rfl) ⟨rfl, rfl, rfl, trivial⟩
    refine go_wantp rfl rfl rfl hg_1 rfl rfl (o_move rfl) ?_
    apply go_or [(2, _), (3, _), (11, _)] 3 29 (t := 26) ⟨rfl, rfl, rfl, trivial⟩ rfl
    · intro hg_5 hk5
      refine go_wantp rfl rfl rfl hg_5 rfl rfl (o_fieldAddr fi_52_6 rfl rfl rfl) ?_
      refine go_wantp rfl rfl rfl hg_5 rfl rfl (o_load Tryz.isAgg4 rfl rfl) ?_
      refine go_wantp rfl rfl rfl hg_1 rfl rfl (o_pickF rfl hg_5 rfl) ?_
      exact go_meet hk5 (rfl) ⟨rfl, rfl, rfl, trivial⟩
    · intro hg_5 hk5
      refine go_skip rfl rfl rfl hg_5 rfl rfl ?_
      refine go_skip rfl rfl rfl hg_5 rfl rfl ?_
      refine go_wantp rfl rfl rfl hg_1 rfl rfl (o_pickT rfl hg_5 rfl) ?_
      exact go_meet hk5 (rfl) ⟨rfl, rfl, rfl, trivial⟩
    refine go_wantp rfl rfl rfl hg_1 rfl rfl (o_move rfl) ?_
    apply go_or [(2, _), (3, _), (11, _)] 3 33 (t := 30) ⟨rfl, rfl, rfl, trivial⟩ rfl
    · intro hg_6 hk6
      refine go_wantp rfl rfl rfl hg_6 rfl rfl (o_fieldAddr fi_52_7 rfl rfl rfl) ?_
      refine go_wantp rfl rfl rfl hg_6 rfl rfl (o_load Tryz.isAgg4 rfl rfl) ?_
      refine go_wantp rfl rfl rfl hg_1 rfl rfl (o_pickF rfl hg_6 rfl) ?_
      exact go_meet hk6 (rfl) ⟨rfl, rfl, rfl, trivial⟩
    · intro hg_6 hk6
      refine go_skip rfl rfl rfl hg_6 rfl rfl ?_
      refine go_skip rfl rfl rfl hg_6 rfl rfl ?_
      refine go_wantp rfl rfl rfl hg_1 rfl rfl (o_pickT rfl hg_6 rfl) ?_
      exact go_meet hk6 (rfl) ⟨rfl, rfl, rfl, trivial⟩
    refine go_wantp rfl rfl rfl hg_1 rfl rfl (o_move rfl) ?_
    apply go_or [(2, _), (3, _), (11, _)] 5 39 (t := 34) ⟨rfl, rfl, rfl, trivial⟩ rfl
    · intro hg_7 hk7
      refine go_wantp rfl rfl rfl hg_7 rfl rfl (o_fieldAddr fi_52_8 rfl rfl rfl) ?_
      refine go_wantp rfl rfl rfl hg_7 rfl rfl (o_load Tryz.isAgg49 rfl rfl) ?_
      refine go_wantp rfl rfl rfl hg_7 rfl rfl (o_len Tryz.runUnderlying49 rfl) ?_
      refine go_wantp rfl rfl rfl hg_7 rfl rfl (o_cmp rfl rfl rfl) ?_
      refine go_wantp rfl rfl rfl hg_1 rfl rfl (o_pickF rfl hg_7 rfl) ?_
      exact go_meet hk7 (rfl) ⟨rfl, rfl, rfl, trivial⟩
    · intro hg_7 hk7
      refine go_skip rfl rfl rfl hg_7 rfl rfl ?_
      refine go_skip rfl rfl rfl hg_7 rfl rfl ?_
      refine go_skip rfl rfl rfl hg_7 rfl rfl ?_
      refine go_skip rfl rfl rfl hg_7 rfl rfl ?_
      refine go_wantp rfl rfl rfl hg_1 rfl rfl (o_pickT rfl hg_7 rfl) ?_
      exact go_meet hk7 (rfl) ⟨rfl, rfl, rfl, trivial⟩
    refine go_p rfl rfl rfl (o_pickT rfl hg_1 rfl) ?_
    exact go_meet hk1 (rfl) ⟨rfl, rfl, trivial⟩
  · intro hg_1 hk1
    refine go_skip rfl rfl rfl hg_1 rfl rfl ?_
    refine go_skip rfl rfl rfl hg_1 rfl rfl ?_
    refine go_skip rfl rfl rfl hg_1 rfl rfl ?_
    refine go_skipu rfl rfl rfl rfl rfl ?_
    refine go_skipu rfl rfl rfl rfl rfl ?_
    refine go_skip rfl rfl rfl hg_1 rfl rfl ?_
    refine go_skip rfl rfl rfl hg_1 rfl rfl ?_
    refine go_skipu rfl rfl rfl rfl rfl ?_
    refine go_skipu rfl rfl rfl rfl rfl ?_
    refine go_skip rfl rfl rfl hg_1 rfl rfl ?_
    refine go_skip rfl rfl rfl hg_1 rfl rfl ?_
    refine go_skipu rfl rfl rfl rfl rfl ?_
    refine go_skipu rfl rfl rfl rfl rfl ?_
    refine go_skip rfl rfl rfl hg_1 rfl rfl ?_
    refine go_skip rfl rfl rfl hg_1 rfl rfl ?_
    refine go_skipu rfl rfl rfl rfl rfl ?_
    refine go_skipu rfl rfl rfl rfl rfl ?_
    refine go_skip rfl rfl rfl hg_1 rfl rfl ?_
    refine go_skip rfl rfl rfl hg_1 rfl rfl ?_
    refine go_skipu rfl rfl rfl rfl rfl ?_
    refine go_skipu rfl rfl rfl rfl rfl ?_
    refine go_skip rfl rfl rfl hg_1 rfl rfl ?_
    refine go_skip rfl rfl rfl hg_1 rfl rfl ?_
    refine go_skipu rfl rfl rfl rfl rfl ?_
    refine go_skipu rfl rfl rfl rfl rfl ?_
    refine go_skipu rfl rfl rfl rfl rfl ?_
    refine go_skipu rfl rfl rfl rfl rfl ?_
    refine go_skip rfl rfl rfl hg_1 rfl rfl ?_
    refine go_p rfl rfl rfl (o_pickF rfl hg_1 rfl) ?_
    exact go_meet hk1 (rfl) ⟨rfl, rfl, trivial⟩
  refine go_p rfl rfl rfl (o_move rfl) ?_
  apply go_or [(2, _), (3, _)] 14 55 (t := 41) ⟨rfl, rfl, trivial⟩ rfl
  · intro hg_8 hk8
    refine go_wantp rfl rfl rfl hg_8 rfl rfl (o_fieldAddr fi_52_5 rfl rfl rfl) ?_
    refine go_wantp rfl rfl rfl hg_8 rfl rfl (o_load Tryz.isAgg4 rfl rfl) ?_
    refine go_wantp rfl rfl rfl hg_8 rfl rfl (o_not rfl) ?_
    refine go_wantp rfl rfl rfl hg_8 rfl rfl (o_move rfl) ?_
    apply go_and [(2, _), (3, _), (41, _)] 9 54 (t := 45) ⟨rfl, rfl, rfl, trivial⟩ rfl
    · intro hg_9 hk9
      refine go_wantp rfl rfl rfl hg_9 rfl rfl (o_fieldAddr fi_52_9 rfl rfl rfl) ?_
      refine go_wantp rfl rfl rfl hg_9 rfl rfl (o_load Tryz.isAgg3 rfl rfl) ?_
      refine go_wantp rfl rfl rfl hg_9 rfl rfl (o_cmp rfl rfl rfl) ?_
      refine go_wantp rfl rfl rfl hg_9 rfl rfl (o_move rfl) ?_
      apply go_or [(2, _), (3, _), (41, _), (45, _)] 4 53 (t := 49) ⟨rfl, rfl, rfl, rfl, trivial⟩ rfl
      · intro hg_10 hk10
        refine go_wantp rfl rfl rfl hg_10 rfl rfl (o_fieldAddr fi_52_10 rfl rfl rfl) ?_
        refine go_wantp rfl rfl rfl hg_10 rfl rfl (o_load Tryz.isAgg3 rfl rfl) ?_
        refine go_wantp rfl rfl rfl hg_10 rfl rfl (o_cmp rfl rfl rfl) ?_
        refine go_wantp rfl rfl rfl hg_9 rfl rfl (o_pickF rfl hg_10 rfl) ?_
        exact go_meet hk10 (rfl) ⟨rfl, rfl, rfl, rfl, trivial⟩
      · intro hg_10 hk10
        refine go_skip rfl rfl rfl hg_10 rfl rfl ?_
        refine go_skip rfl rfl rfl hg_10 rfl rfl ?_
        refine go_skip rfl rfl rfl hg_10 rfl rfl ?_
        refine go_wantp rfl rfl rfl hg_9 rfl rfl (o_pickT rfl hg_10 rfl) ?_
        exact go_meet hk10 (rfl) ⟨rfl, rfl, rfl, rfl, trivial⟩
      refine go_wantp rfl rfl rfl hg_8 rfl rfl (o_pickT rfl hg_9 rfl) ?_
      exact go_meet hk9 (rfl) ⟨rfl, rfl, rfl, trivial⟩
    · intro hg_9 hk9
      refine go_skip rfl rfl rfl hg_9 rfl rfl ?_
      refine go_skip rfl rfl rfl hg_9 rfl rfl ?_
      refine go_skip rfl rfl rfl hg_9 rfl rfl ?_
      refine go_skip rfl rfl rfl hg_9 rfl rfl ?_
      refine go_skipu rfl rfl rfl rfl rfl ?_
      refine go_skipu rfl rfl rfl rfl rfl ?_
      refine go_skipu rfl rfl rfl rfl rfl ?_
      refine go_skip rfl rfl rfl hg_9 rfl rfl ?_
      refine go_wantp rfl rfl rfl hg_8 rfl rfl (o_pickF rfl hg_9 rfl) ?_
      exact go_meet hk9 (rfl) ⟨rfl, rfl, rfl, trivial⟩
    refine go_p rfl rfl rfl (o_pickF rfl hg_8 rfl) ?_
    exact go_meet hk8 (rfl) ⟨rfl, rfl, trivial⟩
  · intro hg_8 hk8
    refine go_skip rfl rfl rfl hg_8 rfl rfl ?_
    refine go_skip rfl rfl rfl hg_8 rfl rfl ?_
    refine go_skip rfl rfl rfl hg_8 rfl rfl ?_
    refine go_skip rfl rfl rfl hg_8 rfl rfl ?_
    refine go_skipu rfl rfl rfl rfl rfl ?_
    refine go_skipu rfl rfl rfl rfl rfl ?_
    refine go_skipu rfl rfl rfl rfl rfl ?_
    refine go_skipu rfl rfl rfl rfl rfl ?_
    refine go_skipu rfl rfl rfl rfl rfl ?_
    refine go_skipu rfl rfl rfl rfl rfl ?_
    refine go_skipu rfl rfl rfl rfl rfl ?_
    refine go_skipu rfl rfl rfl rfl rfl ?_
    refine go_skip rfl rfl rfl hg_8 rfl rfl ?_
    refine go_p rfl rfl rfl (o_pickT rfl hg_8 rfl) ?_
    exact go_meet hk8 (rfl) ⟨rfl, rfl, trivial⟩
  refine go_p rfl rfl rfl (o_move rfl) ?_
  apply go_or [(2, _), (3, _)] 10 66 (t := 56) ⟨rfl, rfl, trivial⟩ rfl
  · intro hg_11 hk11
    refine go_wantp rfl rfl rfl hg_11 rfl rfl (o_fieldAddr fi_52_6 rfl rfl rfl) ?_
    refine go_wantp rfl rfl rfl hg_11 rfl rfl (o_load Tryz.isAgg4 rfl rfl) ?_
    refine go_wantp rfl rfl rfl hg_11 rfl rfl (o_not rfl) ?_
    refine go_wantp rfl rfl rfl hg_11 rfl rfl (o_move rfl) ?_
    apply go_and [(2, _), (3, _), (56, _)] 5 65 (t := 60) ⟨rfl, rfl, rfl, trivial⟩ rfl
    · intro hg_12 hk12
      refine go_wantp rfl rfl rfl hg_12 rfl rfl (o_fieldAddr fi_52_11 rfl rfl rfl) ?_
      refine go_wantp rfl rfl rfl hg_12 rfl rfl (o_load Tryz.isAgg50 rfl rfl) ?_
      refine go_wantp rfl rfl rfl hg_12 rfl rfl (o_len Tryz.runUnderlying50 rfl) ?_
      refine go_wantp rfl rfl rfl hg_12 rfl rfl (o_cmp rfl rfl rfl) ?_
      refine go_wantp rfl rfl rfl hg_11 rfl rfl (o_pickT rfl hg_12 rfl) ?_
      exact go_meet hk12 (rfl) ⟨rfl, rfl, rfl, trivial⟩
    · intro hg_12 hk12
      refine go_skip rfl rfl rfl hg_12 rfl rfl ?_
      refine go_skip rfl rfl rfl hg_12 rfl rfl ?_
      refine go_skip rfl rfl rfl hg_12 rfl rfl ?_
      refine go_skip rfl rfl rfl hg_12 rfl rfl ?_
      refine go_wantp rfl rfl rfl hg_11 rfl rfl (o_pickF rfl hg_12 rfl) ?_
      exact go_meet hk12 (rfl) ⟨rfl, rfl, rfl, trivial⟩
    refine go_p rfl rfl rfl (o_pickF rfl hg_11 rfl) ?_
    exact go_meet hk11 (rfl) ⟨rfl, rfl, trivial⟩
  · intro hg_11 hk11
    refine go_skip rfl rfl rfl hg_11 rfl rfl ?_
    refine go_skip rfl rfl rfl hg_11 rfl rfl ?_
    refine go_skip rfl rfl rfl hg_11 rfl rfl ?_
    refine go_skip rfl rfl rfl hg_11 rfl rfl ?_
    refine go_skipu rfl rfl rfl rfl rfl ?_
    refine go_skipu rfl rfl rfl rfl rfl ?_
    refine go_skipu rfl rfl rfl rfl rfl ?_
    refine go_skipu rfl rfl rfl rfl rfl ?_
    refine go_skip rfl rfl rfl hg_11 rfl rfl ?_
    refine go_p rfl rfl rfl (o_pickT rfl hg_11 rfl) ?_
    exact go_meet hk11 (rfl) ⟨rfl, rfl, trivial⟩
  refine go_p rfl rfl rfl (o_move rfl) ?_
  apply go_or [(2, _), (3, _)] 10 77 (t := 67) ⟨rfl, rfl, trivial⟩ rfl
  · intro hg_13 hk13
    refine go_wantp rfl rfl rfl hg_13 rfl rfl (o_fieldAddr fi_52_7 rfl rfl rfl) ?_
    refine go_wantp rfl rfl rfl hg_13 rfl rfl (o_load Tryz.isAgg4 rfl rfl) ?_
    refine go_wantp rfl rfl rfl hg_13 rfl rfl (o_not rfl) ?_
    refine go_wantp rfl rfl rfl hg_13 rfl rfl (o_move rfl) ?_
    apply go_and [(2, _), (3, _), (67, _)] 5 76 (t := 71) ⟨rfl, rfl, rfl, trivial⟩ rfl
    · intro hg_14 hk14
      refine go_wantp rfl rfl rfl hg_14 rfl rfl (o_fieldAddr fi_52_12 rfl rfl rfl) ?_
      refine go_wantp rfl rfl rfl hg_14 rfl rfl (o_load Tryz.isAgg50 rfl rfl) ?_
      refine go_wantp rfl rfl rfl hg_14 rfl rfl (o_len Tryz.runUnderlying50 rfl) ?_
      refine go_wantp rfl rfl rfl hg_14 rfl rfl (o_cmp rfl rfl rfl) ?_
      refine go_wantp rfl rfl rfl hg_13 rfl rfl (o_pickT rfl hg_14 rfl) ?_
      exact go_meet hk14 (rfl) ⟨rfl, rfl, rfl, trivial⟩
    · intro hg_14 hk14
      refine go_skip rfl rfl rfl hg_14 rfl rfl ?_
      refine go_skip rfl rfl rfl hg_14 rfl rfl ?_
      refine go_skip rfl rfl rfl hg_14 rfl rfl ?_
      refine go_skip rfl rfl rfl hg_14 rfl rfl ?_
      refine go_wantp rfl rfl rfl hg_13 rfl rfl (o_pickF rfl hg_14 rfl) ?_
      exact go_meet hk14 (rfl) ⟨rfl, rfl, rfl, trivial⟩
    refine go_p rfl rfl rfl (o_pickF rfl hg_13 rfl) ?_
    exact go_meet hk13 (rfl) ⟨rfl, rfl, trivial⟩
  · intro hg_13 hk13
    refine go_skip rfl rfl rfl hg_13 rfl rfl ?_
    refine go_skip rfl rfl rfl hg_13 rfl rfl ?_
    refine go_skip rfl rfl rfl hg_13 rfl rfl ?_
    refine go_skip rfl rfl rfl hg_13 rfl rfl ?_
    refine go_skipu rfl rfl rfl rfl rfl ?_
    refine go_skipu rfl rfl rfl rfl rfl ?_
    refine go_skipu rfl rfl rfl rfl rfl ?_
    refine go_skipu rfl rfl rfl rfl rfl ?_
    refine go_skip rfl rfl rfl hg_13 rfl rfl ?_
    refine go_p rfl rfl rfl (o_pickT rfl hg_13 rfl) ?_
    exact go_meet hk13 (rfl) ⟨rfl, rfl, trivial⟩
  refine go_nil ?_
  refine g_cond rfl (fun hc1 => ?_) (fun hc1 => ?_)
  · replace hm := cond_t hc1 hm
    refine g_seq ?_
    refine g_region ?_
    refine go_p rfl rfl rfl (o_assign rfl) ?_
    refine go_nil ?_
    refine g_ret ?_
    exact retK (ret_one' rfl (ret_tmp rfl) (perm_drop _)) (congrArg (fun (p : Bool) => (.bool p : D)) (some_eq hm))
  · replace hm := cond_f hc1 hm
    refine g_skip ?_
    refine g_seq ?_
    refine g_seq ?_
    refine g_region ?_
    refine go_p rfl rfl rfl (o_assign rfl) ?_
    refine go_nil ?_
    obtain ⟨o_1, hj1, hm1⟩ := bind_some hm
    refine g_cut_m [(2, _), (3, _)] [] (fun (st : Unit) (hid : Unit) => match st, hid with | _, _ => []) (fun F (st : Unit) (hid : Unit) => match st, hid with | _, _ => []) (fun st => Out.go (st) = o_1) ⟨rfl, rfl, trivial⟩ trivial ?_ ?_
    · skip
      refine g_block ?_
      refine g_loop_m [(2, _), (3, _)] [] (fun (st : Int) (hid : Unit) => match st, hid with | i1, _ => [(5, .i64 i1)]) (fun F (st : Int) (hid : Unit) => match st, hid with | i1, _ => []) () hj1 (fun _ => rfl) ⟨rfl, rfl, trivial⟩ trivial ⟨rfl, trivial⟩ rfl ?_
      rintro n i1 _ hj1
      rw [m_syntagmaref24_right_l1] at hj1
      refine g_norm (L' := [(5, .i64 i1), (2, _), (3, _)]) (ms' := []) rfl rfl ?_
      refine g_seq ?_
      refine g_seq ?_
      refine g_region ?_
      refine go_p rfl rfl rfl (o_move rfl) ?_
      refine go_p rfl rfl rfl (o_fieldAddr fi_52_8 rfl rfl rfl) ?_
      refine go_p rfl rfl rfl (o_load Tryz.isAgg49 rfl rfl) ?_
      refine go_p rfl rfl rfl (o_len Tryz.runUnderlying49 rfl) ?_
      refine go_p rfl rfl rfl (o_cmp rfl rfl rfl) ?_
      refine go_nil ?_
      refine g_cond rfl (fun hc2 => ?_) (fun hc2 => ?_)
      · replace hj1 := cond_t hc2 hj1
        refine g_skip ?_
        refine g_seq ?_
        refine g_block ?_
        refine g_seq ?_
        obtain ⟨x1, hx1, hj1⟩ := bind_some hj1
        rcases cond_split hj1 with ⟨hg_15, hj1⟩ | ⟨hg_15, hj1⟩
        ·
          skip
          refine g_draw 32 Tryz_mixed (by decide +kernel) ?_
          refine gd_p rfl rfl rfl (o_fieldAddr fi_52_8 rfl rfl rfl) ?_
          refine gd_p rfl rfl rfl (o_load Tryz.isAgg49 rfl rfl) ?_
          refine gd_p rfl rfl rfl (o_move rfl) ?_
          refine gd_p rfl rfl rfl (o_indexAddr_m Tryz.runUnderlying49 Tryz.sizeOf3 rfl rfl hx1) ?_
          refine gd_p rfl rfl rfl (o_load Tryz.isAgg3 rfl rfl) ?_
          refine gd_p rfl rfl rfl (o_cmp rfl rfl rfl) ?_
          refine gd_p rfl rfl rfl (o_move rfl) ?_
          refine gd_skip rfl rfl rfl hg_15 rfl rfl ?_
          refine gd_skip rfl rfl rfl hg_15 rfl rfl ?_
          refine gd_skip rfl rfl rfl hg_15 rfl rfl ?_
          refine gd_skip rfl rfl rfl hg_15 rfl rfl ?_
          refine gd_skip rfl rfl rfl hg_15 rfl rfl ?_
          refine gd_skip rfl rfl rfl hg_15 rfl rfl ?_
          refine gd_p rfl rfl rfl (o_pickT rfl hg_15 rfl) ?_
          refine gd_p rfl rfl rfl (o_move rfl) ?_
          refine gd_skip rfl rfl rfl rfl rfl rfl ?_
          refine gd_skip rfl rfl rfl rfl rfl rfl ?_
          refine gd_skip rfl rfl rfl rfl rfl rfl ?_
          refine gd_skipu rfl rfl rfl rfl rfl ?_
          refine gd_skipu rfl rfl rfl rfl rfl ?_
          refine gd_skipu rfl rfl rfl rfl rfl ?_
          refine gd_skipu rfl rfl rfl rfl rfl ?_
          refine gd_skipu rfl rfl rfl rfl rfl ?_
          refine gd_skipu rfl rfl rfl rfl rfl ?_
          refine gd_skipu rfl rfl rfl rfl rfl ?_
          refine gd_skipu rfl rfl rfl rfl rfl ?_
          refine gd_skipu rfl rfl rfl rfl rfl ?_
          refine gd_skipu rfl rfl rfl rfl rfl ?_
          refine gd_skipu rfl rfl rfl rfl rfl ?_
          refine gd_skipu rfl rfl rfl rfl rfl ?_
          refine gd_skip rfl rfl rfl rfl rfl rfl ?_
          refine gd_p rfl rfl rfl (o_pickT rfl rfl rfl) ?_
          refine gd_nil ?_
          refine go_nil ?_
          refine g_cond_true rfl rfl ?_
          refine g_seq ?_
          refine g_region ?_
          refine go_p rfl rfl rfl (o_assign rfl) ?_
          refine go_nil ?_
          refine g_ret ?_
          obtain rfl := some_eq hj1
          replace hm1 := on_ret hm1
          exact retK (ret_one' rfl (ret_tmp rfl) (perm_drop _)) (congrArg (fun (p : Bool) => (.bool p : D)) (some_eq hm1))
        ·
          skip
          obtain ⟨x2, hx2, hj1⟩ := bind_some hj1
          rcases cond_split hj1 with ⟨hg_16, hj1⟩ | ⟨hg_16, hj1⟩
          ·
            skip
            refine g_draw 32 Tryz_mixed (by decide +kernel) ?_
            refine gd_p rfl rfl rfl (o_fieldAddr fi_52_8 rfl rfl rfl) ?_
            refine gd_p rfl rfl rfl (o_load Tryz.isAgg49 rfl rfl) ?_
            refine gd_p rfl rfl rfl (o_move rfl) ?_
            refine gd_p rfl rfl rfl (o_indexAddr_m Tryz.runUnderlying49 Tryz.sizeOf3 rfl rfl hx1) ?_
            refine gd_p rfl rfl rfl (o_load Tryz.isAgg3 rfl rfl) ?_
            refine gd_p rfl rfl rfl (o_cmp rfl rfl rfl) ?_
            refine gd_p rfl rfl rfl (o_move rfl) ?_
            refine gd_want rfl rfl rfl hg_15 rfl rfl (o_fieldAddr fi_52_8 rfl rfl rfl) ?_
            refine gd_want rfl rfl rfl hg_15 rfl rfl (o_load Tryz.isAgg49 rfl rfl) ?_
            refine gd_want rfl rfl rfl hg_15 rfl rfl (o_move rfl) ?_
            refine gd_want rfl rfl rfl hg_15 rfl rfl (o_indexAddr_m Tryz.runUnderlying49 Tryz.sizeOf3 rfl rfl hx2) ?_
            refine gd_want rfl rfl rfl hg_15 rfl rfl (o_load Tryz.isAgg3 rfl rfl) ?_
            refine gd_want rfl rfl rfl hg_15 rfl rfl (o_cmp rfl rfl rfl) ?_
            refine gd_p rfl rfl rfl (o_pickF rfl hg_15 rfl) ?_
            refine gd_p rfl rfl rfl (o_move rfl) ?_
            refine gd_skip rfl rfl rfl hg_16 rfl rfl ?_
            refine gd_skip rfl rfl rfl hg_16 rfl rfl ?_
            refine gd_skip rfl rfl rfl hg_16 rfl rfl ?_
            refine gd_skipu rfl rfl rfl rfl rfl ?_
            refine gd_skipu rfl rfl rfl rfl rfl ?_
            refine gd_skipu rfl rfl rfl rfl rfl ?_
            refine gd_skipu rfl rfl rfl rfl rfl ?_
            refine gd_skipu rfl rfl rfl rfl rfl ?_
            refine gd_skipu rfl rfl rfl rfl rfl ?_
            refine gd_skipu rfl rfl rfl rfl rfl ?_
            refine gd_skipu rfl rfl rfl rfl rfl ?_
            refine gd_skipu rfl rfl rfl rfl rfl ?_
            refine gd_skipu rfl rfl rfl rfl rfl ?_
            refine gd_skipu rfl rfl rfl rfl rfl ?_
            refine gd_skipu rfl rfl rfl rfl rfl ?_
            refine gd_skip rfl rfl rfl hg_16 rfl rfl ?_
            refine gd_p rfl rfl rfl (o_pickT rfl hg_16 rfl) ?_
            refine gd_nil ?_
            refine go_nil ?_
            refine g_cond_true rfl rfl ?_
            refine g_seq ?_
            refine g_region ?_
            refine go_p rfl rfl rfl (o_assign rfl) ?_
            refine go_nil ?_
            refine g_ret ?_
            obtain rfl := some_eq hj1
            replace hm1 := on_ret hm1
            exact retK (ret_one' rfl (ret_tmp rfl) (perm_drop _)) (congrArg (fun (p : Bool) => (.bool p : D)) (some_eq hm1))
          ·
            skip
            rcases cond_split hj1 with ⟨hg_17, hj1⟩ | ⟨hg_17, hj1⟩
            ·
              skip
              obtain ⟨hg3, hj1⟩ := grd_some hj1
              obtain ⟨x3, hx4, hj1⟩ := bind_some hj1
              obtain ⟨x4, hx5, hj1⟩ := bind_some hj1
              refine g_draw 32 Tryz_mixed (by decide +kernel) ?_
              refine gd_p rfl rfl rfl (o_fieldAddr fi_52_8 rfl rfl rfl) ?_
              refine gd_p rfl rfl rfl (o_load Tryz.isAgg49 rfl rfl) ?_
              refine gd_p rfl rfl rfl (o_move rfl) ?_
              refine gd_p rfl rfl rfl (o_indexAddr_m Tryz.runUnderlying49 Tryz.sizeOf3 rfl rfl hx1) ?_
              refine gd_p rfl rfl rfl (o_load Tryz.isAgg3 rfl rfl) ?_
              refine gd_p rfl rfl rfl (o_cmp rfl rfl rfl) ?_
              refine gd_p rfl rfl rfl (o_move rfl) ?_
              refine gd_want rfl rfl rfl hg_15 rfl rfl (o_fieldAddr fi_52_8 rfl rfl rfl) ?_
              refine gd_want rfl rfl rfl hg_15 rfl rfl (o_load Tryz.isAgg49 rfl rfl) ?_
              refine gd_want rfl rfl rfl hg_15 rfl rfl (o_move rfl) ?_
              refine gd_want rfl rfl rfl hg_15 rfl rfl (o_indexAddr_m Tryz.runUnderlying49 Tryz.sizeOf3 rfl rfl hx2) ?_
              refine gd_want rfl rfl rfl hg_15 rfl rfl (o_load Tryz.isAgg3 rfl rfl) ?_
              refine gd_want rfl rfl rfl hg_15 rfl rfl (o_cmp rfl rfl rfl) ?_
              refine gd_p rfl rfl rfl (o_pickF rfl hg_15 rfl) ?_
              refine gd_p rfl rfl rfl (o_move rfl) ?_
              refine gd_want rfl rfl rfl hg_16 rfl rfl (o_move rfl) ?_
              refine gd_want rfl rfl rfl hg_16 rfl rfl (o_cmp rfl rfl rfl) ?_
              refine gd_want rfl rfl rfl hg_16 rfl rfl (o_move rfl) ?_
              refine gd_want rfl rfl rfl hg_17 rfl rfl (o_fieldAddr fi_52_8 rfl rfl rfl) ?_
              refine gd_want rfl rfl rfl hg_17 rfl rfl (o_load Tryz.isAgg49 rfl rfl) ?_
              refine gd_want rfl rfl rfl hg_17 rfl rfl (o_move rfl) ?_
              refine gd_want rfl rfl rfl hg_17 rfl rfl (o_sub rfl rfl (i64_id hg3)) ?_
              refine gd_want rfl rfl rfl hg_17 rfl rfl (o_indexAddr_m Tryz.runUnderlying49 Tryz.sizeOf3 rfl rfl hx4) ?_
              refine gd_want rfl rfl rfl hg_17 rfl rfl (o_load Tryz.isAgg3 rfl rfl) ?_
              refine gd_want rfl rfl rfl hg_17 rfl rfl (o_fieldAddr fi_52_8 rfl rfl rfl) ?_
              refine gd_want rfl rfl rfl hg_17 rfl rfl (o_load Tryz.isAgg49 rfl rfl) ?_
              refine gd_want rfl rfl rfl hg_17 rfl rfl (o_move rfl) ?_
              refine gd_want rfl rfl rfl hg_17 rfl rfl (o_indexAddr_m Tryz.runUnderlying49 Tryz.sizeOf3 rfl rfl hx5) ?_
              refine gd_want rfl rfl rfl hg_17 rfl rfl (o_load Tryz.isAgg3 rfl rfl) ?_
              refine gd_want rfl rfl rfl hg_17 rfl rfl (o_cmp rfl rfl rfl) ?_
              refine gd_want rfl rfl rfl hg_16 rfl rfl (o_pickT rfl hg_17 rfl) ?_
              refine gd_p rfl rfl rfl (o_pickF rfl hg_16 rfl) ?_
              refine gd_nil ?_
              refine go_nil ?_
              refine g_cond rfl (fun hc3 => ?_) (fun hc3 => ?_)
              · replace hj1 := cond_t hc3 hj1
                refine g_seq ?_
                refine g_region ?_
                refine go_p rfl rfl rfl (o_assign rfl) ?_
                refine go_nil ?_
                refine g_ret ?_
                obtain rfl := some_eq hj1
                replace hm1 := on_ret hm1
                exact retK (ret_one' rfl (ret_tmp rfl) (perm_drop _)) (congrArg (fun (p : Bool) => (.bool p : D)) (some_eq hm1))
              · replace hj1 := cond_f hc3 hj1
                refine g_skip ?_
                refine g_region ?_
                refine go_p rfl rfl rfl (o_move rfl) ?_
                obtain ⟨hg6, hj1⟩ := grd_some hj1
                refine go_p rfl rfl rfl (o_add rfl rfl (i64_id hg6)) ?_
                refine go_p rfl rfl rfl (o_assign rfl) ?_
                refine go_nil ?_
                exact ⟨_, (), hj1, ⟨rfl, trivial⟩, ⟨rfl, rfl, trivial⟩, [], rfl⟩
            ·
              skip
              refine g_draw 32 Tryz_mixed (by decide +kernel) ?_
              refine gd_p rfl rfl rfl (o_fieldAddr fi_52_8 rfl rfl rfl) ?_
              refine gd_p rfl rfl rfl (o_load Tryz.isAgg49 rfl rfl) ?_
              refine gd_p rfl rfl rfl (o_move rfl) ?_
              refine gd_p rfl rfl rfl (o_indexAddr_m Tryz.runUnderlying49 Tryz.sizeOf3 rfl rfl hx1) ?_
              refine gd_p rfl rfl rfl (o_load Tryz.isAgg3 rfl rfl) ?_
              refine gd_p rfl rfl rfl (o_cmp rfl rfl rfl) ?_
              refine gd_p rfl rfl rfl (o_move rfl) ?_
              refine gd_want rfl rfl rfl hg_15 rfl rfl (o_fieldAddr fi_52_8 rfl rfl rfl) ?_
              refine gd_want rfl rfl rfl hg_15 rfl rfl (o_load Tryz.isAgg49 rfl rfl) ?_
              refine gd_want rfl rfl rfl hg_15 rfl rfl (o_move rfl) ?_
              refine gd_want rfl rfl rfl hg_15 rfl rfl (o_indexAddr_m Tryz.runUnderlying49 Tryz.sizeOf3 rfl rfl hx2) ?_
              refine gd_want rfl rfl rfl hg_15 rfl rfl (o_load Tryz.isAgg3 rfl rfl) ?_
              refine gd_want rfl rfl rfl hg_15 rfl rfl (o_cmp rfl rfl rfl) ?_
              refine gd_p rfl rfl rfl (o_pickF rfl hg_15 rfl) ?_
              refine gd_p rfl rfl rfl (o_move rfl) ?_
              refine gd_want rfl rfl rfl hg_16 rfl rfl (o_move rfl) ?_
              refine gd_want rfl rfl rfl hg_16 rfl rfl (o_cmp rfl rfl rfl) ?_
              refine gd_want rfl rfl rfl hg_16 rfl rfl (o_move rfl) ?_
              refine gd_skip rfl rfl rfl hg_17 rfl rfl ?_
              refine gd_skip rfl rfl rfl hg_17 rfl rfl ?_
              refine gd_skip rfl rfl rfl hg_17 rfl rfl ?_
              refine gd_skip rfl rfl rfl hg_17 rfl rfl ?_
              refine gd_skip rfl rfl rfl hg_17 rfl rfl ?_
              refine gd_skip rfl rfl rfl hg_17 rfl rfl ?_
              refine gd_skip rfl rfl rfl hg_17 rfl rfl ?_
              refine gd_skip rfl rfl rfl hg_17 rfl rfl ?_
              refine gd_skip rfl rfl rfl hg_17 rfl rfl ?_
              refine gd_skip rfl rfl rfl hg_17 rfl rfl ?_
              refine gd_skip rfl rfl rfl hg_17 rfl rfl ?_
              refine gd_skip rfl rfl rfl hg_17 rfl rfl ?_
              refine gd_want rfl rfl rfl hg_16 rfl rfl (o_pickF rfl hg_17 rfl) ?_
              refine gd_p rfl rfl rfl (o_pickF rfl hg_16 rfl) ?_
              refine gd_nil ?_
              refine go_nil ?_
              refine g_cond_false rfl rfl ?_
              refine g_skip ?_
              refine g_region ?_
              refine go_p rfl rfl rfl (o_move rfl) ?_
              obtain ⟨hg7, hj1⟩ := grd_some hj1
              refine go_p rfl rfl rfl (o_add rfl rfl (i64_id hg7)) ?_
              refine go_p rfl rfl rfl (o_assign rfl) ?_
              refine go_nil ?_
              exact ⟨_, (), hj1, ⟨rfl, trivial⟩, ⟨rfl, rfl, trivial⟩, [], rfl⟩
      · replace hj1 := cond_f hc2 hj1
        refine g_exit ?_
        exact ⟨_, (), some_eq hj1, trivial, ⟨rfl, rfl, trivial⟩, [], rfl⟩
    · rintro _ _ hst
      subst hst
      replace hm1 := on_go hm1
      refine k_norm (L' := [(2, _), (3, _)]) (ms' := []) rfl rfl ?_
      refine g_seq ?_
      refine g_region ?_
      refine go_p rfl rfl rfl (o_load_agg Tryz.isAgg52 Tryz.sizeOf52 rfl rfl) ?_
      obtain ⟨x5, hx8, hm1⟩ := bind_some hm1
      refine go_p rfl rfl rfl (o_call0 Tryz.call36 rfl (w_syntagmaref24_Next hx8)) ?_
      refine go_p rfl rfl rfl (o_assign rfl) ?_
      refine go_nil ?_
      refine g_seq ?_
      refine g_seq ?_
      refine g_region ?_
      refine go_p rfl rfl rfl (o_assign rfl) ?_
      refine go_nil ?_
      obtain ⟨o_2, hj2, hm2⟩ := bind_some hm1
      refine g_cut_m [(3, _)] [] (fun (st : Unit) (hid : Unit) => match st, hid with | _, _ => []) (fun F (st : Unit) (hid : Unit) => match st, hid with | _, _ => []) (fun st => Out.go (st) = o_2) ⟨rfl, trivial⟩ trivial ?_ ?_
      · skip
        refine g_block ?_
        refine g_loop_m [(2, _), (3, _), (6, _)] [] (fun (st : Int) (hid : Unit) => match st, hid with | i2, _ => [(7, .i64 i2)]) (fun F (st : Int) (hid : Unit) => match st, hid with | i2, _ => []) () hj2 (fun _ => rfl) ⟨rfl, rfl, rfl, trivial⟩ trivial ⟨rfl, trivial⟩ rfl ?_
        rintro n i2 _ hj2
        rw [m_syntagmaref24_right_l2] at hj2
        refine g_norm (L' := [(7, .i64 i2), (2, _), (3, _), (6, _)]) (ms' := []) rfl rfl ?_
        refine g_seq ?_
        refine g_seq ?_
        refine g_region ?_
        refine go_p rfl rfl rfl (o_move rfl) ?_
        refine go_p rfl rfl rfl (o_move rfl) ?_
        refine go_p rfl rfl rfl (o_len Tryz.runUnderlying49 rfl) ?_
        refine go_p rfl rfl rfl (o_cmp rfl rfl rfl) ?_
        refine go_nil ?_
        refine g_cond rfl (fun hc4 => ?_) (fun hc4 => ?_)
        · replace hj2 := cond_t hc4 hj2
          refine g_skip ?_
          refine g_seq ?_
          refine g_block ?_
          refine g_seq ?_
          refine g_seq ?_
          obtain ⟨x6, hx9, hj2⟩ := bind_some hj2
          rcases cond_split hj2 with ⟨hg_18, hj2⟩ | ⟨hg_18, hj2⟩
          ·
            skip
            refine g_draw 15 Tryz_mixed (by decide +kernel) ?_
            refine gd_p rfl rfl rfl (o_move rfl) ?_
            refine gd_p rfl rfl rfl (o_move rfl) ?_
            refine gd_p rfl rfl rfl (o_indexAddr_m Tryz.runUnderlying49 Tryz.sizeOf3 rfl rfl hx9) ?_
            refine gd_p rfl rfl rfl (o_load Tryz.isAgg3 rfl rfl) ?_
            refine gd_p rfl rfl rfl (o_cmp rfl rfl rfl) ?_
            refine gd_p rfl rfl rfl (o_move rfl) ?_
            refine gd_skip rfl rfl rfl hg_18 rfl rfl ?_
            refine gd_skip rfl rfl rfl hg_18 rfl rfl ?_
            refine gd_skip rfl rfl rfl hg_18 rfl rfl ?_
            refine gd_skip rfl rfl rfl hg_18 rfl rfl ?_
            refine gd_skip rfl rfl rfl hg_18 rfl rfl ?_
            refine gd_skip rfl rfl rfl hg_18 rfl rfl ?_
            refine gd_skip rfl rfl rfl hg_18 rfl rfl ?_
            refine gd_skip rfl rfl rfl hg_18 rfl rfl ?_
            refine gd_p rfl rfl rfl (o_pickT rfl hg_18 rfl) ?_
            refine gd_nil ?_
            refine go_nil ?_
            refine g_cond_true rfl rfl ?_
            refine g_seq ?_
            refine g_region ?_
            refine go_p rfl rfl rfl (o_assign rfl) ?_
            refine go_nil ?_
            refine g_ret ?_
            obtain rfl := some_eq hj2
            replace hm2 := on_ret hm2
            exact retK (ret_one' rfl (ret_tmp rfl) (perm_drop _)) (congrArg (fun (p : Bool) => (.bool p : D)) (some_eq hm2))
          ·
            skip
            obtain ⟨x7, hx10, hj2⟩ := bind_some hj2
            refine g_draw 15 Tryz_mixed (by decide +kernel) ?_
            refine gd_p rfl rfl rfl (o_move rfl) ?_
            refine gd_p rfl rfl rfl (o_move rfl) ?_
            refine gd_p rfl rfl rfl (o_indexAddr_m Tryz.runUnderlying49 Tryz.sizeOf3 rfl rfl hx9) ?_
            refine gd_p rfl rfl rfl (o_load Tryz.isAgg3 rfl rfl) ?_
            refine gd_p rfl rfl rfl (o_cmp rfl rfl rfl) ?_
            refine gd_p rfl rfl rfl (o_move rfl) ?_
            refine gd_want rfl rfl rfl hg_18 rfl rfl (o_move rfl) ?_
            refine gd_want rfl rfl rfl hg_18 rfl rfl (o_move rfl) ?_
            refine gd_want rfl rfl rfl hg_18 rfl rfl (o_indexAddr_m Tryz.runUnderlying49 Tryz.sizeOf3 rfl rfl hx10) ?_
            refine gd_want rfl rfl rfl hg_18 rfl rfl (o_load Tryz.isAgg3 rfl rfl) ?_
            refine gd_want rfl rfl rfl hg_18 rfl rfl (o_fieldAddr fi_24_0 rfl rfl rfl) ?_
            refine gd_want rfl rfl rfl hg_18 rfl rfl (o_load Tryz.isAgg22 rfl rfl) ?_
            refine gd_want rfl rfl rfl hg_18 rfl rfl (o_len Tryz.runUnderlying22 rfl) ?_
            refine gd_want rfl rfl rfl hg_18 rfl rfl (o_cmp rfl rfl rfl) ?_
            refine gd_p rfl rfl rfl (o_pickF rfl hg_18 rfl) ?_
            refine gd_nil ?_
            refine go_nil ?_
            refine g_cond rfl (fun hc5 => ?_) (fun hc5 => ?_)
            · replace hj2 := cond_t hc5 hj2
              refine g_seq ?_
              refine g_region ?_
              refine go_p rfl rfl rfl (o_assign rfl) ?_
              refine go_nil ?_
              refine g_ret ?_
              obtain rfl := some_eq hj2
              replace hm2 := on_ret hm2
              exact retK (ret_one' rfl (ret_tmp rfl) (perm_drop _)) (congrArg (fun (p : Bool) => (.bool p : D)) (some_eq hm2))
            · replace hj2 := cond_f hc5 hj2
              refine g_skip ?_
              refine g_seq ?_
              obtain ⟨x8, hx11, hj2⟩ := bind_some hj2
              obtain ⟨x9, hx12, hj2⟩ := bind_some hj2
              refine g_draw 13 Tryz_mixed (by decide +kernel) ?_
              refine gd_p rfl rfl rfl (o_fieldAddr fi_24_0 rfl rfl rfl) ?_
              refine gd_p rfl rfl rfl (o_load Tryz.isAgg22 rfl rfl) ?_
              refine gd_p rfl rfl rfl (o_move rfl) ?_
              refine gd_p rfl rfl rfl (o_move rfl) ?_
              refine gd_p rfl rfl rfl (o_indexAddr_m Tryz.runUnderlying49 Tryz.sizeOf3 rfl rfl hx11) ?_
              refine gd_p rfl rfl rfl (o_load Tryz.isAgg3 rfl rfl) ?_
              refine gd_p rfl rfl rfl (o_indexAddr_m Tryz.runUnderlying22 Tryz.sizeOf52 rfl rfl hx12) ?_
              refine gd_p rfl rfl rfl (o_fieldAddr fi_52_0 rfl rfl rfl) ?_
              refine gd_p rfl rfl rfl (o_load Tryz.isAgg4 rfl rfl) ?_
              refine gd_p rfl rfl rfl (o_fieldAddr fi_52_0 rfl rfl rfl) ?_
              refine gd_p rfl rfl rfl (o_load Tryz.isAgg4 rfl rfl) ?_
              refine gd_p rfl rfl rfl (o_cmpb Tryz.runUnderlying4 rfl rfl) ?_
              refine gd_p rfl rfl rfl (o_assign rfl) ?_
              refine gd_nil ?_
              refine go_nil ?_
              refine g_seq ?_
              refine g_region ?_
              refine go_p rfl rfl rfl (o_move rfl) ?_
              refine go_p rfl rfl rfl (o_fieldAddr fi_52_5 rfl rfl rfl) ?_
              refine go_p rfl rfl rfl (o_load Tryz.isAgg4 rfl rfl) ?_
              refine go_p rfl rfl rfl (o_move rfl) ?_
              apply go_and [(2, _), (3, _), (6, _), (7, _), (152, _)] 3 158 (t := 155) ⟨rfl, rfl, rfl, rfl, rfl, trivial⟩ rfl
              · intro hg_19 hk19
                refine go_wantp rfl rfl rfl hg_19 rfl rfl (o_move rfl) ?_
                refine go_wantp rfl rfl rfl hg_19 rfl rfl (o_cmp rfl rfl rfl) ?_
                refine go_p rfl rfl rfl (o_pickT rfl hg_19 rfl) ?_
                exact go_meet hk19 (rfl) ⟨rfl, rfl, rfl, rfl, rfl, trivial⟩
              · intro hg_19 hk19
                refine go_skip rfl rfl rfl hg_19 rfl rfl ?_
                refine go_skip rfl rfl rfl hg_19 rfl rfl ?_
                refine go_p rfl rfl rfl (o_pickF rfl hg_19 rfl) ?_
                exact go_meet hk19 (rfl) ⟨rfl, rfl, rfl, rfl, rfl, trivial⟩
              refine go_p rfl rfl rfl (o_cmpb Tryz.runUnderlying4 rfl rfl) ?_
              refine go_nil ?_
              refine g_cond rfl (fun hc6 => ?_) (fun hc6 => ?_)
              · replace hj2 := cond_t hc6 hj2
                refine g_seq ?_
                refine g_region ?_
                refine go_p rfl rfl rfl (o_assign rfl) ?_
                refine go_nil ?_
                refine g_ret ?_
                obtain rfl := some_eq hj2
                replace hm2 := on_ret hm2
                exact retK (ret_one' rfl (ret_tmp rfl) (perm_drop _)) (congrArg (fun (p : Bool) => (.bool p : D)) (some_eq hm2))
              · replace hj2 := cond_f hc6 hj2
                refine g_skip ?_
                refine g_region ?_
                refine go_p rfl rfl rfl (o_move rfl) ?_
                obtain ⟨hg13, hj2⟩ := grd_some hj2
                refine go_p rfl rfl rfl (o_add rfl rfl (i64_id hg13)) ?_
                refine go_p rfl rfl rfl (o_assign rfl) ?_
                refine go_nil ?_
                exact ⟨_, (), hj2, ⟨rfl, trivial⟩, ⟨rfl, rfl, rfl, trivial⟩, [], rfl⟩
        · replace hj2 := cond_f hc4 hj2
          refine g_exit ?_
          exact ⟨_, (), some_eq hj2, trivial, ⟨rfl, trivial⟩, [], rfl⟩
      · rintro _ _ hst
        subst hst
        replace hm2 := on_go hm2
        refine k_norm (L' := [(3, _)]) (ms' := []) rfl rfl ?_
        refine g_seq ?_
        refine g_region ?_
        refine go_p rfl rfl rfl (o_fieldAddr fi_52_11 rfl rfl rfl) ?_
        refine go_p rfl rfl rfl (o_load Tryz.isAgg50 rfl rfl) ?_
        obtain ⟨x10, hx14, hm2⟩ := bind_some hm2
        refine go_p rfl rfl rfl (o_call0 Tryz.call68 rfl (w_syntagmaref24_edges hx14)) ?_
        refine go_p rfl rfl rfl (o_move rfl) ?_
        obtain ⟨p1, hp_20, hm2⟩ := bind_some hm2
        refine go_two [] 4 167 p1 (t := 163) trivial rfl (fun hg_20 hk20 => ?_) (fun hg_20 hk20 => ?_) ?_
        · replace hp_20 := cond_t hg_20 hp_20
          refine go_wantp rfl rfl rfl hg_20 rfl rfl (o_fieldAddr fi_52_12 rfl rfl rfl) ?_
          refine go_wantp rfl rfl rfl hg_20 rfl rfl (o_load Tryz.isAgg50 rfl rfl) ?_
          obtain ⟨x11, hx15, hp_20⟩ := bind_some hp_20
          refine go_wantp rfl rfl rfl hg_20 rfl rfl (o_call0 Tryz.call68 rfl (w_syntagmaref24_edges hx15)) ?_
          refine go_p rfl rfl rfl (o_pickT rfl hg_20 rfl) ?_
          exact go_meet hk20 (congrArg (fun b => some (D.bool b)) (some_eq hp_20)) trivial
        · replace hp_20 := cond_f hg_20 hp_20
          refine go_skip rfl rfl rfl hg_20 rfl rfl ?_
          refine go_skip rfl rfl rfl hg_20 rfl rfl ?_
          refine go_skip rfl rfl rfl hg_20 rfl rfl ?_
          refine go_p rfl rfl rfl (o_pickF rfl hg_20 rfl) ?_
          exact go_meet hk20 (congrArg (fun b => some (D.bool b)) (some_eq hp_20)) trivial
        refine go_p rfl rfl rfl (o_assign rfl) ?_
        refine go_nil ?_
        refine g_ret ?_
        exact retK (ret_one' rfl (ret_tmp rfl) (perm_drop _)) (congrArg (fun (p : Bool) => (.bool p : D)) (some_eq hm2))
def m_syntagmaref24_May_l1 (a1 : AutoAuto) : Nat → Int → Option (Out Int Unit)
  | 0, _ => none
  | n + 1, i1 =>
    bif (decide (i1 < (a1.l.length : Int))) then
      (idx a1.l i1).bind fun x1 =>
      (m_syntagmaref24_right a1 x1).bind fun x2 =>
      bif (!x2) then
        some (Out.ret 4)
      else
        grd (InR (i1 + 1)) <|
        m_syntagmaref24_May_l1 a1 n (i1 + 1)
    else
      some (Out.go (()))
def m_syntagmaref24_May (a1 : AutoAuto) : Option Int :=
  bif ((decide ((a1.l.length : Int) < 1)) || (decide (2000 < (a1.l.length : Int)))) then
    some 8
  else
    ((m_syntagmaref24_May_l1 a1 FU 0 : Option (Out Int Unit))).bind (fun oo => oo.on (fun r1 => some r1) (fun _ =>
    (bif ((decide (a1.start < 0)) || (decide ((a1.l.length : Int) ≤ a1.start))) then (some true) else ((idx a1.l a1.start).bind fun x3 =>
    some (!x3.plus))).bind fun p1 =>
    bif p1 then
      some 4
    else
      some 0))
theorem w_syntagmaref24_May {a1 : AutoAuto} {r_1 : Int} (hm : m_syntagmaref24_May a1 = some r_1) : Fn0 Tryz.prog 9 [AutoAuto.d a1] (.i64 r_1) := by
  unfold m_syntagmaref24_May at hm
  refine fn_intro Tryz.func9 rfl Tryz.ntmps9 rfl fun H0 fr w0 => ?_
  refine g_seq ?_
  refine g_region ?_
  refine go_p rfl rfl rfl (o_box rfl rfl) ?_
  refine go_p rfl rfl rfl (o_assign rfl) ?_
  refine go_nil ?_
  refine g_seq ?_
  refine g_seq ?_
  refine g_region ?_
  refine go_p rfl rfl rfl (o_fieldAddr fi_24_0 rfl rfl rfl) ?_
  refine go_p rfl rfl rfl (o_load Tryz.isAgg22 rfl rfl) ?_
  refine go_p rfl rfl rfl (o_len Tryz.runUnderlying22 rfl) ?_
  refine go_p rfl rfl rfl (o_cmp rfl rfl rfl) ?_
  refine go_p rfl rfl rfl (o_move rfl) ?_
  apply go_or [(1, _)] 5 13 (t := 8) ⟨rfl, trivial⟩ rfl
  · intro hg_1 hk1
    refine go_wantp rfl rfl rfl hg_1 rfl rfl (o_fieldAddr fi_24_0 rfl rfl rfl) ?_
    refine go_wantp rfl rfl rfl hg_1 rfl rfl (o_load Tryz.isAgg22 rfl rfl) ?_
    refine go_wantp rfl rfl rfl hg_1 rfl rfl (o_len Tryz.runUnderlying22 rfl) ?_
    refine go_wantp rfl rfl rfl hg_1 rfl rfl (o_cmp rfl rfl rfl) ?_
    refine go_p rfl rfl rfl (o_pickF rfl hg_1 rfl) ?_
    exact go_meet hk1 (rfl) ⟨rfl, trivial⟩
  · intro hg_1 hk1
    refine go_skip rfl rfl rfl hg_1 rfl rfl ?_
    refine go_skip rfl rfl rfl hg_1 rfl rfl ?_
    refine go_skip rfl rfl rfl hg_1 rfl rfl ?_
    refine go_skip rfl rfl rfl hg_1 rfl rfl ?_
    refine go_p rfl rfl rfl (o_pickT rfl hg_1 rfl) ?_
    exact go_meet hk1 (rfl) ⟨rfl, trivial⟩
  refine go_nil ?_
  refine g_cond rfl (fun hc1 => ?_) (fun hc1 => ?_)
  · replace hm := cond_t hc1 hm
    refine g_seq ?_
    refine g_region ?_
    refine go_p rfl rfl rfl (o_assign rfl) ?_
    refine go_nil ?_
    refine g_ret ?_
    exact retK (ret_one' rfl (ret_tmp rfl) (perm_drop _)) (congrArg (fun (p : Int) => (.i64 p : D)) (some_eq hm))
  · replace hm := cond_f hc1 hm
    refine g_skip ?_
    refine g_seq ?_
    refine g_seq ?_
    refine g_region ?_
    refine go_p rfl rfl rfl (o_assign rfl) ?_
    refine go_nil ?_
    obtain ⟨o_1, hj1, hm1⟩ := bind_some hm
    refine g_cut_m [(1, _)] [] (fun (st : Unit) (hid : Unit) => match st, hid with | _, _ => []) (fun F (st : Unit) (hid : Unit) => match st, hid with | _, _ => []) (fun st => Out.go (st) = o_1) ⟨rfl, trivial⟩ trivial ?_ ?_
    · skip
      refine g_block ?_
      refine g_loop_m [(1, _)] [] (fun (st : Int) (hid : Unit) => match st, hid with | i1, _ => [(3, .i64 i1)]) (fun F (st : Int) (hid : Unit) => match st, hid with | i1, _ => []) () hj1 (fun _ => rfl) ⟨rfl, trivial⟩ trivial ⟨rfl, trivial⟩ rfl ?_
      rintro n i1 _ hj1
      rw [m_syntagmaref24_May_l1] at hj1
      refine g_norm (L' := [(3, .i64 i1), (1, _)]) (ms' := []) rfl rfl ?_
      refine g_seq ?_
      refine g_seq ?_
      refine g_region ?_
      refine go_p rfl rfl rfl (o_move rfl) ?_
      refine go_p rfl rfl rfl (o_fieldAddr fi_24_0 rfl rfl rfl) ?_
      refine go_p rfl rfl rfl (o_load Tryz.isAgg22 rfl rfl) ?_
      refine go_p rfl rfl rfl (o_len Tryz.runUnderlying22 rfl) ?_
      refine go_p rfl rfl rfl (o_cmp rfl rfl rfl) ?_
      refine go_nil ?_
      refine g_cond rfl (fun hc2 => ?_) (fun hc2 => ?_)
      · replace hj1 := cond_t hc2 hj1
        refine g_skip ?_
        refine g_seq ?_
        refine g_block ?_
        refine g_seq ?_
        obtain ⟨x1, hx1, hj1⟩ := bind_some hj1
        obtain ⟨x2, hx2, hj1⟩ := bind_some hj1
        refine g_draw 8 Tryz_mixed (by decide +kernel) ?_
        refine gd_p rfl rfl rfl (o_load_agg Tryz.isAgg24 Tryz.sizeOf24 rfl rfl) ?_
        refine gd_p rfl rfl rfl (o_fieldAddr fi_24_0 rfl rfl rfl) ?_
        refine gd_p rfl rfl rfl (o_load Tryz.isAgg22 rfl rfl) ?_
        refine gd_p rfl rfl rfl (o_move rfl) ?_
        refine gd_p rfl rfl rfl (o_indexAddr_m Tryz.runUnderlying22 Tryz.sizeOf52 rfl rfl hx1) ?_
        refine gd_p rfl rfl rfl (o_load_agg Tryz.isAgg52 Tryz.sizeOf52 rfl rfl) ?_
        refine gd_p rfl rfl rfl (o_call0 Tryz.call33 rfl (w_syntagmaref24_right hx2)) ?_
        refine gd_p rfl rfl rfl (o_not rfl) ?_
        refine gd_nil ?_
        refine go_nil ?_
        refine g_cond rfl (fun hc3 => ?_) (fun hc3 => ?_)
        · replace hj1 := cond_t hc3 hj1
          refine g_seq ?_
          refine g_region ?_
          refine go_p rfl rfl rfl (o_assign rfl) ?_
          refine go_nil ?_
          refine g_ret ?_
          obtain rfl := some_eq hj1
          replace hm1 := on_ret hm1
          exact retK (ret_one' rfl (ret_tmp rfl) (perm_drop _)) (congrArg (fun (p : Int) => (.i64 p : D)) (some_eq hm1))
        · replace hj1 := cond_f hc3 hj1
          refine g_skip ?_
          refine g_region ?_
          refine go_p rfl rfl rfl (o_move rfl) ?_
          obtain ⟨hg3, hj1⟩ := grd_some hj1
          refine go_p rfl rfl rfl (o_add rfl rfl (i64_id hg3)) ?_
          refine go_p rfl rfl rfl (o_assign rfl) ?_
          refine go_nil ?_
          exact ⟨_, (), hj1, ⟨rfl, trivial⟩, ⟨rfl, trivial⟩, [], rfl⟩
      · replace hj1 := cond_f hc2 hj1
        refine g_exit ?_
        exact ⟨_, (), some_eq hj1, trivial, ⟨rfl, trivial⟩, [], rfl⟩
    · rintro _ _ hst
      subst hst
      replace hm1 := on_go hm1
      refine k_norm (L' := [(1, _)]) (ms' := []) rfl rfl ?_
      refine g_seq ?_
      refine g_seq ?_
      refine g_region ?_
      refine go_p rfl rfl rfl (o_fieldAddr fi_24_1 rfl rfl rfl) ?_
      refine go_p rfl rfl rfl (o_load Tryz.isAgg3 rfl rfl) ?_
      refine go_p rfl rfl rfl (o_cmp rfl rfl rfl) ?_
      refine go_p rfl rfl rfl (o_move rfl) ?_
      apply go_or [(1, _)] 7 39 (t := 32) ⟨rfl, trivial⟩ rfl
      · intro hg_2 hk2
        refine go_wantp rfl rfl rfl hg_2 rfl rfl (o_fieldAddr fi_24_1 rfl rfl rfl) ?_
        refine go_wantp rfl rfl rfl hg_2 rfl rfl (o_load Tryz.isAgg3 rfl rfl) ?_
        refine go_wantp rfl rfl rfl hg_2 rfl rfl (o_fieldAddr fi_24_0 rfl rfl rfl) ?_
        refine go_wantp rfl rfl rfl hg_2 rfl rfl (o_load Tryz.isAgg22 rfl rfl) ?_
        refine go_wantp rfl rfl rfl hg_2 rfl rfl (o_len Tryz.runUnderlying22 rfl) ?_
        refine go_wantp rfl rfl rfl hg_2 rfl rfl (o_cmp rfl rfl rfl) ?_
        refine go_p rfl rfl rfl (o_pickF rfl hg_2 rfl) ?_
        exact go_meet hk2 (rfl) ⟨rfl, trivial⟩
      · intro hg_2 hk2
        refine go_skip rfl rfl rfl hg_2 rfl rfl ?_
        refine go_skip rfl rfl rfl hg_2 rfl rfl ?_
        refine go_skip rfl rfl rfl hg_2 rfl rfl ?_
        refine go_skip rfl rfl rfl hg_2 rfl rfl ?_
        refine go_skip rfl rfl rfl hg_2 rfl rfl ?_
        refine go_skip rfl rfl rfl hg_2 rfl rfl ?_
        refine go_p rfl rfl rfl (o_pickT rfl hg_2 rfl) ?_
        exact go_meet hk2 (rfl) ⟨rfl, trivial⟩
      refine go_p rfl rfl rfl (o_move rfl) ?_
      obtain ⟨p1, hp_3, hm1⟩ := bind_some hm1
      refine go_two [] 9 49 p1 (t := 40) trivial rfl (fun hg_3 hk3 => ?_) (fun hg_3 hk3 => ?_) ?_
      · replace hp_3 := cond_t hg_3 hp_3
        refine go_skip rfl rfl rfl hg_3 rfl rfl ?_
        refine go_skip rfl rfl rfl hg_3 rfl rfl ?_
        refine go_skip rfl rfl rfl hg_3 rfl rfl ?_
        refine go_skip rfl rfl rfl hg_3 rfl rfl ?_
        refine go_skip rfl rfl rfl hg_3 rfl rfl ?_
        refine go_skip rfl rfl rfl hg_3 rfl rfl ?_
        refine go_skip rfl rfl rfl hg_3 rfl rfl ?_
        refine go_skip rfl rfl rfl hg_3 rfl rfl ?_
        refine go_p rfl rfl rfl (o_pickT rfl hg_3 rfl) ?_
        exact go_meet hk3 (congrArg (fun b => some (D.bool b)) (some_eq hp_3)) trivial
      · replace hp_3 := cond_f hg_3 hp_3
        refine go_wantp rfl rfl rfl hg_3 rfl rfl (o_fieldAddr fi_24_0 rfl rfl rfl) ?_
        refine go_wantp rfl rfl rfl hg_3 rfl rfl (o_load Tryz.isAgg22 rfl rfl) ?_
        refine go_wantp rfl rfl rfl hg_3 rfl rfl (o_fieldAddr fi_24_1 rfl rfl rfl) ?_
        refine go_wantp rfl rfl rfl hg_3 rfl rfl (o_load Tryz.isAgg3 rfl rfl) ?_
        obtain ⟨x3, hx4, hp_3⟩ := bind_some hp_3
        refine go_wantp rfl rfl rfl hg_3 rfl rfl (o_indexAddr_m Tryz.runUnderlying22 Tryz.sizeOf52 rfl rfl hx4) ?_
        refine go_wantp rfl rfl rfl hg_3 rfl rfl (o_fieldAddr fi_52_0 rfl rfl rfl) ?_
        refine go_wantp rfl rfl rfl hg_3 rfl rfl (o_load Tryz.isAgg4 rfl rfl) ?_
        refine go_wantp rfl rfl rfl hg_3 rfl rfl (o_not rfl) ?_
        refine go_p rfl rfl rfl (o_pickF rfl hg_3 rfl) ?_
        exact go_meet hk3 (congrArg (fun b => some (D.bool b)) (some_eq hp_3)) trivial
      refine go_nil ?_
      refine g_cond rfl (fun hc4 => ?_) (fun hc4 => ?_)
      · replace hm1 := cond_t hc4 hm1
        refine g_seq ?_
        refine g_region ?_
        refine go_p rfl rfl rfl (o_assign rfl) ?_
        refine go_nil ?_
        refine g_ret ?_
        exact retK (ret_one' rfl (ret_tmp rfl) (perm_drop _)) (congrArg (fun (p : Int) => (.i64 p : D)) (some_eq hm1))
      · replace hm1 := cond_f hc4 hm1
        refine g_skip ?_
        refine g_seq ?_
        refine g_region ?_
        refine go_p rfl rfl rfl (o_assign rfl) ?_
        refine go_nil ?_
        refine g_ret ?_
        exact retK (ret_one' rfl (ret_tmp rfl) (perm_drop _)) (congrArg (fun (p : Int) => (.i64 p : D)) (some_eq hm1))
def m_pair_Together (a1 : AutoAuto) (v1 : Int) (w1 : Int) (plus1 : Bool) : Option Bool :=
  (m_auto_Norm a1).bind fun (x1, x2) =>
  (bif (decide (x2 = 0)) then ((m_pair_together (⟨x1.l, x1.start⟩ : AutoAuto) v1 w1 plus1).bind fun x3 =>
  some x3) else (some false)).bind fun p1 =>
  some p1
theorem w_pair_Together {a1 : AutoAuto} {v1 : Int} {w1 : Int} {plus1 : Bool} {r_1 : Bool} (hm : m_pair_Together a1 v1 w1 plus1 = some r_1) : Fn0 Tryz.prog 10 [AutoAuto.d a1, .i64 v1, .i64 w1, .bool plus1] (.bool r_1) := by
  unfold m_pair_Together at hm
  refine fn_intro Tryz.func10 rfl Tryz.ntmps10 rfl fun H0 fr w0 => ?_
  refine g_seq ?_
  refine g_region ?_
  refine go_p rfl rfl rfl (o_box rfl rfl) ?_
  refine go_p rfl rfl rfl (o_assign rfl) ?_
  refine go_nil ?_
  refine g_seq ?_
  refine g_region ?_
  refine go_p rfl rfl rfl (o_load_agg Tryz.isAgg27 Tryz.sizeOf27 rfl rfl) ?_
  obtain ⟨⟨x1, x2⟩, hx1, hm⟩ := bind_some hm
  refine go_p rfl rfl rfl (o_call0 Tryz.call27 rfl (w_auto_Norm hx1)) ?_
  refine go_p rfl rfl rfl (o_move rfl) ?_
  refine go_p rfl rfl rfl (o_extract rfl rfl) ?_
  refine go_p rfl rfl rfl (o_extract rfl rfl) ?_
  refine go_op rfl rfl rfl (o_alloc_own Tryz.zeroValue27 (cs := [.list 13 AutoState.d [], .i64 0]) rfl) ?_
  rintro _ _ ⟨b1, rfl, rfl⟩
  refine go_u rfl rfl (o_store_box 0 Tryz.sizeOf27 rfl rfl rfl rfl rfl rfl rfl rfl (Nat.le_of_ble_eq_true rfl)) ?_
  rintro _ _ rfl
  refine go_ms (ms' := [box b1 27 [_, _]]) rfl ?_
  refine go_p rfl rfl rfl (o_assign rfl) ?_
  refine go_nil ?_
  refine g_seq ?_
  refine g_region ?_
  refine go_p rfl rfl rfl (o_move rfl) ?_
  refine go_p rfl rfl rfl (o_cmp rfl rfl rfl) ?_
  refine go_p rfl rfl rfl (o_move rfl) ?_
  obtain ⟨p1, hp_1, hm⟩ := bind_some hm
  refine go_two [] 6 24 p1 (t := 18) trivial rfl (fun hg_1 hk1 => ?_) (fun hg_1 hk1 => ?_) ?_
  · replace hp_1 := cond_t hg_1 hp_1
    refine go_wantp rfl rfl rfl hg_1 rfl rfl (o_load_box_agg 0 Tryz.isAgg27 Tryz.sizeOf27 rfl rfl rfl rfl (Nat.le_of_ble_eq_true rfl)) ?_
    refine go_wantp rfl rfl rfl hg_1 rfl rfl (o_move rfl) ?_
    refine go_wantp rfl rfl rfl hg_1 rfl rfl (o_move rfl) ?_
    refine go_wantp rfl rfl rfl hg_1 rfl rfl (o_move rfl) ?_
    obtain ⟨x3, hx2, hp_1⟩ := bind_some hp_1
    refine go_wantp rfl rfl rfl hg_1 rfl rfl (o_call0 Tryz.call31 rfl (w_pair_together hx2)) ?_
    refine go_p rfl rfl rfl (o_pickT rfl hg_1 rfl) ?_
    exact go_meet hk1 (congrArg (fun b => some (D.bool b)) (some_eq hp_1)) trivial
  · replace hp_1 := cond_f hg_1 hp_1
    refine go_skip rfl rfl rfl hg_1 rfl rfl ?_
    refine go_skip rfl rfl rfl hg_1 rfl rfl ?_
    refine go_skip rfl rfl rfl hg_1 rfl rfl ?_
    refine go_skip rfl rfl rfl hg_1 rfl rfl ?_
    refine go_skip rfl rfl rfl hg_1 rfl rfl ?_
    refine go_p rfl rfl rfl (o_pickF rfl hg_1 rfl) ?_
    exact go_meet hk1 (congrArg (fun b => some (D.bool b)) (some_eq hp_1)) trivial
  refine go_p rfl rfl rfl (o_assign rfl) ?_
  refine go_nil ?_
  refine g_ret ?_
  exact retK (ret_one' rfl (ret_tmp rfl) (perm_drop _)) (congrArg (fun (p : Bool) => (.bool p : D)) (some_eq hm))
def m_syntagmabase_SameInts_l1 (a1 : (List Int)) (b1 : (List Int)) : Nat → Int → Option (Out Bool Unit)
  | 0, _ => none
  | n + 1, i1 =>
    bif (decide (i1 < (a1.length : Int))) then
      (idx a1 i1).bind fun x1 =>
      (idx b1 i1).bind fun x2 =>
      bif (!decide (x1 = x2)) then
        some (Out.ret false)
      else
        grd (InR (i1 + 1)) <|
        m_syntagmabase_SameInts_l1 a1 b1 n (i1 + 1)
    else
      some (Out.go (()))
def m_syntagmabase_SameInts (a1 : (List Int)) (b1 : (List Int)) : Option Bool :=
  bif (!decide ((a1.length : Int) = (b1.length : Int))) then
    some false
  else
    ((m_syntagmabase_SameInts_l1 a1 b1 FU 0 : Option (Out Bool Unit))).bind (fun oo => oo.on (fun r1 => some r1) (fun _ =>
    some true))
theorem w_syntagmabase_SameInts {a1 : (List Int)} {b1 : (List Int)} {r_1 : Bool} (hm : m_syntagmabase_SameInts a1 b1 = some r_1) : Fn0 Tryz.prog 34 [.list 1 D.i64 a1, .list 1 D.i64 b1] (.bool r_1) := by
  unfold m_syntagmabase_SameInts at hm
  refine fn_intro Tryz.func34 rfl Tryz.ntmps34 rfl fun H0 fr w0 => ?_
  refine g_seq ?_
  refine g_region ?_
  refine go_p rfl rfl rfl (o_assign rfl) ?_
  refine go_nil ?_
  refine g_seq ?_
  refine g_seq ?_
  refine g_region ?_
  refine go_p rfl rfl rfl (o_move rfl) ?_
  refine go_p rfl rfl rfl (o_len Tryz.runUnderlying49 rfl) ?_
  refine go_p rfl rfl rfl (o_move rfl) ?_
  refine go_p rfl rfl rfl (o_len Tryz.runUnderlying49 rfl) ?_
  refine go_p rfl rfl rfl (o_cmp rfl rfl rfl) ?_
  refine go_nil ?_
  refine g_cond rfl (fun hc1 => ?_) (fun hc1 => ?_)
  · replace hm := cond_t hc1 hm
    refine g_seq ?_
    refine g_region ?_
    refine go_p rfl rfl rfl (o_assign rfl) ?_
    refine go_nil ?_
    refine g_ret ?_
    exact retK (ret_one' rfl (ret_tmp rfl) (perm_drop _)) (congrArg (fun (p : Bool) => (.bool p : D)) (some_eq hm))
  · replace hm := cond_f hc1 hm
    refine g_skip ?_
    refine g_seq ?_
    refine g_seq ?_
    refine g_region ?_
    refine go_p rfl rfl rfl (o_assign rfl) ?_
    refine go_nil ?_
    obtain ⟨o_1, hj1, hm1⟩ := bind_some hm
    refine g_cut_m [] [] (fun (st : Unit) (hid : Unit) => match st, hid with | _, _ => []) (fun F (st : Unit) (hid : Unit) => match st, hid with | _, _ => []) (fun st => Out.go (st) = o_1) trivial trivial ?_ ?_
    · skip
      refine g_block ?_
      refine g_loop_m [(0, _), (1, _)] [] (fun (st : Int) (hid : Unit) => match st, hid with | i1, _ => [(5, .i64 i1)]) (fun F (st : Int) (hid : Unit) => match st, hid with | i1, _ => []) () hj1 (fun _ => rfl) ⟨rfl, rfl, trivial⟩ trivial ⟨rfl, trivial⟩ rfl ?_
      rintro n i1 _ hj1
      rw [m_syntagmabase_SameInts_l1] at hj1
      refine g_norm (L' := [(5, .i64 i1), (0, _), (1, _)]) (ms' := []) rfl rfl ?_
      refine g_seq ?_
      refine g_seq ?_
      refine g_region ?_
      refine go_p rfl rfl rfl (o_move rfl) ?_
      refine go_p rfl rfl rfl (o_move rfl) ?_
      refine go_p rfl rfl rfl (o_len Tryz.runUnderlying49 rfl) ?_
      refine go_p rfl rfl rfl (o_cmp rfl rfl rfl) ?_
      refine go_nil ?_
      refine g_cond rfl (fun hc2 => ?_) (fun hc2 => ?_)
      · replace hj1 := cond_t hc2 hj1
        refine g_skip ?_
        refine g_seq ?_
        refine g_block ?_
        refine g_seq ?_
        obtain ⟨x1, hx1, hj1⟩ := bind_some hj1
        obtain ⟨x2, hx2, hj1⟩ := bind_some hj1
        refine g_draw 9 Tryz_mixed (by decide +kernel) ?_
        refine gd_p rfl rfl rfl (o_move rfl) ?_
        refine gd_p rfl rfl rfl (o_move rfl) ?_
        refine gd_p rfl rfl rfl (o_indexAddr_m Tryz.runUnderlying49 Tryz.sizeOf3 rfl rfl hx1) ?_
        refine gd_p rfl rfl rfl (o_load Tryz.isAgg3 rfl rfl) ?_
        refine gd_p rfl rfl rfl (o_move rfl) ?_
        refine gd_p rfl rfl rfl (o_move rfl) ?_
        refine gd_p rfl rfl rfl (o_indexAddr_m Tryz.runUnderlying49 Tryz.sizeOf3 rfl rfl hx2) ?_
        refine gd_p rfl rfl rfl (o_load Tryz.isAgg3 rfl rfl) ?_
        refine gd_p rfl rfl rfl (o_cmp rfl rfl rfl) ?_
        refine gd_nil ?_
        refine go_nil ?_
        refine g_cond rfl (fun hc3 => ?_) (fun hc3 => ?_)
        · replace hj1 := cond_t hc3 hj1
          refine g_seq ?_
          refine g_region ?_
          refine go_p rfl rfl rfl (o_assign rfl) ?_
          refine go_nil ?_
          refine g_ret ?_
          obtain rfl := some_eq hj1
          replace hm1 := on_ret hm1
          exact retK (ret_one' rfl (ret_tmp rfl) (perm_drop _)) (congrArg (fun (p : Bool) => (.bool p : D)) (some_eq hm1))
        · replace hj1 := cond_f hc3 hj1
          refine g_skip ?_
          refine g_region ?_
          refine go_p rfl rfl rfl (o_move rfl) ?_
          obtain ⟨hg3, hj1⟩ := grd_some hj1
          refine go_p rfl rfl rfl (o_add rfl rfl (i64_id hg3)) ?_
          refine go_p rfl rfl rfl (o_assign rfl) ?_
          refine go_nil ?_
          exact ⟨_, (), hj1, ⟨rfl, trivial⟩, ⟨rfl, rfl, trivial⟩, [], rfl⟩
      · replace hj1 := cond_f hc2 hj1
        refine g_exit ?_
        exact ⟨_, (), some_eq hj1, trivial, trivial, [], rfl⟩
    · rintro _ _ hst
      subst hst
      replace hm1 := on_go hm1
      refine k_norm (L' := []) (ms' := []) rfl rfl ?_
      refine g_seq ?_
      refine g_region ?_
      refine go_p rfl rfl rfl (o_assign rfl) ?_
      refine go_nil ?_
      refine g_ret ?_
      exact retK (ret_one' rfl (ret_tmp rfl) (perm_drop _)) (congrArg (fun (p : Bool) => (.bool p : D)) (some_eq hm1))
def m_syntagmalaw29_works  : Option Bool :=
  (m_pair_Merge (⟨[(⟨true, false, false, false, false, true, false, false, ([] : List Int), 1, 2, ([] : List AutoEdge), ([] : List AutoEdge)⟩ : AutoState), (⟨false, false, false, false, false, false, false, false, [0, 1], 0, 0, ([] : List AutoEdge), ([] : List AutoEdge)⟩ : AutoState), (⟨true, false, false, false, false, false, true, false, ([] : List Int), 0, 0, [(⟨([108] : List UInt8), 3⟩ : AutoEdge), (⟨([109] : List UInt8), 4⟩ : AutoEdge)], ([] : List AutoEdge)⟩ : AutoState), (⟨true, false, false, false, false, false, false, false, [0], 0, 0, ([] : List AutoEdge), ([] : List AutoEdge)⟩ : AutoState), (⟨true, false, false, false, false, false, false, false, [1], 0, 0, ([] : List AutoEdge), ([] : List AutoEdge)⟩ : AutoState)], 0⟩ : AutoAuto)).bind fun (x1, x2) =>
  (bif (decide (x2 = 0)) then ((m_pair_Together (⟨[(⟨true, false, false, false, false, true, false, false, ([] : List Int), 1, 2, ([] : List AutoEdge), ([] : List AutoEdge)⟩ : AutoState), (⟨false, false, false, false, false, false, false, false, [0, 1], 0, 0, ([] : List AutoEdge), ([] : List AutoEdge)⟩ : AutoState), (⟨true, false, false, false, false, false, true, false, ([] : List Int), 0, 0, [(⟨([108] : List UInt8), 3⟩ : AutoEdge), (⟨([109] : List UInt8), 4⟩ : AutoEdge)], ([] : List AutoEdge)⟩ : AutoState), (⟨true, false, false, false, false, false, false, false, [0], 0, 0, ([] : List AutoEdge), ([] : List AutoEdge)⟩ : AutoState), (⟨true, false, false, false, false, false, false, false, [1], 0, 0, ([] : List AutoEdge), ([] : List AutoEdge)⟩ : AutoState)], 0⟩ : AutoAuto) 0 1 false).bind fun x3 =>
  some x3) else (some false)).bind fun p1 =>
  (bif p1 then ((m_pair_Together (⟨[(⟨true, false, false, false, false, true, false, false, ([] : List Int), 1, 2, ([] : List AutoEdge), ([] : List AutoEdge)⟩ : AutoState), (⟨false, false, false, false, false, false, false, false, [0, 1], 0, 0, ([] : List AutoEdge), ([] : List AutoEdge)⟩ : AutoState), (⟨true, false, false, false, false, false, true, false, ([] : List Int), 0, 0, [(⟨([108] : List UInt8), 3⟩ : AutoEdge), (⟨([109] : List UInt8), 4⟩ : AutoEdge)], ([] : List AutoEdge)⟩ : AutoState), (⟨true, false, false, false, false, false, false, false, [0], 0, 0, ([] : List AutoEdge), ([] : List AutoEdge)⟩ : AutoState), (⟨true, false, false, false, false, false, false, false, [1], 0, 0, ([] : List AutoEdge), ([] : List AutoEdge)⟩ : AutoState)], 0⟩ : AutoAuto) 0 1 true).bind fun x4 =>
  some (!x4)) else (some false)).bind fun p2 =>
  (bif p2 then ((idx x1.l 1).bind fun x5 =>
  some (decide ((x5.vars.length : Int) = 1))) else (some false)).bind fun p3 =>
  (bif p3 then ((idx x1.l 4).bind fun x6 =>
  (m_syntagmabase_SameInts x6.vars [0]).bind fun x7 =>
  some x7) else (some false)).bind fun p4 =>
  some p4
theorem w_syntagmalaw29_works  {r_1 : Bool} (hm : m_syntagmalaw29_works = some r_1) : Fn0 Tryz.prog 11 [] (.bool r_1) := by
  unfold m_syntagmalaw29_works at hm
  refine fn_intro Tryz.func11 rfl Tryz.ntmps11 rfl fun H0 fr w0 => ?_
  refine g_seq ?_
  refine g_region ?_
  refine go_p rfl rfl rfl (o_assign rfl) ?_
  refine go_nil ?_
  refine g_seq ?_
  refine g_region ?_
  refine go_p rfl rfl rfl (o_build (zs := [.bool false, .bool false, .bool false, .bool false, .bool false, .bool false, .bool false, .bool false, .list 1 D.i64 [], .v (.int .i64 0), .v (.int .i64 0), .list 2 AutoEdge.d [], .list 2 AutoEdge.d []]) Tryz.runUnderlying60 Tryz.zeroValue60 (pl_60 _ Tryz.runUnderlying60) rfl rfl rfl rfl) ?_
  refine go_p rfl rfl rfl (o_buildSlice (xs := [_, _]) (f := D.i64) (l := [_, _]) Tryz.runUnderlying49 Tryz.sizeOf3 Tryz.zeroValue3 rfl rfl rfl (fun _ => ⟨rfl, rfl, rfl⟩) rfl) ?_
  refine go_p rfl rfl rfl (o_build (zs := [.bool false, .bool false, .bool false, .bool false, .bool false, .bool false, .bool false, .bool false, .list 1 D.i64 [], .v (.int .i64 0), .v (.int .i64 0), .list 2 AutoEdge.d [], .list 2 AutoEdge.d []]) Tryz.runUnderlying60 Tryz.zeroValue60 (pl_60 _ Tryz.runUnderlying60) rfl rfl rfl rfl) ?_
  refine go_p rfl rfl rfl (o_build (zs := [.str [], .v (.int .i64 0)]) Tryz.runUnderlying63 Tryz.zeroValue63 (pl_63 _ Tryz.runUnderlying63) rfl rfl rfl rfl) ?_
  refine go_p rfl rfl rfl (o_build (zs := [.str [], .v (.int .i64 0)]) Tryz.runUnderlying63 Tryz.zeroValue63 (pl_63 _ Tryz.runUnderlying63) rfl rfl rfl rfl) ?_
  refine go_p rfl rfl rfl (o_buildSlice (xs := [_, _]) (f := AutoEdge.d) (l := [(⟨([108] : List UInt8), 3⟩ : AutoEdge), (⟨([109] : List UInt8), 4⟩ : AutoEdge)]) Tryz.runUnderlying58 Tryz.sizeOf63 Tryz.zeroValue63 rfl rfl rfl (fun _ => ⟨rfl, rfl, rfl⟩) rfl) ?_
  refine go_p rfl rfl rfl (o_build (zs := [.bool false, .bool false, .bool false, .bool false, .bool false, .bool false, .bool false, .bool false, .list 1 D.i64 [], .v (.int .i64 0), .v (.int .i64 0), .list 2 AutoEdge.d [], .list 2 AutoEdge.d []]) Tryz.runUnderlying60 Tryz.zeroValue60 (pl_60 _ Tryz.runUnderlying60) rfl rfl rfl rfl) ?_
  refine go_p rfl rfl rfl (o_buildSlice (xs := [_]) (f := D.i64) (l := [_]) Tryz.runUnderlying49 Tryz.sizeOf3 Tryz.zeroValue3 rfl rfl rfl (fun _ => ⟨rfl, rfl, rfl⟩) rfl) ?_
  refine go_p rfl rfl rfl (o_build (zs := [.bool false, .bool false, .bool false, .bool false, .bool false, .bool false, .bool false, .bool false, .list 1 D.i64 [], .v (.int .i64 0), .v (.int .i64 0), .list 2 AutoEdge.d [], .list 2 AutoEdge.d []]) Tryz.runUnderlying60 Tryz.zeroValue60 (pl_60 _ Tryz.runUnderlying60) rfl rfl rfl rfl) ?_
  refine go_p rfl rfl rfl (o_buildSlice (xs := [_]) (f := D.i64) (l := [_]) Tryz.runUnderlying49 Tryz.sizeOf3 Tryz.zeroValue3 rfl rfl rfl (fun _ => ⟨rfl, rfl, rfl⟩) rfl) ?_
  refine go_p rfl rfl rfl (o_build (zs := [.bool false, .bool false, .bool false, .bool false, .bool false, .bool false, .bool false, .bool false, .list 1 D.i64 [], .v (.int .i64 0), .v (.int .i64 0), .list 2 AutoEdge.d [], .list 2 AutoEdge.d []]) Tryz.runUnderlying60 Tryz.zeroValue60 (pl_60 _ Tryz.runUnderlying60) rfl rfl rfl rfl) ?_
  refine go_p rfl rfl rfl (o_buildSlice (xs := [_, _, _, _, _]) (f := AutoState.d) (l := [(⟨true, false, false, false, false, true, false, false, ([] : List Int), 1, 2, ([] : List AutoEdge), ([] : List AutoEdge)⟩ : AutoState), (⟨false, false, false, false, false, false, false, false, [0, 1], 0, 0, ([] : List AutoEdge), ([] : List AutoEdge)⟩ : AutoState), (⟨true, false, false, false, false, false, true, false, ([] : List Int), 0, 0, [(⟨([108] : List UInt8), 3⟩ : AutoEdge), (⟨([109] : List UInt8), 4⟩ : AutoEdge)], ([] : List AutoEdge)⟩ : AutoState), (⟨true, false, false, false, false, false, false, false, [0], 0, 0, ([] : List AutoEdge), ([] : List AutoEdge)⟩ : AutoState), (⟨true, false, false, false, false, false, false, false, [1], 0, 0, ([] : List AutoEdge), ([] : List AutoEdge)⟩ : AutoState)]) Tryz.runUnderlying25 Tryz.sizeOf60 Tryz.zeroValue60 rfl rfl rfl (fun _ => ⟨rfl, rfl, rfl⟩) rfl) ?_
  refine go_p rfl rfl rfl (o_build (zs := [.list 13 AutoState.d [], .v (.int .i64 0)]) Tryz.runUnderlying27 Tryz.zeroValue27 (pl_27 _ Tryz.runUnderlying27) rfl rfl rfl rfl) ?_
  refine go_op rfl rfl rfl (o_alloc_own Tryz.zeroValue27 (cs := [.list 13 AutoState.d [], .i64 0]) rfl) ?_
  rintro _ _ ⟨b1, rfl, rfl⟩
  refine go_u rfl rfl (o_store_box 0 Tryz.sizeOf27 rfl rfl rfl rfl rfl rfl rfl rfl (Nat.le_of_ble_eq_true rfl)) ?_
  rintro _ _ rfl
  refine go_ms (ms' := [box b1 27 [_, _]]) rfl ?_
  refine go_nil ?_
  refine g_seq ?_
  refine g_region ?_
  refine go_p rfl rfl rfl (o_load_box_agg 0 Tryz.isAgg27 Tryz.sizeOf27 rfl rfl rfl rfl (Nat.le_of_ble_eq_true rfl)) ?_
  obtain ⟨⟨x1, x2⟩, hx1, hm⟩ := bind_some hm
  refine go_p rfl rfl rfl (o_call0 Tryz.call7 rfl (w_pair_Merge hx1)) ?_
  refine go_p rfl rfl rfl (o_move rfl) ?_
  refine go_p rfl rfl rfl (o_extract rfl rfl) ?_
  refine go_p rfl rfl rfl (o_extract rfl rfl) ?_
  refine go_op rfl rfl rfl (o_alloc_own Tryz.zeroValue27 (cs := [.list 13 AutoState.d [], .i64 0]) rfl) ?_
  rintro _ _ ⟨b2, rfl, rfl⟩
  refine go_u rfl rfl (o_store_box 0 Tryz.sizeOf27 rfl rfl rfl rfl rfl rfl rfl rfl (Nat.le_of_ble_eq_true rfl)) ?_
  rintro _ _ rfl
  refine go_ms (ms' := [box b2 27 [_, _], box b1 27 [_, _]]) rfl ?_
  refine go_p rfl rfl rfl (o_assign rfl) ?_
  refine go_nil ?_
  refine g_seq ?_
  refine g_region ?_
  refine go_p rfl rfl rfl (o_move rfl) ?_
  refine go_p rfl rfl rfl (o_cmp rfl rfl rfl) ?_
  refine go_p rfl rfl rfl (o_move rfl) ?_
  obtain ⟨p1, hp_1, hm⟩ := bind_some hm
  refine go_two [(1, _), (2, _)] 3 27 p1 (t := 24) ⟨rfl, rfl, trivial⟩ rfl (fun hg_1 hk1 => ?_) (fun hg_1 hk1 => ?_) ?_
  · replace hp_1 := cond_t hg_1 hp_1
    refine go_wantp rfl rfl rfl hg_1 rfl rfl (o_load_box_agg 1 Tryz.isAgg27 Tryz.sizeOf27 rfl rfl rfl rfl (Nat.le_of_ble_eq_true rfl)) ?_
    obtain ⟨x3, hx2, hp_1⟩ := bind_some hp_1
    refine go_wantp rfl rfl rfl hg_1 rfl rfl (o_call0 Tryz.call10 rfl (w_pair_Together hx2)) ?_
    refine go_p rfl rfl rfl (o_pickT rfl hg_1 rfl) ?_
    exact go_meet hk1 (congrArg (fun b => some (D.bool b)) (some_eq hp_1)) ⟨rfl, rfl, trivial⟩
  · replace hp_1 := cond_f hg_1 hp_1
    refine go_skip rfl rfl rfl hg_1 rfl rfl ?_
    refine go_skip rfl rfl rfl hg_1 rfl rfl ?_
    refine go_p rfl rfl rfl (o_pickF rfl hg_1 rfl) ?_
    exact go_meet hk1 (congrArg (fun b => some (D.bool b)) (some_eq hp_1)) ⟨rfl, rfl, trivial⟩
  refine go_p rfl rfl rfl (o_move rfl) ?_
  obtain ⟨p2, hp_2, hm⟩ := bind_some hm
  refine go_two [(2, _)] 4 32 p2 (t := 28) ⟨rfl, trivial⟩ rfl (fun hg_2 hk2 => ?_) (fun hg_2 hk2 => ?_) ?_
  · replace hp_2 := cond_t hg_2 hp_2
    refine go_wantp rfl rfl rfl hg_2 rfl rfl (o_load_box_agg 1 Tryz.isAgg27 Tryz.sizeOf27 rfl rfl rfl rfl (Nat.le_of_ble_eq_true rfl)) ?_
    obtain ⟨x4, hx3, hp_2⟩ := bind_some hp_2
    refine go_wantp rfl rfl rfl hg_2 rfl rfl (o_call0 Tryz.call10 rfl (w_pair_Together hx3)) ?_
    refine go_wantp rfl rfl rfl hg_2 rfl rfl (o_not rfl) ?_
    refine go_p rfl rfl rfl (o_pickT rfl hg_2 rfl) ?_
    exact go_meet hk2 (congrArg (fun b => some (D.bool b)) (some_eq hp_2)) ⟨rfl, trivial⟩
  · replace hp_2 := cond_f hg_2 hp_2
    refine go_skip rfl rfl rfl hg_2 rfl rfl ?_
    refine go_skip rfl rfl rfl hg_2 rfl rfl ?_
    refine go_skip rfl rfl rfl hg_2 rfl rfl ?_
    refine go_p rfl rfl rfl (o_pickF rfl hg_2 rfl) ?_
    exact go_meet hk2 (congrArg (fun b => some (D.bool b)) (some_eq hp_2)) ⟨rfl, trivial⟩
  refine go_p rfl rfl rfl (o_move rfl) ?_
  obtain ⟨p3, hp_3, hm⟩ := bind_some hm
  refine go_two [(2, _)] 8 41 p3 (t := 33) ⟨rfl, trivial⟩ rfl (fun hg_3 hk3 => ?_) (fun hg_3 hk3 => ?_) ?_
  · replace hp_3 := cond_t hg_3 hp_3
    refine go_wantp rfl rfl rfl hg_3 rfl rfl (o_fieldAddr_box fi_27_0 rfl) ?_
    refine go_wantp rfl rfl rfl hg_3 rfl rfl (o_load_box 0 Tryz.isAgg25 rfl rfl rfl rfl) ?_
    obtain ⟨x5, hx4, hp_3⟩ := bind_some hp_3
    refine go_wantp rfl rfl rfl hg_3 rfl rfl (o_indexAddr_m Tryz.runUnderlying25 Tryz.sizeOf60 rfl rfl hx4) ?_
    refine go_wantp rfl rfl rfl hg_3 rfl rfl (o_fieldAddr fi_60_8 rfl rfl rfl) ?_
    refine go_wantp rfl rfl rfl hg_3 rfl rfl (o_load Tryz.isAgg49 rfl rfl) ?_
    refine go_wantp rfl rfl rfl hg_3 rfl rfl (o_len Tryz.runUnderlying49 rfl) ?_
    refine go_wantp rfl rfl rfl hg_3 rfl rfl (o_cmp rfl rfl rfl) ?_
    refine go_p rfl rfl rfl (o_pickT rfl hg_3 rfl) ?_
    exact go_meet hk3 (congrArg (fun b => some (D.bool b)) (some_eq hp_3)) ⟨rfl, trivial⟩
  · replace hp_3 := cond_f hg_3 hp_3
    refine go_skip rfl rfl rfl hg_3 rfl rfl ?_
    refine go_skip rfl rfl rfl hg_3 rfl rfl ?_
    refine go_skip rfl rfl rfl hg_3 rfl rfl ?_
    refine go_skip rfl rfl rfl hg_3 rfl rfl ?_
    refine go_skip rfl rfl rfl hg_3 rfl rfl ?_
    refine go_skip rfl rfl rfl hg_3 rfl rfl ?_
    refine go_skip rfl rfl rfl hg_3 rfl rfl ?_
    refine go_p rfl rfl rfl (o_pickF rfl hg_3 rfl) ?_
    exact go_meet hk3 (congrArg (fun b => some (D.bool b)) (some_eq hp_3)) ⟨rfl, trivial⟩
  refine go_p rfl rfl rfl (o_move rfl) ?_
  obtain ⟨p4, hp_4, hm⟩ := bind_some hm
  refine go_two [] 8 50 p4 (t := 42) trivial rfl (fun hg_4 hk4 => ?_) (fun hg_4 hk4 => ?_) ?_
  · replace hp_4 := cond_t hg_4 hp_4
    refine go_wantp rfl rfl rfl hg_4 rfl rfl (o_fieldAddr_box fi_27_0 rfl) ?_
    refine go_wantp rfl rfl rfl hg_4 rfl rfl (o_load_box 0 Tryz.isAgg25 rfl rfl rfl rfl) ?_
    obtain ⟨x6, hx5, hp_4⟩ := bind_some hp_4
    refine go_wantp rfl rfl rfl hg_4 rfl rfl (o_indexAddr_m Tryz.runUnderlying25 Tryz.sizeOf60 rfl rfl hx5) ?_
    refine go_wantp rfl rfl rfl hg_4 rfl rfl (o_fieldAddr fi_60_8 rfl rfl rfl) ?_
    refine go_wantp rfl rfl rfl hg_4 rfl rfl (o_load Tryz.isAgg49 rfl rfl) ?_
    refine go_wantp rfl rfl rfl hg_4 rfl rfl (o_buildSlice (xs := [_]) (f := D.i64) (l := [_]) Tryz.runUnderlying49 Tryz.sizeOf3 Tryz.zeroValue3 rfl rfl rfl (fun _ => ⟨rfl, rfl, rfl⟩) rfl) ?_
    obtain ⟨x7, hx6, hp_4⟩ := bind_some hp_4
    refine go_wantp rfl rfl rfl hg_4 rfl rfl (o_call0 Tryz.call34 rfl (w_syntagmabase_SameInts hx6)) ?_
    refine go_p rfl rfl rfl (o_pickT rfl hg_4 rfl) ?_
    exact go_meet hk4 (congrArg (fun b => some (D.bool b)) (some_eq hp_4)) trivial
  · replace hp_4 := cond_f hg_4 hp_4
    refine go_skip rfl rfl rfl hg_4 rfl rfl ?_
    refine go_skip rfl rfl rfl hg_4 rfl rfl ?_
    refine go_skip rfl rfl rfl hg_4 rfl rfl ?_
    refine go_skip rfl rfl rfl hg_4 rfl rfl ?_
    refine go_skip rfl rfl rfl hg_4 rfl rfl ?_
    refine go_skip rfl rfl rfl hg_4 rfl rfl ?_
    refine go_skip rfl rfl rfl hg_4 rfl rfl ?_
    refine go_p rfl rfl rfl (o_pickF rfl hg_4 rfl) ?_
    exact go_meet hk4 (congrArg (fun b => some (D.bool b)) (some_eq hp_4)) trivial
  refine go_p rfl rfl rfl (o_assign rfl) ?_
  refine go_nil ?_
  refine g_ret ?_
  exact retK (ret_one' rfl (ret_tmp rfl) (perm_drop _)) (congrArg (fun (p : Bool) => (.bool p : D)) (some_eq hm))
def m_syntagmabase_HasInt_l1 (l1 : (List Int)) (n1 : Int) : Nat → Int → Option (Out Bool Unit)
  | 0, _ => none
  | n + 1, i1 =>
    bif (decide (i1 < (l1.length : Int))) then
      (idx l1 i1).bind fun x1 =>
      bif (decide (x1 = n1)) then
        some (Out.ret true)
      else
        grd (InR (i1 + 1)) <|
        m_syntagmabase_HasInt_l1 l1 n1 n (i1 + 1)
    else
      some (Out.go (()))
def m_syntagmabase_HasInt (l1 : (List Int)) (n1 : Int) : Option Bool :=
  ((m_syntagmabase_HasInt_l1 l1 n1 FU 0 : Option (Out Bool Unit))).bind (fun oo => oo.on (fun r1 => some r1) (fun _ =>
  some false))
theorem w_syntagmabase_HasInt {l1 : (List Int)} {n1 : Int} {r_1 : Bool} (hm : m_syntagmabase_HasInt l1 n1 = some r_1) : Fn0 Tryz.prog 35 [.list 1 D.i64 l1, .i64 n1] (.bool r_1) := by
  unfold m_syntagmabase_HasInt at hm
  refine fn_intro Tryz.func35 rfl Tryz.ntmps35 rfl fun H0 fr w0 => ?_
  refine g_seq ?_
  refine g_region ?_
  refine go_p rfl rfl rfl (o_assign rfl) ?_
  refine go_nil ?_
  refine g_seq ?_
  refine g_seq ?_
  refine g_region ?_
  refine go_p rfl rfl rfl (o_assign rfl) ?_
  refine go_nil ?_
  obtain ⟨o_1, hj1, hm1⟩ := bind_some hm
  refine g_cut_m [] [] (fun (st : Unit) (hid : Unit) => match st, hid with | _, _ => []) (fun F (st : Unit) (hid : Unit) => match st, hid with | _, _ => []) (fun st => Out.go (st) = o_1) trivial trivial ?_ ?_
  · skip
    refine g_block ?_
    refine g_loop_m [(0, _), (1, _)] [] (fun (st : Int) (hid : Unit) => match st, hid with | i1, _ => [(5, .i64 i1)]) (fun F (st : Int) (hid : Unit) => match st, hid with | i1, _ => []) () hj1 (fun _ => rfl) ⟨rfl, rfl, trivial⟩ trivial ⟨rfl, trivial⟩ rfl ?_
    rintro n i1 _ hj1
    rw [m_syntagmabase_HasInt_l1] at hj1
    refine g_norm (L' := [(5, .i64 i1), (0, _), (1, _)]) (ms' := []) rfl rfl ?_
    refine g_seq ?_
    refine g_seq ?_
    refine g_region ?_
    refine go_p rfl rfl rfl (o_move rfl) ?_
    refine go_p rfl rfl rfl (o_move rfl) ?_
    refine go_p rfl rfl rfl (o_len Tryz.runUnderlying49 rfl) ?_
    refine go_p rfl rfl rfl (o_cmp rfl rfl rfl) ?_
    refine go_nil ?_
    refine g_cond rfl (fun hc1 => ?_) (fun hc1 => ?_)
    · replace hj1 := cond_t hc1 hj1
      refine g_skip ?_
      refine g_seq ?_
      refine g_block ?_
      refine g_seq ?_
      refine g_region ?_
      refine go_p rfl rfl rfl (o_move rfl) ?_
      refine go_p rfl rfl rfl (o_move rfl) ?_
      obtain ⟨x1, hx1, hj1⟩ := bind_some hj1
      refine go_p rfl rfl rfl (o_indexAddr_m Tryz.runUnderlying49 Tryz.sizeOf3 rfl rfl hx1) ?_
      refine go_p rfl rfl rfl (o_load Tryz.isAgg3 rfl rfl) ?_
      refine go_p rfl rfl rfl (o_move rfl) ?_
      refine go_p rfl rfl rfl (o_cmp rfl rfl rfl) ?_
      refine go_nil ?_
      refine g_cond rfl (fun hc2 => ?_) (fun hc2 => ?_)
      · replace hj1 := cond_t hc2 hj1
        refine g_seq ?_
        refine g_region ?_
        refine go_p rfl rfl rfl (o_assign rfl) ?_
        refine go_nil ?_
        refine g_ret ?_
        obtain rfl := some_eq hj1
        replace hm1 := on_ret hm1
        exact retK (ret_one' rfl (ret_tmp rfl) (perm_drop _)) (congrArg (fun (p : Bool) => (.bool p : D)) (some_eq hm1))
      · replace hj1 := cond_f hc2 hj1
        refine g_skip ?_
        refine g_region ?_
        refine go_p rfl rfl rfl (o_move rfl) ?_
        obtain ⟨hg2, hj1⟩ := grd_some hj1
        refine go_p rfl rfl rfl (o_add rfl rfl (i64_id hg2)) ?_
        refine go_p rfl rfl rfl (o_assign rfl) ?_
        refine go_nil ?_
        exact ⟨_, (), hj1, ⟨rfl, trivial⟩, ⟨rfl, rfl, trivial⟩, [], rfl⟩
    · replace hj1 := cond_f hc1 hj1
      refine g_exit ?_
      exact ⟨_, (), some_eq hj1, trivial, trivial, [], rfl⟩
  · rintro _ _ hst
    subst hst
    replace hm1 := on_go hm1
    refine k_norm (L' := []) (ms' := []) rfl rfl ?_
    refine g_seq ?_
    refine g_region ?_
    refine go_p rfl rfl rfl (o_assign rfl) ?_
    refine go_nil ?_
    refine g_ret ?_
    exact retK (ret_one' rfl (ret_tmp rfl) (perm_drop _)) (congrArg (fun (p : Bool) => (.bool p : D)) (some_eq hm1))
def m_syntagmaref29_Together_l1 (a1 : AutoAuto) (v1 : Int) (w1 : Int) (plus1 : Bool) : Nat → (Bool × Int) → Option (Out Bool Bool)
  | 0, _ => none
  | n + 1, (some2, i1) =>
    bif (decide (i1 < (a1.l.length : Int))) then
      (idx a1.l i1).bind fun x1 =>
      bif (!(x1.plus == plus1)) then
        grd (InR (i1 + 1)) <|
        m_syntagmaref29_Together_l1 a1 v1 w1 plus1 n (some2, (i1 + 1))
      else
        (idx a1.l i1).bind fun x2 =>
        (m_syntagmabase_HasInt x2.vars v1).bind fun x3 =>
        (idx a1.l i1).bind fun x4 =>
        (m_syntagmabase_HasInt x4.vars w1).bind fun x5 =>
        bif (!(x3 == x5)) then
          some (Out.ret false)
        else
          grd (InR (i1 + 1)) <|
          m_syntagmaref29_Together_l1 a1 v1 w1 plus1 n ((some2 || x3), (i1 + 1))
    else
      some (Out.go (some2))
def m_syntagmaref29_Together (a1 : AutoAuto) (v1 : Int) (w1 : Int) (plus1 : Bool) : Option Bool :=
  ((m_syntagmaref29_Together_l1 a1 v1 w1 plus1 FU (false, 0) : Option (Out Bool Bool))).bind (fun oo => oo.on (fun r1 => some r1) (fun some1 =>
  some (some1 && (!decide (v1 = w1)))))
def m_syntagmaref24_Moved_l1 (s1 : AutoState) (to1 : (List Int)) : Nat → (Int × (List AutoEdge) × (List AutoEdge) × Bool × Bool × Bool × Bool × Bool × Bool × Bool × Bool × (List Int) × Int × Int) → Option ((List AutoEdge) × (List AutoEdge) × Bool × Bool × Bool × Bool × Bool × Bool × Bool × Bool × (List Int) × Int × Int)
  | 0, _ => none
  | n + 1, (i1, l3, l4, z25, z26, z27, z28, z29, z30, z31, z32, z33, z34, z35) =>
    bif (decide (i1 < (s1.fields.length : Int))) then
      (idx s1.fields i1).bind fun x3 =>
      (idx s1.fields i1).bind fun x4 =>
      (idx to1 x4.to_).bind fun x5 =>
      grd ((l4.length + ([(⟨x3.name, x5⟩ : AutoEdge)] : List _).length) * 24 ≤ 140737488355328) <|
      grd (InR (i1 + 1)) <|
      m_syntagmaref24_Moved_l1 s1 to1 n ((i1 + 1), l3, (l4 ++ [(⟨x3.name, x5⟩ : AutoEdge)]), z25, z26, z27, z28, z29, z30, z31, z32, z33, z34, z35)
    else
      some (l3, l4, z25, z26, z27, z28, z29, z30, z31, z32, z33, z34, z35)
def m_syntagmaref24_Moved_l2 (s1 : AutoState) (to1 : (List Int)) : Nat → (Int × (List AutoEdge) × (List AutoEdge) × Bool × Bool × Bool × Bool × Bool × Bool × Bool × Bool × (List Int) × Int × Int) → Option ((List AutoEdge) × (List AutoEdge) × Bool × Bool × Bool × Bool × Bool × Bool × Bool × Bool × (List Int) × Int × Int)
  | 0, _ => none
  | n + 1, (i2, l7, l8, z47, z48, z49, z50, z51, z52, z53, z54, z55, z56, z57) =>
    bif (decide (i2 < (s1.tags.length : Int))) then
      (idx s1.tags i2).bind fun x6 =>
      (idx s1.tags i2).bind fun x7 =>
      (idx to1 x7.to_).bind fun x8 =>
      grd ((l7.length + ([(⟨x6.name, x8⟩ : AutoEdge)] : List _).length) * 24 ≤ 140737488355328) <|
      grd (InR (i2 + 1)) <|
      m_syntagmaref24_Moved_l2 s1 to1 n ((i2 + 1), (l7 ++ [(⟨x6.name, x8⟩ : AutoEdge)]), l8, z47, z48, z49, z50, z51, z52, z53, z54, z55, z56, z57)
    else
      some (l7, l8, z47, z48, z49, z50, z51, z52, z53, z54, z55, z56, z57)
def m_syntagmaref24_Moved (s1 : AutoState) (to1 : (List Int)) : Option AutoState :=
  (bif s1.arrow then
    (idx to1 s1.dom).bind fun x1 =>
    (idx to1 s1.cod).bind fun x2 =>
    some (s1.plus, s1.all, s1.int, s1.bool, s1.str, s1.arrow, s1.rec_, s1.tag, s1.vars, x1, x2, s1.fields, s1.tags)
  else
    some (s1.plus, s1.all, s1.int, s1.bool, s1.str, s1.arrow, s1.rec_, s1.tag, s1.vars, s1.dom, s1.cod, s1.fields, s1.tags) : Option (Bool × Bool × Bool × Bool × Bool × Bool × Bool × Bool × (List Int) × Int × Int × (List AutoEdge) × (List AutoEdge))).bind fun (z1, z2, z3, z4, z5, z6, z7, z8, z9, z10, z11, z12, z13) =>
  (m_syntagmaref24_Moved_l1 s1 to1 FU (0, ([] : List AutoEdge), ([] : List AutoEdge), z1, z2, z3, z4, z5, z6, z7, z8, z9, z10, z11) : Option ((List AutoEdge) × (List AutoEdge) × Bool × Bool × Bool × Bool × Bool × Bool × Bool × Bool × (List Int) × Int × Int)).bind fun (l1, l2, z14, z15, z16, z17, z18, z19, z20, z21, z22, z23, z24) =>
  (m_syntagmaref24_Moved_l2 s1 to1 FU (0, l1, l2, z14, z15, z16, z17, z18, z19, z20, z21, z22, z23, z24) : Option ((List AutoEdge) × (List AutoEdge) × Bool × Bool × Bool × Bool × Bool × Bool × Bool × Bool × (List Int) × Int × Int)).bind fun (l5, l6, z36, z37, z38, z39, z40, z41, z42, z43, z44, z45, z46) =>
  some (⟨z36, z37, z38, z39, z40, z41, z42, z43, z44, z45, z46, l6, l5⟩ : AutoState)
theorem w_syntagmaref24_Moved {s1 : AutoState} {to1 : (List Int)} {r_1 : AutoState} (hm : m_syntagmaref24_Moved s1 to1 = some r_1) : Fn0 Tryz.prog 37 [AutoState.d s1, .list 1 D.i64 to1] (AutoState.d r_1) := by
  unfold m_syntagmaref24_Moved at hm
  refine fn_intro Tryz.func37 rfl Tryz.ntmps37 rfl fun H0 fr w0 => ?_
  refine g_seq ?_
  refine g_region ?_
  refine go_p rfl rfl rfl (o_box rfl rfl) ?_
  refine go_op rfl rfl rfl (o_alloc_own Tryz.zeroValue52 (cs := [.bool false, .bool false, .bool false, .bool false, .bool false, .bool false, .bool false, .bool false, .list 1 D.i64 [], .i64 0, .i64 0, .list 2 AutoEdge.d [], .list 2 AutoEdge.d []]) rfl) ?_
  rintro _ _ ⟨b1, rfl, rfl⟩
  refine go_nil ?_
  refine g_seq ?_
  refine g_region ?_
  refine go_p rfl rfl rfl (o_load_agg Tryz.isAgg52 Tryz.sizeOf52 rfl rfl) ?_
  refine go_op rfl rfl rfl (o_alloc_own Tryz.zeroValue52 (cs := [.bool false, .bool false, .bool false, .bool false, .bool false, .bool false, .bool false, .bool false, .list 1 D.i64 [], .i64 0, .i64 0, .list 2 AutoEdge.d [], .list 2 AutoEdge.d []]) rfl) ?_
  rintro _ _ ⟨b2, rfl, rfl⟩
  refine go_u rfl rfl (o_store_box 0 Tryz.sizeOf52 rfl rfl rfl rfl rfl rfl rfl rfl (Nat.le_of_ble_eq_true rfl)) ?_
  rintro _ _ rfl
  refine go_ms (ms' := [box b2 52 [_, _, _, _, _, _, _, _, _, _, _, _, _], box b1 52 [_, _, _, _, _, _, _, _, _, _, _, _, _]]) rfl ?_
  refine go_nil ?_
  refine g_seq ?_
  refine g_seq ?_
  refine g_region ?_
  refine go_p rfl rfl rfl (o_fieldAddr fi_52_5 rfl rfl rfl) ?_
  refine go_p rfl rfl rfl (o_load Tryz.isAgg4 rfl rfl) ?_
  refine go_nil ?_
  obtain ⟨o_1, hj1, hm1⟩ := bind_some hm
  refine g_cut_m [(1, _), (2, _), (4, _), (5, _)] [(1, _)] (fun (st : (Bool × Bool × Bool × Bool × Bool × Bool × Bool × Bool × (List Int) × Int × Int × (List AutoEdge) × (List AutoEdge))) (hid : Unit) => match st, hid with | (z1, z2, z3, z4, z5, z6, z7, z8, z9, z10, z11, z12, z13), _ => []) (fun F (st : (Bool × Bool × Bool × Bool × Bool × Bool × Bool × Bool × (List Int) × Int × Int × (List AutoEdge) × (List AutoEdge))) (hid : Unit) => match st, hid with | (z1, z2, z3, z4, z5, z6, z7, z8, z9, z10, z11, z12, z13), _ => [box b2 52 [.bool z1, .bool z2, .bool z3, .bool z4, .bool z5, .bool z6, .bool z7, .bool z8, .list 1 D.i64 z9, .i64 z10, .i64 z11, .list 2 AutoEdge.d z12, .list 2 AutoEdge.d z13], (nthF F 0)]) (fun st => st = o_1) ⟨rfl, rfl, rfl, rfl, trivial⟩ ⟨rfl, trivial⟩ ?_ ?_
  · skip
    refine g_cond rfl (fun hc1 => ?_) (fun hc1 => ?_)
    · replace hj1 := cond_t hc1 hj1
      obtain ⟨x1, hx1, hj1⟩ := bind_some hj1
      obtain ⟨x2, hx2, hj1⟩ := bind_some hj1
      refine g_draw_c [11, 13] [5, 6, 7, 8, 9, 12] [] Tryz_mixed (by decide +kernel) (by decide +kernel) rfl ?_
      refine gde_p rfl rfl rfl rfl rfl rfl (o_move rfl) ?_
      refine gde_p rfl rfl rfl rfl rfl rfl (o_fieldAddr fi_52_9 rfl rfl rfl) ?_
      refine gde_p rfl rfl rfl rfl rfl rfl (o_load Tryz.isAgg3 rfl rfl) ?_
      refine gde_p rfl rfl rfl rfl rfl rfl (o_indexAddr_m Tryz.runUnderlying49 Tryz.sizeOf3 rfl rfl hx1) ?_
      refine gde_p rfl rfl rfl rfl rfl rfl (o_load Tryz.isAgg3 rfl rfl) ?_
      refine gde_p rfl rfl rfl rfl rfl rfl (o_move rfl) ?_
      refine gde_p rfl rfl rfl rfl rfl rfl (o_fieldAddr fi_52_10 rfl rfl rfl) ?_
      refine gde_p rfl rfl rfl rfl rfl rfl (o_load Tryz.isAgg3 rfl rfl) ?_
      refine gde_p rfl rfl rfl rfl rfl rfl (o_indexAddr_m Tryz.runUnderlying49 Tryz.sizeOf3 rfl rfl hx2) ?_
      refine gde_p rfl rfl rfl rfl rfl rfl (o_load Tryz.isAgg3 rfl rfl) ?_
      refine gde_p rfl rfl rfl rfl rfl rfl (o_fieldAddr_box fi_52_9 rfl) ?_
      refine gde_e rfl ?_
      refine gde_p rfl rfl rfl rfl rfl rfl (o_fieldAddr_box fi_52_10 rfl) ?_
      refine gde_e rfl ?_
      refine gde_nil ?_
      refine gde2_u rfl rfl rfl (o_store_box 0 Tryz.sizeOf3 rfl rfl rfl rfl rfl rfl rfl rfl (Nat.le_of_ble_eq_true rfl)) ?_
      rintro _ _ rfl
      refine ⟨(trivial : True), ?_⟩
      refine gde2_u rfl rfl rfl (o_store_box 0 Tryz.sizeOf3 rfl rfl rfl rfl rfl rfl rfl rfl (Nat.le_of_ble_eq_true rfl)) ?_
      rintro _ _ rfl
      refine ⟨(trivial : True), ?_⟩
      refine gde2_nil ?_
      exact ⟨_, (), some_eq hj1, trivial, ⟨rfl, rfl, rfl, rfl, trivial⟩, [], rfl⟩
    · replace hj1 := cond_f hc1 hj1
      refine g_skip ?_
      exact ⟨_, (), some_eq hj1, trivial, ⟨rfl, rfl, rfl, rfl, trivial⟩, [], rfl⟩
  · rintro ⟨z1, z2, z3, z4, z5, z6, z7, z8, z9, z10, z11, z12, z13⟩ _ hst
    subst hst
    refine k_norm (L' := [(1, _), (2, _), (4, _), (5, _)]) (ms' := [box b2 52 [.bool z1, .bool z2, .bool z3, .bool z4, .bool z5, .bool z6, .bool z7, .bool z8, .list 1 D.i64 z9, .i64 z10, .i64 z11, .list 2 AutoEdge.d z12, .list 2 AutoEdge.d z13], _]) rfl rfl ?_
    refine g_seq ?_
    refine g_region ?_
    refine go_p rfl rfl rfl (o_fieldAddr_box fi_52_11 rfl) ?_
    refine go_u rfl rfl (o_store_box 0 Tryz.sizeOf50 rfl rfl rfl rfl rfl rfl rfl rfl (Nat.le_of_ble_eq_true rfl)) ?_
    rintro _ _ rfl
    refine go_conv (refines_newrow (T := 62) (sz := 2) (f := AutoEdge.d)) ?_
    refine go_ms (ms' := [_, box b2 52 [_, _, _, _, _, _, _, _, _, _, _, _, _], box b1 52 [_, _, _, _, _, _, _, _, _, _, _, _, _]]) rfl ?_
    refine go_p rfl rfl rfl (o_fieldAddr_box fi_52_12 rfl) ?_
    refine go_u rfl rfl (o_store_box 1 Tryz.sizeOf50 rfl rfl rfl rfl rfl rfl rfl rfl (Nat.le_of_ble_eq_true rfl)) ?_
    rintro _ _ rfl
    refine go_conv (refines_newrow (T := 62) (sz := 2) (f := AutoEdge.d)) ?_
    refine go_ms (ms' := [_, _, box b2 52 [_, _, _, _, _, _, _, _, _, _, _, _, _], box b1 52 [_, _, _, _, _, _, _, _, _, _, _, _, _]]) rfl ?_
    refine go_nil ?_
    refine g_seq ?_
    refine g_seq ?_
    refine g_region ?_
    refine go_p rfl rfl rfl (o_assign rfl) ?_
    refine go_nil ?_
    obtain ⟨o_2, hj2, hm2⟩ := bind_some hm1
    refine g_cut_m [(1, _), (2, _), (4, _), (5, _)] [(3, _)] (fun (st : ((List AutoEdge) × (List AutoEdge) × Bool × Bool × Bool × Bool × Bool × Bool × Bool × Bool × (List Int) × Int × Int)) (hid : (Option Addr × Nat) × (Option Addr × Nat)) => match st, hid with | (l1, l2, z14, z15, z16, z17, z18, z19, z20, z21, z22, z23, z24), ((a_r2, cap_r2), (a_r1, cap_r1)) => []) (fun F (st : ((List AutoEdge) × (List AutoEdge) × Bool × Bool × Bool × Bool × Bool × Bool × Bool × Bool × (List Int) × Int × Int)) (hid : (Option Addr × Nat) × (Option Addr × Nat)) => match st, hid with | (l1, l2, z14, z15, z16, z17, z18, z19, z20, z21, z22, z23, z24), ((a_r2, cap_r2), (a_r1, cap_r1)) => [row a_r2 cap_r2 62 2 AutoEdge.d l1, row a_r1 cap_r1 62 2 AutoEdge.d l2, box b2 52 [.bool z14, .bool z15, .bool z16, .bool z17, .bool z18, .bool z19, .bool z20, .bool z21, .list 1 D.i64 z22, .i64 z23, .i64 z24, .v (.slice a_r1 l2.length cap_r1), .v (.slice a_r2 l1.length cap_r2)], (nthF F 0)]) (fun st => st = o_2) ⟨rfl, rfl, rfl, rfl, trivial⟩ ⟨rfl, trivial⟩ ?_ ?_
    · skip
      refine g_block ?_
      refine g_loop_m [(1, _), (2, _), (4, _), (5, _)] [(3, _)] (fun (st : (Int × (List AutoEdge) × (List AutoEdge) × Bool × Bool × Bool × Bool × Bool × Bool × Bool × Bool × (List Int) × Int × Int)) (hid : (Option Addr × Nat) × (Option Addr × Nat)) => match st, hid with | (i1, l3, l4, z25, z26, z27, z28, z29, z30, z31, z32, z33, z34, z35), ((a_r2, cap_r2), (a_r1, cap_r1)) => [(6, .i64 i1)]) (fun F (st : (Int × (List AutoEdge) × (List AutoEdge) × Bool × Bool × Bool × Bool × Bool × Bool × Bool × Bool × (List Int) × Int × Int)) (hid : (Option Addr × Nat) × (Option Addr × Nat)) => match st, hid with | (i1, l3, l4, z25, z26, z27, z28, z29, z30, z31, z32, z33, z34, z35), ((a_r2, cap_r2), (a_r1, cap_r1)) => [row a_r2 cap_r2 62 2 AutoEdge.d l3, row a_r1 cap_r1 62 2 AutoEdge.d l4, box b2 52 [.bool z25, .bool z26, .bool z27, .bool z28, .bool z29, .bool z30, .bool z31, .bool z32, .list 1 D.i64 z33, .i64 z34, .i64 z35, .v (.slice a_r1 l4.length cap_r1), .v (.slice a_r2 l3.length cap_r2)], (nthF F 0)]) ((_, _), (_, _)) hj2 (fun _ => rfl) ⟨rfl, rfl, rfl, rfl, trivial⟩ ⟨rfl, trivial⟩ ⟨rfl, trivial⟩ rfl ?_
      rintro n ⟨i1, l3, l4, z25, z26, z27, z28, z29, z30, z31, z32, z33, z34, z35⟩ ⟨⟨a_r2, cap_r2⟩, ⟨a_r1, cap_r1⟩⟩ hj2
      rw [m_syntagmaref24_Moved_l1] at hj2
      refine g_norm (L' := [(6, .i64 i1), (1, _), (2, _), (4, _), (5, _)]) (ms' := [row a_r2 cap_r2 62 2 AutoEdge.d l3, row a_r1 cap_r1 62 2 AutoEdge.d l4, box b2 52 [.bool z25, .bool z26, .bool z27, .bool z28, .bool z29, .bool z30, .bool z31, .bool z32, .list 1 D.i64 z33, .i64 z34, .i64 z35, .v (.slice a_r1 l4.length cap_r1), .v (.slice a_r2 l3.length cap_r2)], _]) rfl rfl ?_
      refine g_seq ?_
      refine g_seq ?_
      refine g_region ?_
      refine go_p rfl rfl rfl (o_move rfl) ?_
      refine go_p rfl rfl rfl (o_fieldAddr fi_52_11 rfl rfl rfl) ?_
      refine go_p rfl rfl rfl (o_load Tryz.isAgg50 rfl rfl) ?_
      refine go_p rfl rfl rfl (o_len Tryz.runUnderlying50 rfl) ?_
      refine go_p rfl rfl rfl (o_cmp rfl rfl rfl) ?_
      refine go_nil ?_
      refine g_cond rfl (fun hc2 => ?_) (fun hc2 => ?_)
      · replace hj2 := cond_t hc2 hj2
        refine g_skip ?_
        refine g_seq ?_
        refine g_block ?_
        obtain ⟨x3, hx3, hj2⟩ := bind_some hj2
        obtain ⟨x4, hx4, hj2⟩ := bind_some hj2
        obtain ⟨x5, hx5, hj2⟩ := bind_some hj2
        refine g_draw 19 Tryz_mixed (by decide +kernel) ?_
        refine gd_p rfl rfl rfl (o_fieldAddr_box fi_52_11 rfl) ?_
        refine gd_p rfl rfl rfl (o_load_box 2 Tryz.isAgg50 rfl rfl rfl rfl) ?_
        refine gd_p rfl rfl rfl (o_fieldAddr fi_52_11 rfl rfl rfl) ?_
        refine gd_p rfl rfl rfl (o_load Tryz.isAgg50 rfl rfl) ?_
        refine gd_p rfl rfl rfl (o_move rfl) ?_
        refine gd_p rfl rfl rfl (o_indexAddr_m Tryz.runUnderlying50 Tryz.sizeOf62 rfl rfl hx3) ?_
        refine gd_p rfl rfl rfl (o_fieldAddr fi_62_0 rfl rfl rfl) ?_
        refine gd_p rfl rfl rfl (o_load Tryz.isAgg9 rfl rfl) ?_
        refine gd_p rfl rfl rfl (o_move rfl) ?_
        refine gd_p rfl rfl rfl (o_fieldAddr fi_52_11 rfl rfl rfl) ?_
        refine gd_p rfl rfl rfl (o_load Tryz.isAgg50 rfl rfl) ?_
        refine gd_p rfl rfl rfl (o_move rfl) ?_
        refine gd_p rfl rfl rfl (o_indexAddr_m Tryz.runUnderlying50 Tryz.sizeOf62 rfl rfl hx4) ?_
        refine gd_p rfl rfl rfl (o_fieldAddr fi_62_1 rfl rfl rfl) ?_
        refine gd_p rfl rfl rfl (o_load Tryz.isAgg3 rfl rfl) ?_
        refine gd_p rfl rfl rfl (o_indexAddr_m Tryz.runUnderlying49 Tryz.sizeOf3 rfl rfl hx5) ?_
        refine gd_p rfl rfl rfl (o_load Tryz.isAgg3 rfl rfl) ?_
        refine gd_p rfl rfl rfl (o_build (zs := [.str [], .v (.int .i64 0)]) Tryz.runUnderlying62 Tryz.zeroValue62 (pl_62 _ Tryz.runUnderlying62) rfl rfl rfl rfl) ?_
        refine gd_p rfl rfl rfl (o_buildSlice (xs := [_]) (f := AutoEdge.d) (l := [(⟨x3.name, x5⟩ : AutoEdge)]) Tryz.runUnderlying50 Tryz.sizeOf62 Tryz.zeroValue62 rfl rfl rfl (fun _ => ⟨rfl, rfl, rfl⟩) rfl) ?_
        refine gd_nil ?_
        obtain ⟨hg6, hj2⟩ := grd_some hj2
        refine go_op rfl rfl rfl (o_append (a := _) 1 Tryz.underlying50 Tryz.type62 rfl rfl rfl rfl rfl rfl rfl (fun _ => rfl) (fun _ => rfl) hg6 (app_len hg6 rfl)) ?_
        rintro _ _ ⟨a_r1, cap_r1, rfl, rfl⟩
        refine go_ms (ms' := [_, _, box b2 52 [_, _, _, _, _, _, _, _, _, _, _, _, _], box b1 52 [_, _, _, _, _, _, _, _, _, _, _, _, _]]) rfl ?_
        refine go_p rfl rfl rfl (o_fieldAddr_box fi_52_11 rfl) ?_
        refine go_u rfl rfl (o_store_box 2 Tryz.sizeOf50 rfl rfl rfl rfl rfl rfl rfl rfl (Nat.le_of_ble_eq_true rfl)) ?_
        rintro _ _ rfl
        refine go_ms (ms' := [_, _, box b2 52 [_, _, _, _, _, _, _, _, _, _, _, _, _], box b1 52 [_, _, _, _, _, _, _, _, _, _, _, _, _]]) rfl ?_
        refine go_nil ?_
        refine g_region ?_
        refine go_p rfl rfl rfl (o_move rfl) ?_
        obtain ⟨hg7, hj2⟩ := grd_some hj2
        refine go_p rfl rfl rfl (o_add rfl rfl (i64_id hg7)) ?_
        refine go_p rfl rfl rfl (o_assign rfl) ?_
        refine go_nil ?_
        exact ⟨_, ((_, _), (_, _)), hj2, ⟨rfl, trivial⟩, ⟨rfl, rfl, rfl, rfl, trivial⟩, [], rfl⟩
      · replace hj2 := cond_f hc2 hj2
        refine g_exit ?_
        exact ⟨_, ((_, _), (_, _)), some_eq hj2, trivial, ⟨rfl, rfl, rfl, rfl, trivial⟩, [], rfl⟩
    · rintro ⟨l1, l2, z14, z15, z16, z17, z18, z19, z20, z21, z22, z23, z24⟩ ⟨⟨a_r2, cap_r2⟩, ⟨a_r1, cap_r1⟩⟩ hst
      subst hst
      refine k_norm (L' := [(1, _), (2, _), (4, _), (5, _)]) (ms' := [row a_r2 cap_r2 62 2 AutoEdge.d l1, row a_r1 cap_r1 62 2 AutoEdge.d l2, box b2 52 [.bool z14, .bool z15, .bool z16, .bool z17, .bool z18, .bool z19, .bool z20, .bool z21, .list 1 D.i64 z22, .i64 z23, .i64 z24, .v (.slice a_r1 l2.length cap_r1), .v (.slice a_r2 l1.length cap_r2)], _]) rfl rfl ?_
      refine g_seq ?_
      refine g_seq ?_
      refine g_region ?_
      refine go_p rfl rfl rfl (o_assign rfl) ?_
      refine go_nil ?_
      obtain ⟨o_3, hj3, hm3⟩ := bind_some hm2
      refine g_cut_m [(4, _), (5, _)] [(3, _)] (fun (st : ((List AutoEdge) × (List AutoEdge) × Bool × Bool × Bool × Bool × Bool × Bool × Bool × Bool × (List Int) × Int × Int)) (hid : (Option Addr × Nat) × (Option Addr × Nat)) => match st, hid with | (l5, l6, z36, z37, z38, z39, z40, z41, z42, z43, z44, z45, z46), ((a_r2, cap_r2), (a_r1, cap_r1)) => []) (fun F (st : ((List AutoEdge) × (List AutoEdge) × Bool × Bool × Bool × Bool × Bool × Bool × Bool × Bool × (List Int) × Int × Int)) (hid : (Option Addr × Nat) × (Option Addr × Nat)) => match st, hid with | (l5, l6, z36, z37, z38, z39, z40, z41, z42, z43, z44, z45, z46), ((a_r2, cap_r2), (a_r1, cap_r1)) => [row a_r2 cap_r2 62 2 AutoEdge.d l5, row a_r1 cap_r1 62 2 AutoEdge.d l6, box b2 52 [.bool z36, .bool z37, .bool z38, .bool z39, .bool z40, .bool z41, .bool z42, .bool z43, .list 1 D.i64 z44, .i64 z45, .i64 z46, .v (.slice a_r1 l6.length cap_r1), .v (.slice a_r2 l5.length cap_r2)], (nthF F 0)]) (fun st => st = o_3) ⟨rfl, rfl, trivial⟩ ⟨rfl, trivial⟩ ?_ ?_
      · skip
        refine g_block ?_
        refine g_loop_m [(1, _), (2, _), (4, _), (5, _)] [(3, _)] (fun (st : (Int × (List AutoEdge) × (List AutoEdge) × Bool × Bool × Bool × Bool × Bool × Bool × Bool × Bool × (List Int) × Int × Int)) (hid : (Option Addr × Nat) × (Option Addr × Nat)) => match st, hid with | (i2, l7, l8, z47, z48, z49, z50, z51, z52, z53, z54, z55, z56, z57), ((a_r2, cap_r2), (a_r1, cap_r1)) => [(7, .i64 i2)]) (fun F (st : (Int × (List AutoEdge) × (List AutoEdge) × Bool × Bool × Bool × Bool × Bool × Bool × Bool × Bool × (List Int) × Int × Int)) (hid : (Option Addr × Nat) × (Option Addr × Nat)) => match st, hid with | (i2, l7, l8, z47, z48, z49, z50, z51, z52, z53, z54, z55, z56, z57), ((a_r2, cap_r2), (a_r1, cap_r1)) => [row a_r2 cap_r2 62 2 AutoEdge.d l7, row a_r1 cap_r1 62 2 AutoEdge.d l8, box b2 52 [.bool z47, .bool z48, .bool z49, .bool z50, .bool z51, .bool z52, .bool z53, .bool z54, .list 1 D.i64 z55, .i64 z56, .i64 z57, .v (.slice a_r1 l8.length cap_r1), .v (.slice a_r2 l7.length cap_r2)], (nthF F 0)]) ((_, _), (_, _)) hj3 (fun _ => rfl) ⟨rfl, rfl, rfl, rfl, trivial⟩ ⟨rfl, trivial⟩ ⟨rfl, trivial⟩ rfl ?_
        rintro n ⟨i2, l7, l8, z47, z48, z49, z50, z51, z52, z53, z54, z55, z56, z57⟩ ⟨⟨a_r2, cap_r2⟩, ⟨a_r1, cap_r1⟩⟩ hj3
        rw [m_syntagmaref24_Moved_l2] at hj3
        refine g_norm (L' := [(7, .i64 i2), (1, _), (2, _), (4, _), (5, _)]) (ms' := [row a_r2 cap_r2 62 2 AutoEdge.d l7, row a_r1 cap_r1 62 2 AutoEdge.d l8, box b2 52 [.bool z47, .bool z48, .bool z49, .bool z50, .bool z51, .bool z52, .bool z53, .bool z54, .list 1 D.i64 z55, .i64 z56, .i64 z57, .v (.slice a_r1 l8.length cap_r1), .v (.slice a_r2 l7.length cap_r2)], _]) rfl rfl ?_
        refine g_seq ?_
        refine g_seq ?_
        refine g_region ?_
        refine go_p rfl rfl rfl (o_move rfl) ?_
        refine go_p rfl rfl rfl (o_fieldAddr fi_52_12 rfl rfl rfl) ?_
        refine go_p rfl rfl rfl (o_load Tryz.isAgg50 rfl rfl) ?_
        refine go_p rfl rfl rfl (o_len Tryz.runUnderlying50 rfl) ?_
        refine go_p rfl rfl rfl (o_cmp rfl rfl rfl) ?_
        refine go_nil ?_
        refine g_cond rfl (fun hc3 => ?_) (fun hc3 => ?_)
        · replace hj3 := cond_t hc3 hj3
          refine g_skip ?_
          refine g_seq ?_
          refine g_block ?_
          obtain ⟨x6, hx8, hj3⟩ := bind_some hj3
          obtain ⟨x7, hx9, hj3⟩ := bind_some hj3
          obtain ⟨x8, hx10, hj3⟩ := bind_some hj3
          refine g_draw 19 Tryz_mixed (by decide +kernel) ?_
          refine gd_p rfl rfl rfl (o_fieldAddr_box fi_52_12 rfl) ?_
          refine gd_p rfl rfl rfl (o_load_box 2 Tryz.isAgg50 rfl rfl rfl rfl) ?_
          refine gd_p rfl rfl rfl (o_fieldAddr fi_52_12 rfl rfl rfl) ?_
          refine gd_p rfl rfl rfl (o_load Tryz.isAgg50 rfl rfl) ?_
          refine gd_p rfl rfl rfl (o_move rfl) ?_
          refine gd_p rfl rfl rfl (o_indexAddr_m Tryz.runUnderlying50 Tryz.sizeOf62 rfl rfl hx8) ?_
          refine gd_p rfl rfl rfl (o_fieldAddr fi_62_0 rfl rfl rfl) ?_
          refine gd_p rfl rfl rfl (o_load Tryz.isAgg9 rfl rfl) ?_
          refine gd_p rfl rfl rfl (o_move rfl) ?_
          refine gd_p rfl rfl rfl (o_fieldAddr fi_52_12 rfl rfl rfl) ?_
          refine gd_p rfl rfl rfl (o_load Tryz.isAgg50 rfl rfl) ?_
          refine gd_p rfl rfl rfl (o_move rfl) ?_
          refine gd_p rfl rfl rfl (o_indexAddr_m Tryz.runUnderlying50 Tryz.sizeOf62 rfl rfl hx9) ?_
          refine gd_p rfl rfl rfl (o_fieldAddr fi_62_1 rfl rfl rfl) ?_
          refine gd_p rfl rfl rfl (o_load Tryz.isAgg3 rfl rfl) ?_
          refine gd_p rfl rfl rfl (o_indexAddr_m Tryz.runUnderlying49 Tryz.sizeOf3 rfl rfl hx10) ?_
          refine gd_p rfl rfl rfl (o_load Tryz.isAgg3 rfl rfl) ?_
          refine gd_p rfl rfl rfl (o_build (zs := [.str [], .v (.int .i64 0)]) Tryz.runUnderlying62 Tryz.zeroValue62 (pl_62 _ Tryz.runUnderlying62) rfl rfl rfl rfl) ?_
          refine gd_p rfl rfl rfl (o_buildSlice (xs := [_]) (f := AutoEdge.d) (l := [(⟨x6.name, x8⟩ : AutoEdge)]) Tryz.runUnderlying50 Tryz.sizeOf62 Tryz.zeroValue62 rfl rfl rfl (fun _ => ⟨rfl, rfl, rfl⟩) rfl) ?_
          refine gd_nil ?_
          obtain ⟨hg11, hj3⟩ := grd_some hj3
          refine go_op rfl rfl rfl (o_append (a := _) 0 Tryz.underlying50 Tryz.type62 rfl rfl rfl rfl rfl rfl rfl (fun _ => rfl) (fun _ => rfl) hg11 (app_len hg11 rfl)) ?_
          rintro _ _ ⟨a_r2, cap_r2, rfl, rfl⟩
          refine go_ms (ms' := [_, _, box b2 52 [_, _, _, _, _, _, _, _, _, _, _, _, _], box b1 52 [_, _, _, _, _, _, _, _, _, _, _, _, _]]) rfl ?_
          refine go_p rfl rfl rfl (o_fieldAddr_box fi_52_12 rfl) ?_
          refine go_u rfl rfl (o_store_box 2 Tryz.sizeOf50 rfl rfl rfl rfl rfl rfl rfl rfl (Nat.le_of_ble_eq_true rfl)) ?_
          rintro _ _ rfl
          refine go_ms (ms' := [_, _, box b2 52 [_, _, _, _, _, _, _, _, _, _, _, _, _], box b1 52 [_, _, _, _, _, _, _, _, _, _, _, _, _]]) rfl ?_
          refine go_nil ?_
          refine g_region ?_
          refine go_p rfl rfl rfl (o_move rfl) ?_
          obtain ⟨hg12, hj3⟩ := grd_some hj3
          refine go_p rfl rfl rfl (o_add rfl rfl (i64_id hg12)) ?_
          refine go_p rfl rfl rfl (o_assign rfl) ?_
          refine go_nil ?_
          exact ⟨_, ((_, _), (_, _)), hj3, ⟨rfl, trivial⟩, ⟨rfl, rfl, rfl, rfl, trivial⟩, [], rfl⟩
        · replace hj3 := cond_f hc3 hj3
          refine g_exit ?_
          exact ⟨_, ((_, _), (_, _)), some_eq hj3, trivial, ⟨rfl, rfl, trivial⟩, [], rfl⟩
      · rintro ⟨l5, l6, z36, z37, z38, z39, z40, z41, z42, z43, z44, z45, z46⟩ ⟨⟨a_r2, cap_r2⟩, ⟨a_r1, cap_r1⟩⟩ hst
        subst hst
        refine k_norm (L' := [(4, _), (5, _)]) (ms' := [row a_r2 cap_r2 62 2 AutoEdge.d l5, row a_r1 cap_r1 62 2 AutoEdge.d l6, box b2 52 [.bool z36, .bool z37, .bool z38, .bool z39, .bool z40, .bool z41, .bool z42, .bool z43, .list 1 D.i64 z44, .i64 z45, .i64 z46, .v (.slice a_r1 l6.length cap_r1), .v (.slice a_r2 l5.length cap_r2)], _]) rfl rfl ?_
        refine g_seq ?_
        refine g_region ?_
        refine go_p rfl rfl rfl (o_load_box_agg 2 Tryz.isAgg52 Tryz.sizeOf52 rfl rfl rfl rfl (Nat.le_of_ble_eq_true rfl)) ?_
        refine go_conv (peekAggE (i := 81) (q := 11) 1 rfl rfl rfl rfl rfl).refines ?_
        refine go_conv (peekAggE (i := 81) (q := 12) 0 rfl rfl rfl rfl rfl).refines ?_
        refine go_u rfl rfl (o_store_box 3 Tryz.sizeOf52 rfl rfl rfl rfl rfl rfl rfl rfl (Nat.le_of_ble_eq_true rfl)) ?_
        rintro _ _ rfl
        refine go_ms (ms' := [_, _, box b2 52 [_, _, _, _, _, _, _, _, _, _, _, _, _], box b1 52 [_, _, _, _, _, _, _, _, _, _, _, _, _]]) rfl ?_
        refine go_nil ?_
        refine g_ret ?_
        exact retK (ret_one' rfl (ret_cell 3 rfl rfl rfl Tryz.isAgg52 Tryz.sizeOf52 rfl) (perm_drop _)) (congrArg (fun (p : AutoState) => (AutoState.d p : D)) (some_eq hm3))
def m_syntagmaref24_Norm_l2 (x3 : (List Int)) : Nat → (Int × (List Int)) → Option (List Int)
  | 0, _ => none
  | n + 1, (k1, l4) =>
    bif (decide (k1 < (x3.length : Int))) then
      (idx x3 k1).bind fun x4 =>
      (m_syntagmabase_HasInt l4 x4).bind fun x5 =>
      bif (!x5) then
        (idx x3 k1).bind fun x6 =>
        grd ((l4.length + ([x6] : List _).length) * 8 ≤ 140737488355328) <|
        grd (InR (k1 + 1)) <|
        m_syntagmaref24_Norm_l2 x3 n ((k1 + 1), (l4 ++ [x6]))
      else
        grd (InR (k1 + 1)) <|
        m_syntagmaref24_Norm_l2 x3 n ((k1 + 1), l4)
    else
      some l4
def m_syntagmaref24_Norm_l1 (a1 : AutoAuto) : Nat → (Int × (List Int)) → Option (List Int)
  | 0, _ => none
  | n + 1, (i1, l2) =>
    bif (decide (i1 < (l2.length : Int))) then
      (idx l2 i1).bind fun x1 =>
      (idx a1.l x1).bind fun x2 =>
      (m_syntagmaref24_Next x2).bind fun x3 =>
      (m_syntagmaref24_Norm_l2 x3 FU (0, l2) : Option (List Int)).bind fun l3 =>
      grd (InR (i1 + 1)) <|
      m_syntagmaref24_Norm_l1 a1 n ((i1 + 1), l3)
    else
      some l2
def m_syntagmaref24_Norm_l3 (l1 : (List Int)) : Nat → (Int × (List Int)) → Option (List Int)
  | 0, _ => none
  | n + 1, (i2, l6) =>
    bif (decide (i2 < (l1.length : Int))) then
      (idx l1 i2).bind fun x7 =>
      (idx l6 x7).bind fun x8 =>
      grd (InR (i2 + 1)) <|
      m_syntagmaref24_Norm_l3 l1 n ((i2 + 1), (l6.set (x7).toNat i2))
    else
      some l6
def m_syntagmaref24_Norm_l4 (a1 : AutoAuto) (l1 : (List Int)) (l5 : (List Int)) : Nat → (Int × (List AutoState) × Int) → Option ((List AutoState) × Int)
  | 0, _ => none
  | n + 1, (i3, l8, z2) =>
    bif (decide (i3 < (l1.length : Int))) then
      (idx l1 i3).bind fun x9 =>
      (idx a1.l x9).bind fun x10 =>
      (m_syntagmaref24_Moved x10 l5).bind fun x11 =>
      grd ((l8.length + ([x11] : List _).length) * 96 ≤ 140737488355328) <|
      grd (InR (i3 + 1)) <|
      m_syntagmaref24_Norm_l4 a1 l1 l5 n ((i3 + 1), (l8 ++ [x11]), z2)
    else
      some (l8, z2)
def m_syntagmaref24_Norm (a1 : AutoAuto) : Option AutoAuto :=
  (m_syntagmaref24_Norm_l1 a1 FU (0, [a1.start]) : Option (List Int)).bind fun l1 =>
  grd (0 ≤ (a1.l.length : Int)) <|
  grd (((a1.l.length : Int)).toNat * 8 ≤ 140737488355328) <|
  (m_syntagmaref24_Norm_l3 l1 FU (0, (List.replicate ((a1.l.length : Int)).toNat (0 : Int))) : Option (List Int)).bind fun l5 =>
  (m_syntagmaref24_Norm_l4 a1 l1 l5 FU (0, ([] : List AutoState), 0) : Option ((List AutoState) × Int)).bind fun (l7, z1) =>
  some (⟨l7, z1⟩ : AutoAuto)
end Go.Proofs.YtafphfokopkhdaaGreat
