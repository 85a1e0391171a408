/- Part 4 of the proof: a program logic, what the functions compute, and what these answer; no condition. -/
import Derived.Test.Ytafphfokopkhdaap3
import Derived.Shelf.Sort.Plain
import Derived.Ground.Names2Prog
import Derived.Shelf.Slices.CompactI
import Derived.Shelf.Slices.In.SortNone
import Derived.Test.YtafphfokopkhdaaProg
set_option linter.unusedVariables false
set_option linter.unusedSimpArgs false
set_option maxRecDepth 100000
set_option maxHeartbeats 2000000
namespace Go.Proofs.Ytafphfokopkhdaa
open Go.V
theorem w_vars_Drop {a1 : AutoAuto} {r_1 : AutoAuto} {r_2 : Int} (hm : m_vars_Drop a1 = some (r_1, r_2)) : Fn0 Try.prog 48 [AutoAuto.d a1] (.tup [AutoAuto.d r_1, .i64 r_2]) := by
  unfold m_vars_Drop at hm
  replace hm := allO_some hm
  refine fn_intro Try.func48 rfl Try.ntmps48 rfl fun H0 fr w0 => ?_
  refine g_seq ?_
  refine g_region ?_
  refine go_p rfl rfl rfl (o_box rfl rfl) ?_
  refine go_op rfl rfl rfl (o_alloc_own Try.zeroValue77 (cs := [.list 13 AutoState.d [], .i64 0]) rfl) ?_
  rintro _ _ ⟨b1, rfl, rfl⟩
  refine go_p rfl rfl rfl (o_assign rfl) ?_
  refine go_nil ?_
  refine g_seq ?_
  refine g_region ?_
  refine go_p rfl rfl rfl (o_load_agg Try.isAgg77 Try.sizeOf77 rfl rfl) ?_
  obtain ⟨⟨x1, s1⟩, hx1, hm⟩ := all_bind _ ords_id hm
  refine go_op rfl rfl rfl (o_call (ms₁ := []) Try.call90 rfl (List.Perm.refl _) (w_auto_NormO hx1)) ?_
  rintro _ _ ⟨_, ⟨a_r1, m_r1, cap_r1, rfl, rfl⟩, rfl⟩
  refine go_p rfl rfl rfl (o_move rfl) ?_
  refine go_p rfl rfl rfl (o_extract rfl rfl) ?_
  refine go_p rfl rfl rfl (o_extract rfl rfl) ?_
  refine go_op rfl rfl rfl (o_alloc_own Try.zeroValue77 (cs := [.list 13 AutoState.d [], .i64 0]) rfl) ?_
  rintro _ _ ⟨b2, rfl, rfl⟩
  refine go_u rfl rfl (o_store_box 0 Try.sizeOf77 rfl rfl rfl rfl rfl rfl rfl rfl (Nat.le_of_ble_eq_true rfl)) ?_
  rintro _ _ rfl
  refine go_ms (ms' := [box b2 77 [_, _], _, box b1 77 [_, _]]) rfl ?_
  refine go_p rfl rfl rfl (o_assign rfl) ?_
  refine go_nil ?_
  refine g_seq ?_
  refine g_seq ?_
  refine g_region ?_
  refine go_p rfl rfl rfl (o_move rfl) ?_
  refine go_p rfl rfl rfl (o_cmp rfl rfl rfl) ?_
  refine go_nil ?_
  refine g_cond rfl (fun hc1 => ?_) (fun hc1 => ?_)
  · replace hm := fun i hi => cond_t hc1 (hm i hi)
    refine g_seq ?_
    refine g_region ?_
    refine go_p rfl rfl rfl (o_build (zs := [.list 13 AutoState.d [], .v (.int .i64 0)]) Try.runUnderlying77 Try.zeroValue77 (pl_77 _ Try.runUnderlying77) rfl rfl rfl rfl) ?_
    refine go_p rfl rfl rfl (o_move rfl) ?_
    refine go_u rfl rfl (o_store_box 2 Try.sizeOf77 rfl rfl rfl rfl rfl rfl rfl rfl (Nat.le_of_ble_eq_true rfl)) ?_
    rintro _ _ rfl
    refine go_ms (ms' := [box b2 77 [_, _], _, box b1 77 [_, _]]) rfl ?_
    refine go_p rfl rfl rfl (o_assign rfl) ?_
    refine go_nil ?_
    refine g_ret ?_
    replace hm := hm _ ords_id
    exact retK (ret_many (ds := [_, _]) rfl (by decide) ⟨ret_cell 2 rfl rfl rfl Try.isAgg77 Try.sizeOf77 rfl, ⟨ret_tmp rfl, rfl⟩⟩ (perm_drop _)) (congrArg (fun (p : (AutoAuto × Int)) => D.tup [AutoAuto.d p.1, .i64 p.2]) (some_eq hm))
  · replace hm := fun i hi => cond_f hc1 (hm i hi)
    refine g_skip ?_
    refine g_seq ?_
    refine g_region ?_
    refine go_op rfl rfl rfl (o_makeMap (fk := kI64) (fv := D.i64)) ?_
    rintro _ _ ⟨b3, rfl, rfl⟩
    refine go_p rfl rfl rfl (o_assign rfl) ?_
    refine go_nil ?_
    refine g_seq ?_
    refine g_seq ?_
    refine g_region ?_
    refine go_p rfl rfl rfl (o_load_box_agg 1 Try.isAgg77 Try.sizeOf77 rfl rfl rfl rfl (Nat.le_of_ble_eq_true rfl)) ?_
    obtain ⟨mm1, hx2, hm⟩ := all_bind _ ords_id hm
    refine go_op rfl rfl rfl (o_call Try.call91 rfl ((permA 2 rfl permN).trans List.perm_append_comm) (w_vars_sides hx2)) ?_
    rintro _ _ ⟨_, ⟨b4, rfl, rfl⟩, rfl⟩
    refine go_ms (ms' := [_, _, _, box b2 77 [_, _], box b1 77 [_, _]]) rfl ?_
    refine go_op rfl rfl rfl (o_range_map 1 Try.underlying139 rfl rfl) ?_
    rintro _ _ ⟨r5, rfl, rfl⟩
    refine go_nil ?_
    refine g_block ?_
    refine g_loop_map [(2, _), (4, _), (5, _), (6, _), (21, _)] [(0, _), (3, _), (4, _)] (fun (st : (List (Int × Int))) (hid : Unit) => match st, hid with | mm2, _ => []) (fun F rest1 last1 (st : (List (Int × Int))) (hid : Unit) => match st, hid with | mm2, _ => [(nthF F 0), mpi b4 r5 kI64 D.i64 mm1 rest1 last1, mp b3 kI64 D.i64 mm2, (nthF F 1), (nthF F 2)]) none () (ord_at (ll := mm1) (φ := fun q => m_vars_Drop_l1 x1 s1 q ([] : List (Int × Int))) hm) ⟨rfl, rfl, rfl, rfl, rfl, trivial⟩ ⟨rfl, rfl, rfl, trivial⟩ trivial rfl ?_
    rintro rest1 last1 mm2 _ hm
    refine g_norm (L' := [(2, _), (4, _), (5, _), (6, _), (21, _)]) (ms' := [_, mpi b4 r5 kI64 D.i64 mm1 rest1 last1, mp b3 kI64 D.i64 mm2, _, _]) rfl rfl ?_
    refine g_seq ?_
    refine g_region ?_
    refine go_op rfl rfl rfl (o_next_map 1 rfl rfl) ?_
    rintro _ _ (⟨hr1, rfl, rfl⟩ | ⟨i1, ⟨k1, v1⟩, hi1, rfl, rfl⟩)
    · skip
      subst hr1
      replace hm := hm [] (List.Perm.refl _)
      rw [m_vars_Drop_l1] at hm
      refine go_conv (refines_mpi 1 rfl rfl) ?_
      refine go_p rfl rfl rfl (o_extract rfl rfl) ?_
      refine go_nil ?_
      refine g_seq ?_
      refine g_cond_false rfl rfl ?_
      refine g_exit ?_
      refine g_seq ?_
      refine g_region ?_
      refine go_p rfl rfl rfl (o_load_box_agg 3 Try.isAgg77 Try.sizeOf77 rfl rfl rfl rfl (Nat.le_of_ble_eq_true rfl)) ?_
      refine go_p rfl rfl rfl (o_move rfl) ?_
      obtain ⟨s2, hx3, hm⟩ := bind_some hm
      refine go_op rfl rfl rfl (o_call_own [0, 2] Try.call94 rfl rfl (getL_c rfl (getL_c rfl getL_n)) (w_vars_with hx3) (by rintro _ _ ⟨rfl, rfl⟩; rfl)) ?_
      rintro _ _ ⟨_, ⟨rfl, rfl⟩, rfl⟩
      refine go_ms (ms' := [_, _, _, box b2 77 [_, _], box b1 77 [_, _]]) rfl ?_
      refine go_p rfl rfl rfl (o_move rfl) ?_
      refine go_u rfl rfl (o_store_box 4 Try.sizeOf77 rfl rfl rfl rfl rfl rfl rfl rfl (Nat.le_of_ble_eq_true rfl)) ?_
      rintro _ _ rfl
      refine go_ms (ms' := [_, _, _, box b2 77 [_, _], box b1 77 [_, _]]) rfl ?_
      refine go_p rfl rfl rfl (o_assign rfl) ?_
      refine go_nil ?_
      refine g_thaw 0 rfl rfl ?_
      rintro rfl
      refine g_conv (refines_cellrow 4 0 0 rfl rfl rfl rfl rfl rfl) ?_
      refine g_ret ?_
      exact retK (ret_many (ds := [_, _]) rfl (by decide) ⟨ret_cell 4 rfl rfl rfl Try.isAgg77 Try.sizeOf77 rfl, ⟨ret_tmp rfl, rfl⟩⟩ (perm_drop _)) (congrArg (fun (p : (AutoAuto × Int)) => D.tup [AutoAuto.d p.1, .i64 p.2]) (some_eq hm))
    · skip
      replace hm := fun q hq => hm ((k1, v1) :: q) (perm_at_i hi1 hq)
      simp only [m_vars_Drop_l1] at hm
      refine go_ms (ms' := [_, _, _, box b2 77 [_, _], box b1 77 [_, _]]) rfl ?_
      refine go_p rfl rfl rfl (o_extract rfl rfl) ?_
      refine go_nil ?_
      refine g_seq ?_
      refine g_cond_true rfl rfl ?_
      refine g_skip ?_
      refine g_block ?_
      refine g_seq ?_
      refine g_region ?_
      refine go_p rfl rfl rfl (o_entry_map 1 rfl rfl) ?_
      refine go_p rfl rfl rfl (o_extract rfl rfl) ?_
      refine go_p rfl rfl rfl (o_extract rfl rfl) ?_
      refine go_p rfl rfl rfl (o_assign rfl) ?_
      refine go_p rfl rfl rfl (o_assign rfl) ?_
      refine go_nil ?_
      refine g_seq ?_
      refine g_region ?_
      refine go_p rfl rfl rfl (o_move rfl) ?_
      refine go_p rfl rfl rfl (o_cmp rfl rfl rfl) ?_
      refine go_nil ?_
      refine g_cond rfl (fun hc2 => ?_) (fun hc2 => ?_)
      · replace hm := fun i hi => cond_t hc2 (hm i hi)
        refine g_region ?_
        refine go_p rfl rfl rfl (o_move rfl) ?_
        refine go_p rfl rfl rfl (o_move rfl) ?_
        refine go_p rfl rfl rfl (o_move rfl) ?_
        refine go_u rfl rfl (o_mapUpdate (v := k1) 2 Try.runUnderlying139 (keyI64 Try.underlying3) rfl rfl rfl rfl) ?_
        rintro _ _ rfl
        refine go_nil ?_
        exact ⟨_, _, _, (), erase_lt hi1, hm, trivial, ⟨rfl, rfl, rfl, rfl, rfl, trivial⟩, [], rfl⟩
      · replace hm := fun i hi => cond_f hc2 (hm i hi)
        refine g_skip ?_
        exact ⟨_, _, _, (), erase_lt hi1, hm, trivial, ⟨rfl, rfl, rfl, rfl, rfl, trivial⟩, [], rfl⟩
def m_vars_Rename_l2 (x3 : AutoState) : Nat → (Int × (List (Int × Int))) → Option (List (Int × Int))
  | 0, _ => none
  | n + 1, (x4, mm4) =>
    bif (decide (x4 < (x3.vars.length : Int))) then
      (idx x3.vars x4).bind fun x5 =>
      bif (!(mget mm4 x5).isSome) then
        grd (InR (x4 + 1)) <|
        m_vars_Rename_l2 x3 n ((x4 + 1), (mset mm4 x5 (mm4.length : Int)))
      else
        grd (InR (x4 + 1)) <|
        m_vars_Rename_l2 x3 n ((x4 + 1), mm4)
    else
      some mm4
def m_vars_Rename_l1 (s1 : AutoAuto) : Nat → (Int × (List (Int × Int))) → Option (List (Int × Int))
  | 0, _ => none
  | n + 1, (x2, mm2) =>
    bif (decide (x2 < (s1.l.length : Int))) then
      (idx s1.l x2).bind fun x3 =>
      (m_vars_Rename_l2 x3 FU (0, mm2) : Option (List (Int × Int))).bind fun mm3 =>
      grd (InR (x2 + 1)) <|
      m_vars_Rename_l1 s1 n ((x2 + 1), mm3)
    else
      some mm2
def m_vars_Rename (a1 : AutoAuto) : Option (AutoAuto × Int) :=
  (m_auto_NormO a1).bind fun (x1, s1) =>
  bif (!decide (x1 = 0)) then
    some ((⟨([] : List AutoState), 0⟩ : AutoAuto), x1)
  else
    (m_vars_Rename_l1 s1 FU (0, ([] : List (Int × Int))) : Option (List (Int × Int))).bind fun mm1 =>
    (m_vars_with (⟨s1.l, s1.start⟩ : AutoAuto) mm1).bind fun s2 =>
    some ((⟨s2.l, s2.start⟩ : AutoAuto), x1)
theorem w_vars_Rename {a1 : AutoAuto} {r_1 : AutoAuto} {r_2 : Int} (hm : m_vars_Rename a1 = some (r_1, r_2)) : Fn0 Try.prog 49 [AutoAuto.d a1] (.tup [AutoAuto.d r_1, .i64 r_2]) := by
  unfold m_vars_Rename at hm
  refine fn_intro Try.func49 rfl Try.ntmps49 rfl fun H0 fr w0 => ?_
  refine g_seq ?_
  refine g_region ?_
  refine go_p rfl rfl rfl (o_box rfl rfl) ?_
  refine go_op rfl rfl rfl (o_alloc_own Try.zeroValue77 (cs := [.list 13 AutoState.d [], .i64 0]) rfl) ?_
  rintro _ _ ⟨b1, rfl, rfl⟩
  refine go_p rfl rfl rfl (o_assign rfl) ?_
  refine go_nil ?_
  refine g_seq ?_
  refine g_region ?_
  refine go_p rfl rfl rfl (o_load_agg Try.isAgg77 Try.sizeOf77 rfl rfl) ?_
  obtain ⟨⟨x1, s1⟩, hx1, hm⟩ := bind_some hm
  refine go_op rfl rfl rfl (o_call (ms₁ := []) Try.call90 rfl (List.Perm.refl _) (w_auto_NormO hx1)) ?_
  rintro _ _ ⟨_, ⟨a_r1, m_r1, cap_r1, rfl, rfl⟩, rfl⟩
  refine go_p rfl rfl rfl (o_move rfl) ?_
  refine go_p rfl rfl rfl (o_extract rfl rfl) ?_
  refine go_p rfl rfl rfl (o_extract rfl rfl) ?_
  refine go_op rfl rfl rfl (o_alloc_own Try.zeroValue77 (cs := [.list 13 AutoState.d [], .i64 0]) rfl) ?_
  rintro _ _ ⟨b2, rfl, rfl⟩
  refine go_u rfl rfl (o_store_box 0 Try.sizeOf77 rfl rfl rfl rfl rfl rfl rfl rfl (Nat.le_of_ble_eq_true rfl)) ?_
  rintro _ _ rfl
  refine go_ms (ms' := [box b2 77 [_, _], _, box b1 77 [_, _]]) rfl ?_
  refine go_p rfl rfl rfl (o_assign rfl) ?_
  refine go_nil ?_
  refine g_seq ?_
  refine g_seq ?_
  refine g_region ?_
  refine go_p rfl rfl rfl (o_move rfl) ?_
  refine go_p rfl rfl rfl (o_cmp rfl rfl rfl) ?_
  refine go_nil ?_
  refine g_cond rfl (fun hc1 => ?_) (fun hc1 => ?_)
  · replace hm := cond_t hc1 hm
    refine g_seq ?_
    refine g_region ?_
    refine go_p rfl rfl rfl (o_build (zs := [.list 13 AutoState.d [], .v (.int .i64 0)]) Try.runUnderlying77 Try.zeroValue77 (pl_77 _ Try.runUnderlying77) rfl rfl rfl rfl) ?_
    refine go_p rfl rfl rfl (o_move rfl) ?_
    refine go_u rfl rfl (o_store_box 2 Try.sizeOf77 rfl rfl rfl rfl rfl rfl rfl rfl (Nat.le_of_ble_eq_true rfl)) ?_
    rintro _ _ rfl
    refine go_ms (ms' := [box b2 77 [_, _], _, box b1 77 [_, _]]) rfl ?_
    refine go_p rfl rfl rfl (o_assign rfl) ?_
    refine go_nil ?_
    refine g_ret ?_
    exact retK (ret_many (ds := [_, _]) rfl (by decide) ⟨ret_cell 2 rfl rfl rfl Try.isAgg77 Try.sizeOf77 rfl, ⟨ret_tmp rfl, rfl⟩⟩ (perm_drop _)) (congrArg (fun (p : (AutoAuto × Int)) => D.tup [AutoAuto.d p.1, .i64 p.2]) (some_eq hm))
  · replace hm := cond_f hc1 hm
    refine g_skip ?_
    refine g_seq ?_
    refine g_region ?_
    refine go_op rfl rfl rfl (o_makeMap (fk := kI64) (fv := D.i64)) ?_
    rintro _ _ ⟨b3, rfl, rfl⟩
    refine go_p rfl rfl rfl (o_assign rfl) ?_
    refine go_nil ?_
    refine g_seq ?_
    refine g_seq ?_
    refine g_region ?_
    refine go_p rfl rfl rfl (o_fieldAddr_box fi_77_0 rfl) ?_
    refine go_p rfl rfl rfl (o_load_box 1 Try.isAgg75 rfl rfl rfl rfl) ?_
    refine go_p rfl rfl rfl (o_len_arr 2 Try.runUnderlying75 rfl rfl) ?_
    refine go_p rfl rfl rfl (o_move rfl) ?_
    refine go_nil ?_
    obtain ⟨o_1, hj1, hm1⟩ := bind_some hm
    refine g_cut_m [(2, _), (4, _), (5, _), (6, _)] [(1, _), (2, _), (3, _)] (fun (st : (List (Int × Int))) (hid : Unit) => match st, hid with | mm1, _ => []) (fun F (st : (List (Int × Int))) (hid : Unit) => match st, hid with | mm1, _ => [mp b3 kI64 D.i64 mm1, (nthF F 0), (nthF F 1), (nthF F 2)]) (fun st => st = o_1) ⟨rfl, rfl, rfl, rfl, trivial⟩ ⟨rfl, rfl, rfl, trivial⟩ ?_ ?_
    · skip
      refine g_block ?_
      refine g_loop_m [(2, _), (4, _), (5, _), (6, _), (24, _), (25, _)] [(1, _), (2, _), (3, _)] (fun (st : (Int × (List (Int × Int)))) (hid : Unit) => match st, hid with | (x2, mm2), _ => [(26, .i64 x2)]) (fun F (st : (Int × (List (Int × Int)))) (hid : Unit) => match st, hid with | (x2, mm2), _ => [mp b3 kI64 D.i64 mm2, (nthF F 0), (nthF F 1), (nthF F 2)]) () hj1 (fun _ => rfl) ⟨rfl, rfl, rfl, rfl, rfl, rfl, trivial⟩ ⟨rfl, rfl, rfl, trivial⟩ ⟨rfl, trivial⟩ rfl ?_
      rintro n ⟨x2, mm2⟩ _ hj1
      rw [m_vars_Rename_l1] at hj1
      refine g_norm (L' := [(26, .i64 x2), (2, _), (4, _), (5, _), (6, _), (24, _), (25, _)]) (ms' := [mp b3 kI64 D.i64 mm2, _, _, _]) rfl rfl ?_
      refine g_seq ?_
      refine g_region ?_
      refine go_p rfl rfl rfl (o_cmp rfl rfl rfl) ?_
      refine go_nil ?_
      refine g_seq ?_
      refine g_cond rfl (fun hc2 => ?_) (fun hc2 => ?_)
      · replace hj1 := cond_t hc2 hj1
        refine g_skip ?_
        refine g_seq ?_
        refine g_block ?_
        refine g_seq ?_
        refine g_region ?_
        obtain ⟨x3, hx2, hj1⟩ := bind_some hj1
        refine go_p rfl rfl rfl (o_indexAddr_arr 2 Try.runUnderlying75 Try.sizeOf135 rfl rfl rfl hx2) ?_
        refine go_p rfl rfl rfl (o_load_arr_agg 2 Try.isAgg135 Try.sizeOf135 rfl rfl (idx_some hx2).2 rfl rfl) ?_
        refine go_op rfl rfl rfl (o_alloc_own Try.zeroValue135 (cs := [.bool false, .bool false, .bool false, .bool false, .bool false, .bool false, .bool false, .bool false, .list 1 D.i64 [], .i64 0, .i64 0, .list 2 AutoEdge.d [], .list 2 AutoEdge.d []]) rfl) ?_
        rintro _ _ ⟨b4, rfl, rfl⟩
        refine go_u rfl rfl (o_store_box 0 Try.sizeOf135 rfl rfl rfl rfl rfl rfl rfl rfl (Nat.le_of_ble_eq_true rfl)) ?_
        rintro _ _ rfl
        refine go_ms (ms' := [box b4 135 [_, _, _, _, _, _, _, _, _, _, _, _, _], _, box b2 77 [_, _], _, box b1 77 [_, _]]) rfl ?_
        refine go_nil ?_
        refine g_seq ?_
        refine g_region ?_
        refine go_p rfl rfl rfl (o_fieldAddr_box fi_135_8 rfl) ?_
        refine go_p rfl rfl rfl (o_load_box 0 Try.isAgg28 rfl rfl rfl rfl) ?_
        refine go_p rfl rfl rfl (o_len Try.runUnderlying28 rfl) ?_
        refine go_p rfl rfl rfl (o_move rfl) ?_
        refine go_nil ?_
        obtain ⟨o_2, hj2, hm2⟩ := bind_some hj1
        refine g_cut_m [(2, _), (4, _), (5, _), (6, _), (24, _), (25, _), (26, _)] [(0, _), (2, _), (3, _), (4, _)] (fun (st : (List (Int × Int))) (hid : Unit) => match st, hid with | mm3, _ => []) (fun F (st : (List (Int × Int))) (hid : Unit) => match st, hid with | mm3, _ => [(nthF F 0), mp b3 kI64 D.i64 mm3, (nthF F 1), (nthF F 2), (nthF F 3)]) (fun st => st = o_2) ⟨rfl, rfl, rfl, rfl, rfl, rfl, rfl, trivial⟩ ⟨rfl, rfl, rfl, rfl, trivial⟩ ?_ ?_
        · skip
          refine g_block ?_
          refine g_loop_m [(2, _), (4, _), (5, _), (6, _), (24, _), (25, _), (26, _), (31, _), (32, _)] [(0, _), (2, _), (3, _), (4, _)] (fun (st : (Int × (List (Int × Int)))) (hid : Unit) => match st, hid with | (x4, mm4), _ => [(33, .i64 x4)]) (fun F (st : (Int × (List (Int × Int)))) (hid : Unit) => match st, hid with | (x4, mm4), _ => [(nthF F 0), mp b3 kI64 D.i64 mm4, (nthF F 1), (nthF F 2), (nthF F 3)]) () hj2 (fun _ => rfl) ⟨rfl, rfl, rfl, rfl, rfl, rfl, rfl, rfl, rfl, trivial⟩ ⟨rfl, rfl, rfl, rfl, trivial⟩ ⟨rfl, trivial⟩ rfl ?_
          rintro n ⟨x4, mm4⟩ _ hj2
          rw [m_vars_Rename_l2] at hj2
          refine g_norm (L' := [(33, .i64 x4), (2, _), (4, _), (5, _), (6, _), (24, _), (25, _), (26, _), (31, _), (32, _)]) (ms' := [_, mp b3 kI64 D.i64 mm4, _, _, _]) rfl rfl ?_
          refine g_seq ?_
          refine g_region ?_
          refine go_p rfl rfl rfl (o_cmp rfl rfl rfl) ?_
          refine go_nil ?_
          refine g_seq ?_
          refine g_cond rfl (fun hc3 => ?_) (fun hc3 => ?_)
          · replace hj2 := cond_t hc3 hj2
            refine g_skip ?_
            refine g_seq ?_
            refine g_block ?_
            refine g_seq ?_
            refine g_region ?_
            obtain ⟨x5, hx3, hj2⟩ := bind_some hj2
            refine go_p rfl rfl rfl (o_indexAddr_m Try.runUnderlying28 Try.sizeOf3 rfl rfl hx3) ?_
            refine go_p rfl rfl rfl (o_load Try.isAgg3 rfl rfl) ?_
            refine go_p rfl rfl rfl (o_assign rfl) ?_
            refine go_nil ?_
            refine g_seq ?_
            refine g_region ?_
            refine go_p rfl rfl rfl (o_move rfl) ?_
            refine go_p rfl rfl rfl (o_move rfl) ?_
            refine go_p rfl rfl rfl (o_lookup2 (z0 := (0 : Int)) 1 Try.runUnderlying139 (keyI64 Try.underlying3) Try.zeroValue3 (fun _ => conc_v.2 rfl) rfl rfl rfl) ?_
            refine go_p rfl rfl rfl (o_move rfl) ?_
            refine go_p rfl rfl rfl (o_extract rfl rfl) ?_
            refine go_p rfl rfl rfl (o_extract rfl rfl) ?_
            refine go_p rfl rfl rfl (o_assign rfl) ?_
            refine go_p rfl rfl rfl (o_assign rfl) ?_
            refine go_nil ?_
            refine g_seq ?_
            refine g_region ?_
            refine go_p rfl rfl rfl (o_move rfl) ?_
            refine go_p rfl rfl rfl (o_not rfl) ?_
            refine go_nil ?_
            refine g_cond rfl (fun hc4 => ?_) (fun hc4 => ?_)
            · replace hj2 := cond_t hc4 hj2
              refine g_region ?_
              refine go_p rfl rfl rfl (o_move rfl) ?_
              refine go_p rfl rfl rfl (o_move rfl) ?_
              refine go_p rfl rfl rfl (o_move rfl) ?_
              refine go_p rfl rfl rfl (o_len_map 1 Try.runUnderlying139 rfl rfl) ?_
              refine go_u rfl rfl (o_mapUpdate (v := (mm4.length : Int)) 1 Try.runUnderlying139 (keyI64 Try.underlying3) rfl rfl rfl rfl) ?_
              rintro _ _ rfl
              refine go_nil ?_
              refine g_region ?_
              obtain ⟨hg4, hj2⟩ := grd_some hj2
              refine go_p rfl rfl rfl (o_add rfl rfl (i64_id hg4)) ?_
              refine go_p rfl rfl rfl (o_move rfl) ?_
              refine go_nil ?_
              exact ⟨_, (), hj2, ⟨rfl, trivial⟩, ⟨rfl, rfl, rfl, rfl, rfl, rfl, rfl, rfl, rfl, trivial⟩, [], rfl⟩
            · replace hj2 := cond_f hc4 hj2
              refine g_skip ?_
              refine g_region ?_
              obtain ⟨hg5, hj2⟩ := grd_some hj2
              refine go_p rfl rfl rfl (o_add rfl rfl (i64_id hg5)) ?_
              refine go_p rfl rfl rfl (o_move rfl) ?_
              refine go_nil ?_
              exact ⟨_, (), hj2, ⟨rfl, trivial⟩, ⟨rfl, rfl, rfl, rfl, rfl, rfl, rfl, rfl, rfl, trivial⟩, [], rfl⟩
          · replace hj2 := cond_f hc3 hj2
            refine g_exit ?_
            exact ⟨_, (), some_eq hj2, trivial, ⟨rfl, rfl, rfl, rfl, rfl, rfl, rfl, trivial⟩, [], rfl⟩
        · rintro mm3 _ hst
          subst hst
          refine k_norm (L' := [(2, _), (4, _), (5, _), (6, _), (24, _), (25, _), (26, _)]) (ms' := [_, mp b3 kI64 D.i64 mm3, _, _, _]) rfl rfl ?_
          refine g_region ?_
          obtain ⟨hg6, hm2⟩ := grd_some hm2
          refine go_p rfl rfl rfl (o_add rfl rfl (i64_id hg6)) ?_
          refine go_p rfl rfl rfl (o_move rfl) ?_
          refine go_nil ?_
          exact ⟨_, (), hm2, ⟨rfl, trivial⟩, ⟨rfl, rfl, rfl, rfl, rfl, rfl, trivial⟩, [_], rfl⟩
      · replace hj1 := cond_f hc2 hj1
        refine g_exit ?_
        exact ⟨_, (), some_eq hj1, trivial, ⟨rfl, rfl, rfl, rfl, trivial⟩, [], rfl⟩
    · rintro mm1 _ hst
      subst hst
      refine k_norm (L' := [(2, _), (4, _), (5, _), (6, _)]) (ms' := [mp b3 kI64 D.i64 mm1, _, _, _]) rfl rfl ?_
      refine g_seq ?_
      refine g_region ?_
      refine go_p rfl rfl rfl (o_load_box_agg 1 Try.isAgg77 Try.sizeOf77 rfl rfl rfl rfl (Nat.le_of_ble_eq_true rfl)) ?_
      refine go_p rfl rfl rfl (o_move rfl) ?_
      obtain ⟨s2, hx7, hm1⟩ := bind_some hm1
      refine go_op rfl rfl rfl (o_call_own [2, 0] Try.call94 rfl rfl (getL_c rfl (getL_c rfl getL_n)) (w_vars_with hx7) (by rintro _ _ ⟨rfl, rfl⟩; rfl)) ?_
      rintro _ _ ⟨_, ⟨rfl, rfl⟩, rfl⟩
      refine go_ms (ms' := [_, box b2 77 [_, _], _, box b1 77 [_, _]]) rfl ?_
      refine go_p rfl rfl rfl (o_move rfl) ?_
      refine go_u rfl rfl (o_store_box 3 Try.sizeOf77 rfl rfl rfl rfl rfl rfl rfl rfl (Nat.le_of_ble_eq_true rfl)) ?_
      rintro _ _ rfl
      refine go_ms (ms' := [_, box b2 77 [_, _], _, box b1 77 [_, _]]) rfl ?_
      refine go_p rfl rfl rfl (o_assign rfl) ?_
      refine go_nil ?_
      refine g_thaw 2 rfl rfl ?_
      rintro rfl
      refine g_conv (refines_cellrow 3 0 2 rfl rfl rfl rfl rfl rfl) ?_
      refine g_ret ?_
      exact retK (ret_many (ds := [_, _]) rfl (by decide) ⟨ret_cell 3 rfl rfl rfl Try.isAgg77 Try.sizeOf77 rfl, ⟨ret_tmp rfl, rfl⟩⟩ (perm_drop _)) (congrArg (fun (p : (AutoAuto × Int)) => D.tup [AutoAuto.d p.1, .i64 p.2]) (some_eq hm1))
theorem pl_74 : ∀ fs, (∀ w, (underlying 74).run Try.prog w = .ok (.struct fs) w) → placesOf Try.prog fs [(0, 1), (1, 1)] := by
  intro fs h w
  have := (h w).symm.trans (Try.runUnderlying74 w)
  simp only [Result.ok.injEq, TypeDesc.struct.injEq, and_true] at this
  subst this
  simp [Try.sizeOf3, Try.sizeOf72, Sem.run]
theorem pl_132 : ∀ fs, (∀ w, (underlying 132).run Try.prog w = .ok (.struct fs) w) → placesOf Try.prog fs [(0, 1), (1, 1), (2, 1), (3, 1), (4, 1), (5, 1), (6, 1), (7, 1), (8, 1), (9, 1), (10, 1), (11, 1), (12, 1)] := by
  intro fs h w
  have := (h w).symm.trans (Try.runUnderlying132 w)
  simp only [Result.ok.injEq, TypeDesc.struct.injEq, and_true] at this
  subst this
  simp [Try.sizeOf130, Try.sizeOf28, Try.sizeOf3, Try.sizeOf4, Sem.run]
theorem pl_137 : ∀ fs, (∀ w, (underlying 137).run Try.prog w = .ok (.struct fs) w) → placesOf Try.prog fs [(0, 1), (1, 1)] := by
  intro fs h w
  have := (h w).symm.trans (Try.runUnderlying137 w)
  simp only [Result.ok.injEq, TypeDesc.struct.injEq, and_true] at this
  subst this
  simp [Try.sizeOf3, Try.sizeOf9, Sem.run]
def m_syntagmalaw24_Of_l2 (x1 : AutoState) : Nat → (Int × (List AutoEdge) × (List AutoEdge) × Bool × Bool × Bool × Bool × Bool × Bool × Bool × Bool × (List Int) × Int × Int) → Option ((List AutoEdge) × (List AutoEdge) × Bool × Bool × Bool × Bool × Bool × Bool × Bool × Bool × (List Int) × Int × Int)
  | 0, _ => none
  | n + 1, (k1, l5, l6, z14, z15, z16, z17, z18, z19, z20, z21, z22, z23, z24) =>
    bif (decide (k1 < (x1.fields.length : Int))) then
      (idx x1.fields k1).bind fun x3 =>
      (idx x1.fields k1).bind fun x4 =>
      grd ((l6.length + ([(⟨x3.name, x4.to_⟩ : AutoEdge)] : List _).length) * 24 ≤ 140737488355328) <|
      grd (InR (k1 + 1)) <|
      m_syntagmalaw24_Of_l2 x1 n ((k1 + 1), l5, (l6 ++ [(⟨x3.name, x4.to_⟩ : AutoEdge)]), z14, z15, z16, z17, z18, z19, z20, z21, z22, z23, z24)
    else
      some (l5, l6, z14, z15, z16, z17, z18, z19, z20, z21, z22, z23, z24)
def m_syntagmalaw24_Of_l3 (x1 : AutoState) : Nat → (Int × (List AutoEdge) × (List AutoEdge) × Bool × Bool × Bool × Bool × Bool × Bool × Bool × Bool × (List Int) × Int × Int) → Option ((List AutoEdge) × (List AutoEdge) × Bool × Bool × Bool × Bool × Bool × Bool × Bool × Bool × (List Int) × Int × Int)
  | 0, _ => none
  | n + 1, (k2, l9, l10, z36, z37, z38, z39, z40, z41, z42, z43, z44, z45, z46) =>
    bif (decide (k2 < (x1.tags.length : Int))) then
      (idx x1.tags k2).bind fun x5 =>
      (idx x1.tags k2).bind fun x6 =>
      grd ((l9.length + ([(⟨x5.name, x6.to_⟩ : AutoEdge)] : List _).length) * 24 ≤ 140737488355328) <|
      grd (InR (k2 + 1)) <|
      m_syntagmalaw24_Of_l3 x1 n ((k2 + 1), (l9 ++ [(⟨x5.name, x6.to_⟩ : AutoEdge)]), l10, z36, z37, z38, z39, z40, z41, z42, z43, z44, z45, z46)
    else
      some (l9, l10, z36, z37, z38, z39, z40, z41, z42, z43, z44, z45, z46)
def m_syntagmalaw24_Of_l1 (a1 : AutoAuto) : Nat → (Int × (List AutoState) × Int) → Option ((List AutoState) × Int)
  | 0, _ => none
  | n + 1, (i1, l2, z2) =>
    bif (decide (i1 < (a1.l.length : Int))) then
      (idx a1.l i1).bind fun x1 =>
      (m_syntagmabase_Ints x1.vars).bind fun x2 =>
      (m_syntagmalaw24_Of_l2 x1 FU (0, ([] : List AutoEdge), ([] : List AutoEdge), x1.plus, x1.all, x1.int, x1.bool, x1.str, x1.arrow, x1.rec_, x1.tag, x2, x1.dom, x1.cod) : Option ((List AutoEdge) × (List AutoEdge) × Bool × Bool × Bool × Bool × Bool × Bool × Bool × Bool × (List Int) × Int × Int)).bind fun (l3, l4, z3, z4, z5, z6, z7, z8, z9, z10, z11, z12, z13) =>
      (m_syntagmalaw24_Of_l3 x1 FU (0, l3, l4, z3, z4, z5, z6, z7, z8, z9, z10, z11, z12, z13) : Option ((List AutoEdge) × (List AutoEdge) × Bool × Bool × Bool × Bool × Bool × Bool × Bool × Bool × (List Int) × Int × Int)).bind fun (l7, l8, z25, z26, z27, z28, z29, z30, z31, z32, z33, z34, z35) =>
      grd ((l2.length + ([(⟨z25, z26, z27, z28, z29, z30, z31, z32, z33, z34, z35, l8, l7⟩ : AutoState)] : List _).length) * 96 ≤ 140737488355328) <|
      grd (InR (i1 + 1)) <|
      m_syntagmalaw24_Of_l1 a1 n ((i1 + 1), (l2 ++ [(⟨z25, z26, z27, z28, z29, z30, z31, z32, z33, z34, z35, l8, l7⟩ : AutoState)]), z2)
    else
      some (l2, z2)
def m_syntagmalaw24_Of (a1 : AutoAuto) : Option AutoAuto :=
  (m_syntagmalaw24_Of_l1 a1 FU (0, ([] : List AutoState), a1.start) : Option ((List AutoState) × Int)).bind fun (l1, z1) =>
  some (⟨l1, z1⟩ : AutoAuto)
theorem w_syntagmalaw24_Of {a1 : AutoAuto} {r_1 : AutoAuto} (hm : m_syntagmalaw24_Of a1 = some r_1) : Fn0 Try.prog 50 [AutoAuto.d a1] (AutoAuto.d r_1) := by
  unfold m_syntagmalaw24_Of at hm
  refine fn_intro Try.func50 rfl Try.ntmps50 rfl fun H0 fr w0 => ?_
  refine g_seq ?_
  refine g_region ?_
  refine go_p rfl rfl rfl (o_box rfl rfl) ?_
  refine go_op rfl rfl rfl (o_alloc_own Try.zeroValue74 (cs := [.list 13 AutoState.d [], .i64 0]) rfl) ?_
  rintro _ _ ⟨b1, rfl, rfl⟩
  refine go_nil ?_
  refine g_seq ?_
  refine g_region ?_
  refine go_p rfl rfl rfl (o_fieldAddr fi_77_1 rfl rfl rfl) ?_
  refine go_p rfl rfl rfl (o_load Try.isAgg3 rfl rfl) ?_
  refine go_p rfl rfl rfl (o_build (zs := [.v (.slice none 0 0), .v (.int .i64 0)]) Try.runUnderlying74 Try.zeroValue74 (pl_74 _ Try.runUnderlying74) rfl rfl rfl rfl) ?_
  refine go_op rfl rfl rfl (o_alloc_own Try.zeroValue74 (cs := [.list 13 AutoState.d [], .i64 0]) rfl) ?_
  rintro _ _ ⟨b2, rfl, rfl⟩
  refine go_u rfl rfl (o_store_box 0 Try.sizeOf74 rfl rfl rfl rfl rfl rfl rfl rfl (Nat.le_of_ble_eq_true rfl)) ?_
  rintro _ _ rfl
  refine go_conv (refines_newrow (T := 132) (sz := 13) (f := AutoState.d)) ?_
  refine go_ms (ms' := [_, box b2 74 [_, _], box b1 74 [_, _]]) rfl ?_
  refine go_nil ?_
  refine g_seq ?_
  refine g_seq ?_
  refine g_region ?_
  refine go_p rfl rfl rfl (o_assign rfl) ?_
  refine go_nil ?_
  obtain ⟨o_1, hj1, hm1⟩ := bind_some hm
  refine g_cut_m [(2, _), (3, _)] [(2, _)] (fun (st : ((List AutoState) × Int)) (hid : (Option Addr × Nat)) => match st, hid with | (l1, z1), (a_r1, cap_r1) => []) (fun F (st : ((List AutoState) × Int)) (hid : (Option Addr × Nat)) => match st, hid with | (l1, z1), (a_r1, cap_r1) => [row a_r1 cap_r1 132 13 AutoState.d l1, box b2 74 [.v (.slice a_r1 l1.length cap_r1), .i64 z1], (nthF F 0)]) (fun st => st = o_1) ⟨rfl, rfl, trivial⟩ ⟨rfl, trivial⟩ ?_ ?_
  · skip
    refine g_block ?_
    refine g_loop_m [(1, _), (2, _), (3, _)] [(2, _)] (fun (st : (Int × (List AutoState) × Int)) (hid : (Option Addr × Nat)) => match st, hid with | (i1, l2, z2), (a_r1, cap_r1) => [(4, .i64 i1)]) (fun F (st : (Int × (List AutoState) × Int)) (hid : (Option Addr × Nat)) => match st, hid with | (i1, l2, z2), (a_r1, cap_r1) => [row a_r1 cap_r1 132 13 AutoState.d l2, box b2 74 [.v (.slice a_r1 l2.length cap_r1), .i64 z2], (nthF F 0)]) (_, _) hj1 (fun _ => rfl) ⟨rfl, rfl, rfl, trivial⟩ ⟨rfl, trivial⟩ ⟨rfl, trivial⟩ rfl ?_
    rintro n ⟨i1, l2, z2⟩ ⟨a_r1, cap_r1⟩ hj1
    rw [m_syntagmalaw24_Of_l1] at hj1
    refine g_norm (L' := [(4, .i64 i1), (1, _), (2, _), (3, _)]) (ms' := [row a_r1 cap_r1 132 13 AutoState.d l2, box b2 74 [.v (.slice a_r1 l2.length cap_r1), .i64 z2], _]) rfl rfl ?_
    refine g_seq ?_
    refine g_seq ?_
    refine g_region ?_
    refine go_p rfl rfl rfl (o_move rfl) ?_
    refine go_p rfl rfl rfl (o_fieldAddr fi_77_0 rfl rfl rfl) ?_
    refine go_p rfl rfl rfl (o_load Try.isAgg75 rfl rfl) ?_
    refine go_p rfl rfl rfl (o_len Try.runUnderlying75 rfl) ?_
    refine go_p rfl rfl rfl (o_cmp rfl rfl rfl) ?_
    refine go_nil ?_
    refine g_cond rfl (fun hc1 => ?_) (fun hc1 => ?_)
    · replace hj1 := cond_t hc1 hj1
      refine g_skip ?_
      refine g_seq ?_
      refine g_block ?_
      refine g_seq ?_
      refine g_region ?_
      refine go_p rfl rfl rfl (o_fieldAddr fi_77_0 rfl rfl rfl) ?_
      refine go_p rfl rfl rfl (o_load Try.isAgg75 rfl rfl) ?_
      refine go_p rfl rfl rfl (o_move rfl) ?_
      obtain ⟨x1, hx1, hj1⟩ := bind_some hj1
      refine go_p rfl rfl rfl (o_indexAddr_m Try.runUnderlying75 Try.sizeOf135 rfl rfl hx1) ?_
      refine go_p rfl rfl rfl (o_load_agg Try.isAgg135 Try.sizeOf135 rfl rfl) ?_
      refine go_op rfl rfl rfl (o_alloc_own Try.zeroValue135 (cs := [.bool false, .bool false, .bool false, .bool false, .bool false, .bool false, .bool false, .bool false, .list 1 D.i64 [], .i64 0, .i64 0, .list 2 AutoEdge.d [], .list 2 AutoEdge.d []]) rfl) ?_
      rintro _ _ ⟨b3, rfl, rfl⟩
      refine go_u rfl rfl (o_store_box 0 Try.sizeOf135 rfl rfl rfl rfl rfl rfl rfl rfl (Nat.le_of_ble_eq_true rfl)) ?_
      rintro _ _ rfl
      refine go_ms (ms' := [box b3 135 [_, _, _, _, _, _, _, _, _, _, _, _, _], _, box b2 74 [_, _], box b1 74 [_, _]]) rfl ?_
      refine go_nil ?_
      refine g_seq ?_
      obtain ⟨x2, hx2, hj1⟩ := bind_some hj1
      refine g_draw_f 25 [24] Try_mixed (by decide +kernel) (by decide +kernel) rfl (by decide +kernel) ?_
      refine gdf_p rfl rfl rfl rfl (o_fieldAddr_box fi_135_0 rfl) ?_
      refine gdf_p rfl rfl rfl rfl (o_load_box 0 Try.isAgg4 rfl rfl rfl rfl) ?_
      refine gdf_p rfl rfl rfl rfl (o_fieldAddr_box fi_135_1 rfl) ?_
      refine gdf_p rfl rfl rfl rfl (o_load_box 0 Try.isAgg4 rfl rfl rfl rfl) ?_
      refine gdf_p rfl rfl rfl rfl (o_fieldAddr_box fi_135_2 rfl) ?_
      refine gdf_p rfl rfl rfl rfl (o_load_box 0 Try.isAgg4 rfl rfl rfl rfl) ?_
      refine gdf_p rfl rfl rfl rfl (o_fieldAddr_box fi_135_3 rfl) ?_
      refine gdf_p rfl rfl rfl rfl (o_load_box 0 Try.isAgg4 rfl rfl rfl rfl) ?_
      refine gdf_p rfl rfl rfl rfl (o_fieldAddr_box fi_135_4 rfl) ?_
      refine gdf_p rfl rfl rfl rfl (o_load_box 0 Try.isAgg4 rfl rfl rfl rfl) ?_
      refine gdf_p rfl rfl rfl rfl (o_fieldAddr_box fi_135_5 rfl) ?_
      refine gdf_p rfl rfl rfl rfl (o_load_box 0 Try.isAgg4 rfl rfl rfl rfl) ?_
      refine gdf_p rfl rfl rfl rfl (o_fieldAddr_box fi_135_6 rfl) ?_
      refine gdf_p rfl rfl rfl rfl (o_load_box 0 Try.isAgg4 rfl rfl rfl rfl) ?_
      refine gdf_p rfl rfl rfl rfl (o_fieldAddr_box fi_135_7 rfl) ?_
      refine gdf_p rfl rfl rfl rfl (o_load_box 0 Try.isAgg4 rfl rfl rfl rfl) ?_
      refine gdf_p rfl rfl rfl rfl (o_fieldAddr_box fi_135_9 rfl) ?_
      refine gdf_p rfl rfl rfl rfl (o_load_box 0 Try.isAgg3 rfl rfl rfl rfl) ?_
      refine gdf_p rfl rfl rfl rfl (o_fieldAddr_box fi_135_10 rfl) ?_
      refine gdf_p rfl rfl rfl rfl (o_load_box 0 Try.isAgg3 rfl rfl rfl rfl) ?_
      refine gdf_p rfl rfl rfl rfl (o_fieldAddr_box fi_135_8 rfl) ?_
      refine gdf_p rfl rfl rfl rfl (o_load_box 0 Try.isAgg28 rfl rfl rfl rfl) ?_
      refine gdf_p rfl rfl rfl rfl (o_call0 Try.call26 rfl (w_syntagmabase_Ints hx2)) ?_
      refine gdf_p rfl rfl rfl rfl (o_build (zs := [.bool false, .bool false, .bool false, .bool false, .bool false, .bool false, .bool false, .bool false, .list 1 D.i64 [], .v (.int .i64 0), .v (.int .i64 0), .v (.slice none 0 0), .v (.slice none 0 0)]) Try.runUnderlying132 Try.zeroValue132 (pl_132 _ Try.runUnderlying132) rfl rfl rfl rfl) ?_
      refine gdf_fresh (R := fun d A => ∃ b, d = .v (.pointer (some ⟨b, 0, none⟩)) ∧ A = box b 132 [.bool false, .bool false, .bool false, .bool false, .bool false, .bool false, .bool false, .bool false, .list 1 D.i64 [], .i64 0, .i64 0, .list 2 AutoEdge.d [], .list 2 AutoEdge.d []]) rfl rfl rfl (OpT.mono (o_alloc_own Try.zeroValue132 (cs := [.bool false, .bool false, .bool false, .bool false, .bool false, .bool false, .bool false, .bool false, .list 1 D.i64 [], .i64 0, .i64 0, .list 2 AutoEdge.d [], .list 2 AutoEdge.d []]) rfl) (by rintro d ms' ⟨b, rfl, rfl⟩; exact ⟨_, ⟨b, rfl, rfl⟩, rfl⟩)) ?_
      refine gdf_nil ?_
      rintro _ _ ⟨b4, rfl, rfl⟩
      refine go_u rfl rfl (o_store_box 0 Try.sizeOf132 rfl rfl rfl rfl rfl rfl rfl rfl (Nat.le_of_ble_eq_true rfl)) ?_
      rintro _ _ rfl
      refine go_conv (refines_newrow (T := 137) (sz := 2) (f := AutoEdge.d)) ?_
      refine go_conv (refines_newrow (T := 137) (sz := 2) (f := AutoEdge.d)) ?_
      refine go_ms (ms' := [_, _, box b4 132 [_, _, _, _, _, _, _, _, _, _, _, _, _], box b3 135 [_, _, _, _, _, _, _, _, _, _, _, _, _], _, box b2 74 [_, _], box b1 74 [_, _]]) rfl ?_
      refine go_nil ?_
      refine g_seq ?_
      refine g_seq ?_
      refine g_region ?_
      refine go_p rfl rfl rfl (o_assign rfl) ?_
      refine go_nil ?_
      obtain ⟨o_2, hj2, hm2⟩ := bind_some hj1
      refine g_cut_m [(1, _), (2, _), (3, _), (4, _), (5, _), (6, _)] [(3, _), (4, _), (5, _), (6, _)] (fun (st : ((List AutoEdge) × (List AutoEdge) × Bool × Bool × Bool × Bool × Bool × Bool × Bool × Bool × (List Int) × Int × Int)) (hid : (Option Addr × Nat) × (Option Addr × Nat)) => match st, hid with | (l3, l4, z3, z4, z5, z6, z7, z8, z9, z10, z11, z12, z13), ((a_r3, cap_r3), (a_r2, cap_r2)) => []) (fun F (st : ((List AutoEdge) × (List AutoEdge) × Bool × Bool × Bool × Bool × Bool × Bool × Bool × Bool × (List Int) × Int × Int)) (hid : (Option Addr × Nat) × (Option Addr × Nat)) => match st, hid with | (l3, l4, z3, z4, z5, z6, z7, z8, z9, z10, z11, z12, z13), ((a_r3, cap_r3), (a_r2, cap_r2)) => [row a_r3 cap_r3 137 2 AutoEdge.d l3, row a_r2 cap_r2 137 2 AutoEdge.d l4, box b4 132 [.bool z3, .bool z4, .bool z5, .bool z6, .bool z7, .bool z8, .bool z9, .bool z10, .list 1 D.i64 z11, .i64 z12, .i64 z13, .v (.slice a_r2 l4.length cap_r2), .v (.slice a_r3 l3.length cap_r3)], (nthF F 0), (nthF F 1), (nthF F 2), (nthF F 3)]) (fun st => st = o_2) ⟨rfl, rfl, rfl, rfl, rfl, rfl, trivial⟩ ⟨rfl, rfl, rfl, rfl, trivial⟩ ?_ ?_
      · skip
        refine g_block ?_
        refine g_loop_m [(1, _), (2, _), (3, _), (4, _), (5, _), (6, _)] [(3, _), (4, _), (5, _), (6, _)] (fun (st : (Int × (List AutoEdge) × (List AutoEdge) × Bool × Bool × Bool × Bool × Bool × Bool × Bool × Bool × (List Int) × Int × Int)) (hid : (Option Addr × Nat) × (Option Addr × Nat)) => match st, hid with | (k1, l5, l6, z14, z15, z16, z17, z18, z19, z20, z21, z22, z23, z24), ((a_r3, cap_r3), (a_r2, cap_r2)) => [(7, .i64 k1)]) (fun F (st : (Int × (List AutoEdge) × (List AutoEdge) × Bool × Bool × Bool × Bool × Bool × Bool × Bool × Bool × (List Int) × Int × Int)) (hid : (Option Addr × Nat) × (Option Addr × Nat)) => match st, hid with | (k1, l5, l6, z14, z15, z16, z17, z18, z19, z20, z21, z22, z23, z24), ((a_r3, cap_r3), (a_r2, cap_r2)) => [row a_r3 cap_r3 137 2 AutoEdge.d l5, row a_r2 cap_r2 137 2 AutoEdge.d l6, box b4 132 [.bool z14, .bool z15, .bool z16, .bool z17, .bool z18, .bool z19, .bool z20, .bool z21, .list 1 D.i64 z22, .i64 z23, .i64 z24, .v (.slice a_r2 l6.length cap_r2), .v (.slice a_r3 l5.length cap_r3)], (nthF F 0), (nthF F 1), (nthF F 2), (nthF F 3)]) ((_, _), (_, _)) hj2 (fun _ => rfl) ⟨rfl, rfl, rfl, rfl, rfl, rfl, trivial⟩ ⟨rfl, rfl, rfl, rfl, trivial⟩ ⟨rfl, trivial⟩ rfl ?_
        rintro n ⟨k1, l5, l6, z14, z15, z16, z17, z18, z19, z20, z21, z22, z23, z24⟩ ⟨⟨a_r3, cap_r3⟩, ⟨a_r2, cap_r2⟩⟩ hj2
        rw [m_syntagmalaw24_Of_l2] at hj2
        refine g_norm (L' := [(7, .i64 k1), (1, _), (2, _), (3, _), (4, _), (5, _), (6, _)]) (ms' := [row a_r3 cap_r3 137 2 AutoEdge.d l5, row a_r2 cap_r2 137 2 AutoEdge.d l6, box b4 132 [.bool z14, .bool z15, .bool z16, .bool z17, .bool z18, .bool z19, .bool z20, .bool z21, .list 1 D.i64 z22, .i64 z23, .i64 z24, .v (.slice a_r2 l6.length cap_r2), .v (.slice a_r3 l5.length cap_r3)], _, _, _, _]) rfl rfl ?_
        refine g_seq ?_
        refine g_seq ?_
        refine g_region ?_
        refine go_p rfl rfl rfl (o_move rfl) ?_
        refine go_p rfl rfl rfl (o_fieldAddr_box fi_135_11 rfl) ?_
        refine go_p rfl rfl rfl (o_load_box 3 Try.isAgg133 rfl rfl rfl rfl) ?_
        refine go_p rfl rfl rfl (o_len Try.runUnderlying133 rfl) ?_
        refine go_p rfl rfl rfl (o_cmp rfl rfl rfl) ?_
        refine go_nil ?_
        refine g_cond rfl (fun hc2 => ?_) (fun hc2 => ?_)
        · replace hj2 := cond_t hc2 hj2
          refine g_skip ?_
          refine g_seq ?_
          refine g_block ?_
          obtain ⟨x3, hx3, hj2⟩ := bind_some hj2
          obtain ⟨x4, hx4, hj2⟩ := bind_some hj2
          refine g_draw 16 Try_mixed (by decide +kernel) ?_
          refine gd_p rfl rfl rfl (o_fieldAddr_box fi_132_11 rfl) ?_
          refine gd_p rfl rfl rfl (o_load_box 2 Try.isAgg130 rfl rfl rfl rfl) ?_
          refine gd_p rfl rfl rfl (o_fieldAddr_box fi_135_11 rfl) ?_
          refine gd_p rfl rfl rfl (o_load_box 3 Try.isAgg133 rfl rfl rfl rfl) ?_
          refine gd_p rfl rfl rfl (o_move rfl) ?_
          refine gd_p rfl rfl rfl (o_indexAddr_m Try.runUnderlying133 Try.sizeOf138 rfl rfl hx3) ?_
          refine gd_p rfl rfl rfl (o_fieldAddr fi_138_0 rfl rfl rfl) ?_
          refine gd_p rfl rfl rfl (o_load Try.isAgg9 rfl rfl) ?_
          refine gd_p rfl rfl rfl (o_fieldAddr_box fi_135_11 rfl) ?_
          refine gd_p rfl rfl rfl (o_load_box 3 Try.isAgg133 rfl rfl rfl rfl) ?_
          refine gd_p rfl rfl rfl (o_move rfl) ?_
          refine gd_p rfl rfl rfl (o_indexAddr_m Try.runUnderlying133 Try.sizeOf138 rfl rfl hx4) ?_
          refine gd_p rfl rfl rfl (o_fieldAddr fi_138_1 rfl rfl rfl) ?_
          refine gd_p rfl rfl rfl (o_load Try.isAgg3 rfl rfl) ?_
          refine gd_p rfl rfl rfl (o_build (zs := [.str [], .v (.int .i64 0)]) Try.runUnderlying137 Try.zeroValue137 (pl_137 _ Try.runUnderlying137) rfl rfl rfl rfl) ?_
          refine gd_p rfl rfl rfl (o_buildSlice (xs := [_]) (f := AutoEdge.d) (l := [(⟨x3.name, x4.to_⟩ : AutoEdge)]) Try.runUnderlying130 Try.sizeOf137 Try.zeroValue137 rfl rfl rfl (fun _ => ⟨rfl, rfl, rfl⟩) rfl) ?_
          refine gd_nil ?_
          obtain ⟨hg5, hj2⟩ := grd_some hj2
          refine go_op rfl rfl rfl (o_append (a := _) 1 Try.underlying130 Try.type137 rfl rfl rfl rfl rfl rfl rfl (fun _ => rfl) (fun _ => rfl) hg5 (app_len hg5 rfl)) ?_
          rintro _ _ ⟨a_r2, cap_r2, rfl, rfl⟩
          refine go_ms (ms' := [_, _, box b4 132 [_, _, _, _, _, _, _, _, _, _, _, _, _], box b3 135 [_, _, _, _, _, _, _, _, _, _, _, _, _], _, box b2 74 [_, _], box b1 74 [_, _]]) rfl ?_
          refine go_p rfl rfl rfl (o_fieldAddr_box fi_132_11 rfl) ?_
          refine go_u rfl rfl (o_store_box 2 Try.sizeOf130 rfl rfl rfl rfl rfl rfl rfl rfl (Nat.le_of_ble_eq_true rfl)) ?_
          rintro _ _ rfl
          refine go_ms (ms' := [_, _, box b4 132 [_, _, _, _, _, _, _, _, _, _, _, _, _], box b3 135 [_, _, _, _, _, _, _, _, _, _, _, _, _], _, box b2 74 [_, _], box b1 74 [_, _]]) rfl ?_
          refine go_nil ?_
          refine g_region ?_
          refine go_p rfl rfl rfl (o_move rfl) ?_
          obtain ⟨hg6, hj2⟩ := grd_some hj2
          refine go_p rfl rfl rfl (o_add rfl rfl (i64_id hg6)) ?_
          refine go_p rfl rfl rfl (o_assign rfl) ?_
          refine go_nil ?_
          exact ⟨_, ((_, _), (_, _)), hj2, ⟨rfl, trivial⟩, ⟨rfl, rfl, rfl, rfl, rfl, rfl, trivial⟩, [], rfl⟩
        · replace hj2 := cond_f hc2 hj2
          refine g_exit ?_
          exact ⟨_, ((_, _), (_, _)), some_eq hj2, trivial, ⟨rfl, rfl, rfl, rfl, rfl, rfl, trivial⟩, [], rfl⟩
      · rintro ⟨l3, l4, z3, z4, z5, z6, z7, z8, z9, z10, z11, z12, z13⟩ ⟨⟨a_r3, cap_r3⟩, ⟨a_r2, cap_r2⟩⟩ hst
        subst hst
        refine k_norm (L' := [(1, _), (2, _), (3, _), (4, _), (5, _), (6, _)]) (ms' := [row a_r3 cap_r3 137 2 AutoEdge.d l3, row a_r2 cap_r2 137 2 AutoEdge.d l4, box b4 132 [.bool z3, .bool z4, .bool z5, .bool z6, .bool z7, .bool z8, .bool z9, .bool z10, .list 1 D.i64 z11, .i64 z12, .i64 z13, .v (.slice a_r2 l4.length cap_r2), .v (.slice a_r3 l3.length cap_r3)], _, _, _, _]) rfl rfl ?_
        refine g_seq ?_
        refine g_seq ?_
        refine g_region ?_
        refine go_p rfl rfl rfl (o_assign rfl) ?_
        refine go_nil ?_
        obtain ⟨o_3, hj3, hm3⟩ := bind_some hm2
        refine g_cut_m [(1, _), (2, _), (3, _), (4, _), (6, _)] [(3, _), (4, _), (5, _), (6, _)] (fun (st : ((List AutoEdge) × (List AutoEdge) × Bool × Bool × Bool × Bool × Bool × Bool × Bool × Bool × (List Int) × Int × Int)) (hid : (Option Addr × Nat) × (Option Addr × Nat)) => match st, hid with | (l7, l8, z25, z26, z27, z28, z29, z30, z31, z32, z33, z34, z35), ((a_r3, cap_r3), (a_r2, cap_r2)) => []) (fun F (st : ((List AutoEdge) × (List AutoEdge) × Bool × Bool × Bool × Bool × Bool × Bool × Bool × Bool × (List Int) × Int × Int)) (hid : (Option Addr × Nat) × (Option Addr × Nat)) => match st, hid with | (l7, l8, z25, z26, z27, z28, z29, z30, z31, z32, z33, z34, z35), ((a_r3, cap_r3), (a_r2, cap_r2)) => [row a_r3 cap_r3 137 2 AutoEdge.d l7, row a_r2 cap_r2 137 2 AutoEdge.d l8, box b4 132 [.bool z25, .bool z26, .bool z27, .bool z28, .bool z29, .bool z30, .bool z31, .bool z32, .list 1 D.i64 z33, .i64 z34, .i64 z35, .v (.slice a_r2 l8.length cap_r2), .v (.slice a_r3 l7.length cap_r3)], (nthF F 0), (nthF F 1), (nthF F 2), (nthF F 3)]) (fun st => st = o_3) ⟨rfl, rfl, rfl, rfl, rfl, trivial⟩ ⟨rfl, rfl, rfl, rfl, trivial⟩ ?_ ?_
        · skip
          refine g_block ?_
          refine g_loop_m [(1, _), (2, _), (3, _), (4, _), (5, _), (6, _)] [(3, _), (4, _), (5, _), (6, _)] (fun (st : (Int × (List AutoEdge) × (List AutoEdge) × Bool × Bool × Bool × Bool × Bool × Bool × Bool × Bool × (List Int) × Int × Int)) (hid : (Option Addr × Nat) × (Option Addr × Nat)) => match st, hid with | (k2, l9, l10, z36, z37, z38, z39, z40, z41, z42, z43, z44, z45, z46), ((a_r3, cap_r3), (a_r2, cap_r2)) => [(8, .i64 k2)]) (fun F (st : (Int × (List AutoEdge) × (List AutoEdge) × Bool × Bool × Bool × Bool × Bool × Bool × Bool × Bool × (List Int) × Int × Int)) (hid : (Option Addr × Nat) × (Option Addr × Nat)) => match st, hid with | (k2, l9, l10, z36, z37, z38, z39, z40, z41, z42, z43, z44, z45, z46), ((a_r3, cap_r3), (a_r2, cap_r2)) => [row a_r3 cap_r3 137 2 AutoEdge.d l9, row a_r2 cap_r2 137 2 AutoEdge.d l10, box b4 132 [.bool z36, .bool z37, .bool z38, .bool z39, .bool z40, .bool z41, .bool z42, .bool z43, .list 1 D.i64 z44, .i64 z45, .i64 z46, .v (.slice a_r2 l10.length cap_r2), .v (.slice a_r3 l9.length cap_r3)], (nthF F 0), (nthF F 1), (nthF F 2), (nthF F 3)]) ((_, _), (_, _)) hj3 (fun _ => rfl) ⟨rfl, rfl, rfl, rfl, rfl, rfl, trivial⟩ ⟨rfl, rfl, rfl, rfl, trivial⟩ ⟨rfl, trivial⟩ rfl ?_
          rintro n ⟨k2, l9, l10, z36, z37, z38, z39, z40, z41, z42, z43, z44, z45, z46⟩ ⟨⟨a_r3, cap_r3⟩, ⟨a_r2, cap_r2⟩⟩ hj3
          rw [m_syntagmalaw24_Of_l3] at hj3
          refine g_norm (L' := [(8, .i64 k2), (1, _), (2, _), (3, _), (4, _), (5, _), (6, _)]) (ms' := [row a_r3 cap_r3 137 2 AutoEdge.d l9, row a_r2 cap_r2 137 2 AutoEdge.d l10, box b4 132 [.bool z36, .bool z37, .bool z38, .bool z39, .bool z40, .bool z41, .bool z42, .bool z43, .list 1 D.i64 z44, .i64 z45, .i64 z46, .v (.slice a_r2 l10.length cap_r2), .v (.slice a_r3 l9.length cap_r3)], _, _, _, _]) rfl rfl ?_
          refine g_seq ?_
          refine g_seq ?_
          refine g_region ?_
          refine go_p rfl rfl rfl (o_move rfl) ?_
          refine go_p rfl rfl rfl (o_fieldAddr_box fi_135_12 rfl) ?_
          refine go_p rfl rfl rfl (o_load_box 3 Try.isAgg133 rfl rfl rfl rfl) ?_
          refine go_p rfl rfl rfl (o_len Try.runUnderlying133 rfl) ?_
          refine go_p rfl rfl rfl (o_cmp rfl rfl rfl) ?_
          refine go_nil ?_
          refine g_cond rfl (fun hc3 => ?_) (fun hc3 => ?_)
          · replace hj3 := cond_t hc3 hj3
            refine g_skip ?_
            refine g_seq ?_
            refine g_block ?_
            obtain ⟨x5, hx7, hj3⟩ := bind_some hj3
            obtain ⟨x6, hx8, hj3⟩ := bind_some hj3
            refine g_draw 16 Try_mixed (by decide +kernel) ?_
            refine gd_p rfl rfl rfl (o_fieldAddr_box fi_132_12 rfl) ?_
            refine gd_p rfl rfl rfl (o_load_box 2 Try.isAgg130 rfl rfl rfl rfl) ?_
            refine gd_p rfl rfl rfl (o_fieldAddr_box fi_135_12 rfl) ?_
            refine gd_p rfl rfl rfl (o_load_box 3 Try.isAgg133 rfl rfl rfl rfl) ?_
            refine gd_p rfl rfl rfl (o_move rfl) ?_
            refine gd_p rfl rfl rfl (o_indexAddr_m Try.runUnderlying133 Try.sizeOf138 rfl rfl hx7) ?_
            refine gd_p rfl rfl rfl (o_fieldAddr fi_138_0 rfl rfl rfl) ?_
            refine gd_p rfl rfl rfl (o_load Try.isAgg9 rfl rfl) ?_
            refine gd_p rfl rfl rfl (o_fieldAddr_box fi_135_12 rfl) ?_
            refine gd_p rfl rfl rfl (o_load_box 3 Try.isAgg133 rfl rfl rfl rfl) ?_
            refine gd_p rfl rfl rfl (o_move rfl) ?_
            refine gd_p rfl rfl rfl (o_indexAddr_m Try.runUnderlying133 Try.sizeOf138 rfl rfl hx8) ?_
            refine gd_p rfl rfl rfl (o_fieldAddr fi_138_1 rfl rfl rfl) ?_
            refine gd_p rfl rfl rfl (o_load Try.isAgg3 rfl rfl) ?_
            refine gd_p rfl rfl rfl (o_build (zs := [.str [], .v (.int .i64 0)]) Try.runUnderlying137 Try.zeroValue137 (pl_137 _ Try.runUnderlying137) rfl rfl rfl rfl) ?_
            refine gd_p rfl rfl rfl (o_buildSlice (xs := [_]) (f := AutoEdge.d) (l := [(⟨x5.name, x6.to_⟩ : AutoEdge)]) Try.runUnderlying130 Try.sizeOf137 Try.zeroValue137 rfl rfl rfl (fun _ => ⟨rfl, rfl, rfl⟩) rfl) ?_
            refine gd_nil ?_
            obtain ⟨hg9, hj3⟩ := grd_some hj3
            refine go_op rfl rfl rfl (o_append (a := _) 0 Try.underlying130 Try.type137 rfl rfl rfl rfl rfl rfl rfl (fun _ => rfl) (fun _ => rfl) hg9 (app_len hg9 rfl)) ?_
            rintro _ _ ⟨a_r3, cap_r3, rfl, rfl⟩
            refine go_ms (ms' := [_, _, box b4 132 [_, _, _, _, _, _, _, _, _, _, _, _, _], box b3 135 [_, _, _, _, _, _, _, _, _, _, _, _, _], _, box b2 74 [_, _], box b1 74 [_, _]]) rfl ?_
            refine go_p rfl rfl rfl (o_fieldAddr_box fi_132_12 rfl) ?_
            refine go_u rfl rfl (o_store_box 2 Try.sizeOf130 rfl rfl rfl rfl rfl rfl rfl rfl (Nat.le_of_ble_eq_true rfl)) ?_
            rintro _ _ rfl
            refine go_ms (ms' := [_, _, box b4 132 [_, _, _, _, _, _, _, _, _, _, _, _, _], box b3 135 [_, _, _, _, _, _, _, _, _, _, _, _, _], _, box b2 74 [_, _], box b1 74 [_, _]]) rfl ?_
            refine go_nil ?_
            refine g_region ?_
            refine go_p rfl rfl rfl (o_move rfl) ?_
            obtain ⟨hg10, hj3⟩ := grd_some hj3
            refine go_p rfl rfl rfl (o_add rfl rfl (i64_id hg10)) ?_
            refine go_p rfl rfl rfl (o_assign rfl) ?_
            refine go_nil ?_
            exact ⟨_, ((_, _), (_, _)), hj3, ⟨rfl, trivial⟩, ⟨rfl, rfl, rfl, rfl, rfl, rfl, trivial⟩, [], rfl⟩
          · replace hj3 := cond_f hc3 hj3
            refine g_exit ?_
            exact ⟨_, ((_, _), (_, _)), some_eq hj3, trivial, ⟨rfl, rfl, rfl, rfl, rfl, trivial⟩, [], rfl⟩
        · rintro ⟨l7, l8, z25, z26, z27, z28, z29, z30, z31, z32, z33, z34, z35⟩ ⟨⟨a_r3, cap_r3⟩, ⟨a_r2, cap_r2⟩⟩ hst
          subst hst
          refine k_norm (L' := [(1, _), (2, _), (3, _), (4, _), (6, _)]) (ms' := [row a_r3 cap_r3 137 2 AutoEdge.d l7, row a_r2 cap_r2 137 2 AutoEdge.d l8, box b4 132 [.bool z25, .bool z26, .bool z27, .bool z28, .bool z29, .bool z30, .bool z31, .bool z32, .list 1 D.i64 z33, .i64 z34, .i64 z35, .v (.slice a_r2 l8.length cap_r2), .v (.slice a_r3 l7.length cap_r3)], _, _, _, _]) rfl rfl ?_
          refine g_region ?_
          refine go_p rfl rfl rfl (o_fieldAddr_box fi_74_0 rfl) ?_
          refine go_p rfl rfl rfl (o_load_box 5 Try.isAgg72 rfl rfl rfl rfl) ?_
          refine go_p rfl rfl rfl (o_load_box_agg 2 Try.isAgg132 Try.sizeOf132 rfl rfl rfl rfl (Nat.le_of_ble_eq_true rfl)) ?_
          refine go_conv (peekAggE (i := 100) (q := 11) 1 rfl rfl rfl rfl rfl).refines ?_
          refine go_conv (peekAggE (i := 100) (q := 12) 0 rfl rfl rfl rfl rfl).refines ?_
          refine go_p rfl rfl rfl (o_buildSlice (xs := [_]) (f := AutoState.d) (l := [(⟨z25, z26, z27, z28, z29, z30, z31, z32, z33, z34, z35, l8, l7⟩ : AutoState)]) Try.runUnderlying72 Try.sizeOf132 Try.zeroValue132 rfl rfl rfl (fun _ => ⟨rfl, rfl, rfl⟩) rfl) ?_
          obtain ⟨hg11, hm3⟩ := grd_some hm3
          refine go_op rfl rfl rfl (o_append (a := _) 4 Try.underlying72 Try.type132 rfl rfl rfl rfl rfl rfl rfl (fun _ => rfl) (fun _ => rfl) hg11 (app_len hg11 rfl)) ?_
          rintro _ _ ⟨a_r1, cap_r1, rfl, rfl⟩
          refine go_ms (ms' := [_, _, box b4 132 [_, _, _, _, _, _, _, _, _, _, _, _, _], box b3 135 [_, _, _, _, _, _, _, _, _, _, _, _, _], _, box b2 74 [_, _], box b1 74 [_, _]]) rfl ?_
          refine go_p rfl rfl rfl (o_fieldAddr_box fi_74_0 rfl) ?_
          refine go_u rfl rfl (o_store_box 5 Try.sizeOf72 rfl rfl rfl rfl rfl rfl rfl rfl (Nat.le_of_ble_eq_true rfl)) ?_
          rintro _ _ rfl
          refine go_ms (ms' := [_, _, box b4 132 [_, _, _, _, _, _, _, _, _, _, _, _, _], box b3 135 [_, _, _, _, _, _, _, _, _, _, _, _, _], _, box b2 74 [_, _], box b1 74 [_, _]]) rfl ?_
          refine go_nil ?_
          refine g_region ?_
          refine go_p rfl rfl rfl (o_move rfl) ?_
          obtain ⟨hg12, hm3⟩ := grd_some hm3
          refine go_p rfl rfl rfl (o_add rfl rfl (i64_id hg12)) ?_
          refine go_p rfl rfl rfl (o_assign rfl) ?_
          refine go_nil ?_
          exact ⟨_, (_, _), hm3, ⟨rfl, trivial⟩, ⟨rfl, rfl, rfl, trivial⟩, [_, _, _, _], rfl⟩
    · replace hj1 := cond_f hc1 hj1
      refine g_exit ?_
      exact ⟨_, (_, _), some_eq hj1, trivial, ⟨rfl, rfl, trivial⟩, [], rfl⟩
  · rintro ⟨l1, z1⟩ ⟨a_r1, cap_r1⟩ hst
    subst hst
    refine k_norm (L' := [(2, _), (3, _)]) (ms' := [row a_r1 cap_r1 132 13 AutoState.d l1, box b2 74 [.v (.slice a_r1 l1.length cap_r1), .i64 z1], _]) rfl rfl ?_
    refine g_seq ?_
    refine g_region ?_
    refine go_p rfl rfl rfl (o_load_box_agg 1 Try.isAgg74 Try.sizeOf74 rfl rfl rfl rfl (Nat.le_of_ble_eq_true rfl)) ?_
    refine go_conv (peekAggE (i := 104) (q := 0) 0 rfl rfl rfl rfl rfl).refines ?_
    refine go_u rfl rfl (o_store_box 2 Try.sizeOf74 rfl rfl rfl rfl rfl rfl rfl rfl (Nat.le_of_ble_eq_true rfl)) ?_
    rintro _ _ rfl
    refine go_ms (ms' := [_, box b2 74 [_, _], box b1 74 [_, _]]) rfl ?_
    refine go_nil ?_
    refine g_ret ?_
    exact retK (ret_one' rfl (ret_cell 2 rfl rfl rfl Try.isAgg74 Try.sizeOf74 rfl) (perm_drop _)) (congrArg (fun (p : AutoAuto) => (AutoAuto.d p : D)) (some_eq hm1))
def m_syntagmaref24_Next_l1 (s1 : AutoState) : Nat → (Int × (List Int)) → Option (List Int)
  | 0, _ => none
  | n + 1, (i1, l3) =>
    bif (decide (i1 < (s1.fields.length : Int))) then
      (idx s1.fields i1).bind fun x1 =>
      grd ((l3.length + ([x1.to_] : List _).length) * 8 ≤ 140737488355328) <|
      grd (InR (i1 + 1)) <|
      m_syntagmaref24_Next_l1 s1 n ((i1 + 1), (l3 ++ [x1.to_]))
    else
      some l3
def m_syntagmaref24_Next_l2 (s1 : AutoState) : Nat → (Int × (List Int)) → Option (List Int)
  | 0, _ => none
  | n + 1, (i2, l5) =>
    bif (decide (i2 < (s1.tags.length : Int))) then
      (idx s1.tags i2).bind fun x2 =>
      grd ((l5.length + ([x2.to_] : List _).length) * 8 ≤ 140737488355328) <|
      grd (InR (i2 + 1)) <|
      m_syntagmaref24_Next_l2 s1 n ((i2 + 1), (l5 ++ [x2.to_]))
    else
      some l5
def m_syntagmaref24_Next (s1 : AutoState) : Option (List Int) :=
  (bif s1.arrow then
    some [s1.dom, s1.cod]
  else
    some [] : Option (List Int)).bind fun l1 =>
  (m_syntagmaref24_Next_l1 s1 FU (0, l1) : Option (List Int)).bind fun l2 =>
  (m_syntagmaref24_Next_l2 s1 FU (0, l2) : Option (List Int)).bind fun l4 =>
  some l4
theorem w_syntagmaref24_Next {s1 : AutoState} {r_1 : (List Int)} (hm : m_syntagmaref24_Next s1 = some r_1) : Fn0 Try.prog 96 [AutoState.d s1] (.list 1 D.i64 r_1) := by
  unfold m_syntagmaref24_Next at hm
  refine fn_intro Try.func96 rfl Try.ntmps96 rfl fun H0 fr w0 => ?_
  refine g_seq ?_
  refine g_region ?_
  refine go_p rfl rfl rfl (o_box rfl rfl) ?_
  refine go_p rfl rfl rfl (o_assign rfl) ?_
  refine go_conv (nilE (i := 2) (sz := 1) (f := D.i64) rfl).refines ?_
  refine go_nil ?_
  refine g_seq ?_
  refine g_region ?_
  refine go_op rfl rfl rfl (o_buildSlice_row (xs := []) (f := D.i64) (l := []) Try.runUnderlying28 Try.sizeOf3 Try.zeroValue3 rfl rfl rfl (fun _ => ⟨rfl, rfl, rfl⟩) rfl (by simp [maxLen])) ?_
  rintro _ _ ⟨a_r1, rfl, rfl⟩
  refine go_p rfl rfl rfl (o_assign rfl) ?_
  refine go_nil ?_
  refine g_seq ?_
  refine g_seq ?_
  refine g_region ?_
  refine go_p rfl rfl rfl (o_fieldAddr fi_132_5 rfl rfl rfl) ?_
  refine go_p rfl rfl rfl (o_load Try.isAgg4 rfl rfl) ?_
  refine go_nil ?_
  obtain ⟨o_1, hj1, hm1⟩ := bind_some hm
  refine g_cut_m [(1, _)] [] (fun (st : (List Int)) (hid : (Option Addr × Nat)) => match st, hid with | l1, (a_r1, cap_r1) => [(3, .v (.slice a_r1 l1.length cap_r1))]) (fun F (st : (List Int)) (hid : (Option Addr × Nat)) => match st, hid with | l1, (a_r1, cap_r1) => [row a_r1 cap_r1 3 1 D.i64 l1]) (fun st => st = o_1) ⟨rfl, trivial⟩ trivial ?_ ?_
  · skip
    refine g_cond rfl (fun hc1 => ?_) (fun hc1 => ?_)
    · replace hj1 := cond_t hc1 hj1
      refine g_region ?_
      refine go_p rfl rfl rfl (o_fieldAddr fi_132_9 rfl rfl rfl) ?_
      refine go_p rfl rfl rfl (o_load Try.isAgg3 rfl rfl) ?_
      refine go_p rfl rfl rfl (o_fieldAddr fi_132_10 rfl rfl rfl) ?_
      refine go_p rfl rfl rfl (o_load Try.isAgg3 rfl rfl) ?_
      refine go_op rfl rfl rfl (o_buildSlice_row (xs := [_, _]) (f := D.i64) (l := [_, _]) Try.runUnderlying28 Try.sizeOf3 Try.zeroValue3 rfl rfl rfl (fun _ => ⟨rfl, rfl, rfl⟩) rfl (by simp [maxLen])) ?_
      rintro _ _ ⟨a_r2, rfl, rfl⟩
      refine go_p rfl rfl rfl (o_assign rfl) ?_
      refine go_conv (refines_shift 0 1 rfl rfl rfl rfl) ?_
      refine go_nil ?_
      exact ⟨_, (_, _), some_eq hj1, ⟨rfl, trivial⟩, ⟨rfl, trivial⟩, [], rfl⟩
    · replace hj1 := cond_f hc1 hj1
      refine g_skip ?_
      exact ⟨_, (_, _), some_eq hj1, ⟨rfl, trivial⟩, ⟨rfl, trivial⟩, [], rfl⟩
  · rintro l1 ⟨a_r1, cap_r1⟩ hst
    subst hst
    refine k_norm (L' := [(3, .v (.slice a_r1 l1.length cap_r1)), (1, _)]) (ms' := [row a_r1 cap_r1 3 1 D.i64 l1]) rfl rfl ?_
    refine g_seq ?_
    refine g_seq ?_
    refine g_region ?_
    refine go_p rfl rfl rfl (o_assign rfl) ?_
    refine go_nil ?_
    obtain ⟨o_2, hj2, hm2⟩ := bind_some hm1
    refine g_cut_m [(1, _)] [] (fun (st : (List Int)) (hid : (Option Addr × Nat)) => match st, hid with | l2, (a_r1, cap_r1) => [(3, .v (.slice a_r1 l2.length cap_r1))]) (fun F (st : (List Int)) (hid : (Option Addr × Nat)) => match st, hid with | l2, (a_r1, cap_r1) => [row a_r1 cap_r1 3 1 D.i64 l2]) (fun st => st = o_2) ⟨rfl, trivial⟩ trivial ?_ ?_
    · skip
      refine g_block ?_
      refine g_loop_m [(1, _)] [] (fun (st : (Int × (List Int))) (hid : (Option Addr × Nat)) => match st, hid with | (i1, l3), (a_r1, cap_r1) => [(3, .v (.slice a_r1 l3.length cap_r1)), (4, .i64 i1)]) (fun F (st : (Int × (List Int))) (hid : (Option Addr × Nat)) => match st, hid with | (i1, l3), (a_r1, cap_r1) => [row a_r1 cap_r1 3 1 D.i64 l3]) (_, _) hj2 (fun _ => rfl) ⟨rfl, trivial⟩ trivial ⟨rfl, rfl, trivial⟩ rfl ?_
      rintro n ⟨i1, l3⟩ ⟨a_r1, cap_r1⟩ hj2
      rw [m_syntagmaref24_Next_l1] at hj2
      refine g_norm (L' := [(3, .v (.slice a_r1 l3.length cap_r1)), (4, .i64 i1), (1, _)]) (ms' := [row a_r1 cap_r1 3 1 D.i64 l3]) rfl rfl ?_
      refine g_seq ?_
      refine g_seq ?_
      refine g_region ?_
      refine go_p rfl rfl rfl (o_move rfl) ?_
      refine go_p rfl rfl rfl (o_fieldAddr fi_132_11 rfl rfl rfl) ?_
      refine go_p rfl rfl rfl (o_load Try.isAgg130 rfl rfl) ?_
      refine go_p rfl rfl rfl (o_len Try.runUnderlying130 rfl) ?_
      refine go_p rfl rfl rfl (o_cmp rfl rfl rfl) ?_
      refine go_nil ?_
      refine g_cond rfl (fun hc2 => ?_) (fun hc2 => ?_)
      · replace hj2 := cond_t hc2 hj2
        refine g_skip ?_
        refine g_seq ?_
        refine g_block ?_
        refine g_region ?_
        refine go_p rfl rfl rfl (o_move rfl) ?_
        refine go_p rfl rfl rfl (o_fieldAddr fi_132_11 rfl rfl rfl) ?_
        refine go_p rfl rfl rfl (o_load Try.isAgg130 rfl rfl) ?_
        refine go_p rfl rfl rfl (o_move rfl) ?_
        obtain ⟨x1, hx1, hj2⟩ := bind_some hj2
        refine go_p rfl rfl rfl (o_indexAddr_m Try.runUnderlying130 Try.sizeOf137 rfl rfl hx1) ?_
        refine go_p rfl rfl rfl (o_fieldAddr fi_137_1 rfl rfl rfl) ?_
        refine go_p rfl rfl rfl (o_load Try.isAgg3 rfl rfl) ?_
        refine go_p rfl rfl rfl (o_buildSlice (xs := [_]) (f := D.i64) (l := [_]) Try.runUnderlying28 Try.sizeOf3 Try.zeroValue3 rfl rfl rfl (fun _ => ⟨rfl, rfl, rfl⟩) rfl) ?_
        obtain ⟨hg2, hj2⟩ := grd_some hj2
        refine go_op rfl rfl rfl (o_append (a := _) 0 Try.underlying28 Try.type3 rfl rfl rfl rfl rfl rfl rfl (fun _ => rfl) (fun _ => rfl) hg2 (app_len hg2 rfl)) ?_
        rintro _ _ ⟨a_r1, cap_r1, rfl, rfl⟩
        refine go_ms (ms' := [_]) rfl ?_
        refine go_p rfl rfl rfl (o_assign rfl) ?_
        refine go_nil ?_
        refine g_region ?_
        refine go_p rfl rfl rfl (o_move rfl) ?_
        obtain ⟨hg3, hj2⟩ := grd_some hj2
        refine go_p rfl rfl rfl (o_add rfl rfl (i64_id hg3)) ?_
        refine go_p rfl rfl rfl (o_assign rfl) ?_
        refine go_nil ?_
        exact ⟨_, (_, _), hj2, ⟨rfl, rfl, trivial⟩, ⟨rfl, trivial⟩, [], rfl⟩
      · replace hj2 := cond_f hc2 hj2
        refine g_exit ?_
        exact ⟨_, (_, _), some_eq hj2, ⟨rfl, trivial⟩, ⟨rfl, trivial⟩, [], rfl⟩
    · rintro l2 ⟨a_r1, cap_r1⟩ hst
      subst hst
      refine k_norm (L' := [(3, .v (.slice a_r1 l2.length cap_r1)), (1, _)]) (ms' := [row a_r1 cap_r1 3 1 D.i64 l2]) rfl rfl ?_
      refine g_seq ?_
      refine g_seq ?_
      refine g_region ?_
      refine go_p rfl rfl rfl (o_assign rfl) ?_
      refine go_nil ?_
      obtain ⟨o_3, hj3, hm3⟩ := bind_some hm2
      refine g_cut_m [] [] (fun (st : (List Int)) (hid : (Option Addr × Nat)) => match st, hid with | l4, (a_r1, cap_r1) => [(3, .v (.slice a_r1 l4.length cap_r1))]) (fun F (st : (List Int)) (hid : (Option Addr × Nat)) => match st, hid with | l4, (a_r1, cap_r1) => [row a_r1 cap_r1 3 1 D.i64 l4]) (fun st => st = o_3) trivial trivial ?_ ?_
      · skip
        refine g_block ?_
        refine g_loop_m [(1, _)] [] (fun (st : (Int × (List Int))) (hid : (Option Addr × Nat)) => match st, hid with | (i2, l5), (a_r1, cap_r1) => [(3, .v (.slice a_r1 l5.length cap_r1)), (5, .i64 i2)]) (fun F (st : (Int × (List Int))) (hid : (Option Addr × Nat)) => match st, hid with | (i2, l5), (a_r1, cap_r1) => [row a_r1 cap_r1 3 1 D.i64 l5]) (_, _) hj3 (fun _ => rfl) ⟨rfl, trivial⟩ trivial ⟨rfl, rfl, trivial⟩ rfl ?_
        rintro n ⟨i2, l5⟩ ⟨a_r1, cap_r1⟩ hj3
        rw [m_syntagmaref24_Next_l2] at hj3
        refine g_norm (L' := [(3, .v (.slice a_r1 l5.length cap_r1)), (5, .i64 i2), (1, _)]) (ms' := [row a_r1 cap_r1 3 1 D.i64 l5]) rfl rfl ?_
        refine g_seq ?_
        refine g_seq ?_
        refine g_region ?_
        refine go_p rfl rfl rfl (o_move rfl) ?_
        refine go_p rfl rfl rfl (o_fieldAddr fi_132_12 rfl rfl rfl) ?_
        refine go_p rfl rfl rfl (o_load Try.isAgg130 rfl rfl) ?_
        refine go_p rfl rfl rfl (o_len Try.runUnderlying130 rfl) ?_
        refine go_p rfl rfl rfl (o_cmp rfl rfl rfl) ?_
        refine go_nil ?_
        refine g_cond rfl (fun hc3 => ?_) (fun hc3 => ?_)
        · replace hj3 := cond_t hc3 hj3
          refine g_skip ?_
          refine g_seq ?_
          refine g_block ?_
          refine g_region ?_
          refine go_p rfl rfl rfl (o_move rfl) ?_
          refine go_p rfl rfl rfl (o_fieldAddr fi_132_12 rfl rfl rfl) ?_
          refine go_p rfl rfl rfl (o_load Try.isAgg130 rfl rfl) ?_
          refine go_p rfl rfl rfl (o_move rfl) ?_
          obtain ⟨x2, hx4, hj3⟩ := bind_some hj3
          refine go_p rfl rfl rfl (o_indexAddr_m Try.runUnderlying130 Try.sizeOf137 rfl rfl hx4) ?_
          refine go_p rfl rfl rfl (o_fieldAddr fi_137_1 rfl rfl rfl) ?_
          refine go_p rfl rfl rfl (o_load Try.isAgg3 rfl rfl) ?_
          refine go_p rfl rfl rfl (o_buildSlice (xs := [_]) (f := D.i64) (l := [_]) Try.runUnderlying28 Try.sizeOf3 Try.zeroValue3 rfl rfl rfl (fun _ => ⟨rfl, rfl, rfl⟩) rfl) ?_
          obtain ⟨hg5, hj3⟩ := grd_some hj3
          refine go_op rfl rfl rfl (o_append (a := _) 0 Try.underlying28 Try.type3 rfl rfl rfl rfl rfl rfl rfl (fun _ => rfl) (fun _ => rfl) hg5 (app_len hg5 rfl)) ?_
          rintro _ _ ⟨a_r1, cap_r1, rfl, rfl⟩
          refine go_ms (ms' := [_]) rfl ?_
          refine go_p rfl rfl rfl (o_assign rfl) ?_
          refine go_nil ?_
          refine g_region ?_
          refine go_p rfl rfl rfl (o_move rfl) ?_
          obtain ⟨hg6, hj3⟩ := grd_some hj3
          refine go_p rfl rfl rfl (o_add rfl rfl (i64_id hg6)) ?_
          refine go_p rfl rfl rfl (o_assign rfl) ?_
          refine go_nil ?_
          exact ⟨_, (_, _), hj3, ⟨rfl, rfl, trivial⟩, ⟨rfl, trivial⟩, [], rfl⟩
        · replace hj3 := cond_f hc3 hj3
          refine g_exit ?_
          exact ⟨_, (_, _), some_eq hj3, ⟨rfl, trivial⟩, trivial, [], rfl⟩
      · rintro l4 ⟨a_r1, cap_r1⟩ hst
        subst hst
        refine k_norm (L' := [(3, .v (.slice a_r1 l4.length cap_r1))]) (ms' := [row a_r1 cap_r1 3 1 D.i64 l4]) rfl rfl ?_
        refine g_seq ?_
        refine g_region ?_
        refine go_p rfl rfl rfl (o_move rfl) ?_
        refine go_p rfl rfl rfl (o_assign rfl) ?_
        refine go_nil ?_
        refine g_conv (peekE (i := 2) 0 rfl rfl rfl).refines ?_
        refine g_ret ?_
        exact retK (ret_one' rfl (ret_tmp rfl) (perm_drop _)) (congrArg (fun (p : (List Int)) => (.list 1 D.i64 p : D)) (some_eq hm3))
def m_syntagmaref03_small (c1 : UInt8) : Option Bool :=
  some (((decide (97 ≤ (c1.toNat : Int))) && (decide ((c1.toNat : Int) ≤ 122))) || (decide ((c1.toNat : Int) = 95)))
theorem w_syntagmaref03_small {c1 : UInt8} {r_1 : Bool} (hm : m_syntagmaref03_small c1 = some r_1) : Fn0 Try.prog 140 [.u8 c1] (.bool r_1) := by
  unfold m_syntagmaref03_small at hm
  refine fn_intro Try.func140 rfl Try.ntmps140 rfl fun H0 fr w0 => ?_
  refine g_seq ?_
  refine g_region ?_
  refine go_p rfl rfl rfl (o_assign rfl) ?_
  refine go_nil ?_
  refine g_seq ?_
  refine g_region ?_
  refine go_p rfl rfl rfl (o_move rfl) ?_
  refine go_p rfl rfl rfl (o_cmp rfl rfl rfl) ?_
  refine go_p rfl rfl rfl (o_move rfl) ?_
  apply go_and [(0, _)] 3 8 (t := 5) ⟨rfl, trivial⟩ rfl
  · intro hg_1 hk1
    refine go_wantp rfl rfl rfl hg_1 rfl rfl (o_move rfl) ?_
    refine go_wantp rfl rfl rfl hg_1 rfl rfl (o_cmp rfl rfl rfl) ?_
    refine go_p rfl rfl rfl (o_pickT rfl hg_1 rfl) ?_
    exact go_meet hk1 (rfl) ⟨rfl, trivial⟩
  · intro hg_1 hk1
    refine go_skip rfl rfl rfl hg_1 rfl rfl ?_
    refine go_skip rfl rfl rfl hg_1 rfl rfl ?_
    refine go_p rfl rfl rfl (o_pickF rfl hg_1 rfl) ?_
    exact go_meet hk1 (rfl) ⟨rfl, trivial⟩
  refine go_p rfl rfl rfl (o_move rfl) ?_
  apply go_or [] 3 12 (t := 9) trivial rfl
  · intro hg_2 hk2
    refine go_wantp rfl rfl rfl hg_2 rfl rfl (o_move rfl) ?_
    refine go_wantp rfl rfl rfl hg_2 rfl rfl (o_cmp rfl rfl rfl) ?_
    refine go_p rfl rfl rfl (o_pickF rfl hg_2 rfl) ?_
    exact go_meet hk2 (rfl) trivial
  · intro hg_2 hk2
    refine go_skip rfl rfl rfl hg_2 rfl rfl ?_
    refine go_skip rfl rfl rfl hg_2 rfl rfl ?_
    refine go_p rfl rfl rfl (o_pickT rfl hg_2 rfl) ?_
    exact go_meet hk2 (rfl) trivial
  refine go_p rfl rfl rfl (o_assign rfl) ?_
  refine go_nil ?_
  refine g_ret ?_
  exact retK (ret_one' rfl (ret_tmp rfl) (perm_drop _)) (congrArg (fun (p : Bool) => (.bool p : D)) (some_eq hm))
def m_syntagmaref03_great (c1 : UInt8) : Option Bool :=
  some ((decide (65 ≤ (c1.toNat : Int))) && (decide ((c1.toNat : Int) ≤ 90)))
theorem w_syntagmaref03_great {c1 : UInt8} {r_1 : Bool} (hm : m_syntagmaref03_great c1 = some r_1) : Fn0 Try.prog 142 [.u8 c1] (.bool r_1) := by
  unfold m_syntagmaref03_great at hm
  refine fn_intro Try.func142 rfl Try.ntmps142 rfl fun H0 fr w0 => ?_
  refine g_seq ?_
  refine g_region ?_
  refine go_p rfl rfl rfl (o_assign rfl) ?_
  refine go_nil ?_
  refine g_seq ?_
  refine g_region ?_
  refine go_p rfl rfl rfl (o_move rfl) ?_
  refine go_p rfl rfl rfl (o_cmp rfl rfl rfl) ?_
  refine go_p rfl rfl rfl (o_move rfl) ?_
  apply go_and [] 3 8 (t := 5) trivial rfl
  · intro hg_1 hk1
    refine go_wantp rfl rfl rfl hg_1 rfl rfl (o_move rfl) ?_
    refine go_wantp rfl rfl rfl hg_1 rfl rfl (o_cmp rfl rfl rfl) ?_
    refine go_p rfl rfl rfl (o_pickT rfl hg_1 rfl) ?_
    exact go_meet hk1 (rfl) trivial
  · intro hg_1 hk1
    refine go_skip rfl rfl rfl hg_1 rfl rfl ?_
    refine go_skip rfl rfl rfl hg_1 rfl rfl ?_
    refine go_p rfl rfl rfl (o_pickF rfl hg_1 rfl) ?_
    exact go_meet hk1 (rfl) trivial
  refine go_p rfl rfl rfl (o_assign rfl) ?_
  refine go_nil ?_
  refine g_ret ?_
  exact retK (ret_one' rfl (ret_tmp rfl) (perm_drop _)) (congrArg (fun (p : Bool) => (.bool p : D)) (some_eq hm))
def m_syntagmaref03_Word_l1 (s1 : (List UInt8)) : Nat → Int → Option Int
  | 0, _ => none
  | n + 1, n2 =>
    (bif (decide (n2 < (s1.length : Int))) then ((idx s1 n2).bind fun c3 =>
    (m_syntagmaref03_small c3).bind fun x3 =>
    (bif x3 then (some true) else ((idx s1 n2).bind fun c4 =>
    (m_syntagmaref03_great c4).bind fun x4 =>
    some x4)).bind fun p4 =>
    (bif p4 then (some true) else ((idx s1 n2).bind fun c5 =>
    (bif (decide (48 ≤ (c5.toNat : Int))) then ((idx s1 n2).bind fun c6 =>
    some (decide ((c6.toNat : Int) ≤ 57))) else (some false)).bind fun p6 =>
    some p6)).bind fun p5 =>
    some p5) else (some false)).bind fun p3 =>
    bif p3 then
      grd (InR (n2 + 1)) <|
      m_syntagmaref03_Word_l1 s1 n (n2 + 1)
    else
      some n2
def m_syntagmaref03_Word (s1 : (List UInt8)) : Option Int :=
  (bif (decide ((s1.length : Int) = 0)) then (some true) else ((idx s1 0).bind fun c1 =>
  (m_syntagmaref03_small c1).bind fun x1 =>
  (bif (!x1) then ((idx s1 0).bind fun c2 =>
  (m_syntagmaref03_great c2).bind fun x2 =>
  some (!x2)) else (some false)).bind fun p2 =>
  some p2)).bind fun p1 =>
  bif p1 then
    some 0
  else
    (m_syntagmaref03_Word_l1 s1 FU 1 : Option Int).bind fun n1 =>
    some n1
theorem w_syntagmaref03_Word {s1 : (List UInt8)} {r_1 : Int} (hm : m_syntagmaref03_Word s1 = some r_1) : Fn0 Try.prog 139 [.str s1] (.i64 r_1) := by
  unfold m_syntagmaref03_Word at hm
  refine fn_intro Try.func139 rfl Try.ntmps139 rfl fun H0 fr w0 => ?_
  refine g_seq ?_
  refine g_region ?_
  refine go_p rfl rfl rfl (o_assign rfl) ?_
  refine go_nil ?_
  refine g_seq ?_
  refine g_seq ?_
  refine g_region ?_
  refine go_p rfl rfl rfl (o_move rfl) ?_
  refine go_p rfl rfl rfl (o_len_str Try.runUnderlying9 rfl) ?_
  refine go_p rfl rfl rfl (o_cmp rfl rfl rfl) ?_
  refine go_p rfl rfl rfl (o_move rfl) ?_
  obtain ⟨p1, hp_1, hm⟩ := bind_some hm
  refine go_two [(0, _)] 11 18 p1 (t := 7) ⟨rfl, trivial⟩ rfl (fun hg_1 hk1 => ?_) (fun hg_1 hk1 => ?_) ?_
  · replace hp_1 := cond_t hg_1 hp_1
    refine go_skip rfl rfl rfl hg_1 rfl rfl ?_
    refine go_skip rfl rfl rfl hg_1 rfl rfl ?_
    refine go_skip rfl rfl rfl hg_1 rfl rfl ?_
    refine go_skip rfl rfl rfl hg_1 rfl rfl ?_
    refine go_skip rfl rfl rfl hg_1 rfl rfl ?_
    refine go_skipu rfl rfl rfl rfl rfl ?_
    refine go_skipu rfl rfl rfl rfl rfl ?_
    refine go_skipu rfl rfl rfl rfl rfl ?_
    refine go_skipu rfl rfl rfl rfl rfl ?_
    refine go_skip rfl rfl rfl hg_1 rfl rfl ?_
    refine go_p rfl rfl rfl (o_pickT rfl hg_1 rfl) ?_
    exact go_meet hk1 (congrArg (fun b => some (D.bool b)) (some_eq hp_1)) ⟨rfl, trivial⟩
  · replace hp_1 := cond_f hg_1 hp_1
    refine go_wantp rfl rfl rfl hg_1 rfl rfl (o_move rfl) ?_
    obtain ⟨c1, hx1, hp_1⟩ := bind_some hp_1
    refine go_wantp rfl rfl rfl hg_1 rfl rfl (o_index_m Try.runUnderlying9 rfl rfl hx1) ?_
    obtain ⟨x1, hx2, hp_1⟩ := bind_some hp_1
    refine go_wantp rfl rfl rfl hg_1 rfl rfl (o_call0 Try.call140 rfl (w_syntagmaref03_small hx2)) ?_
    refine go_wantp rfl rfl rfl hg_1 rfl rfl (o_not rfl) ?_
    refine go_wantp rfl rfl rfl hg_1 rfl rfl (o_move rfl) ?_
    obtain ⟨p2, hp_2, hp_1⟩ := bind_some hp_1
    refine go_two [(0, _), (7, _)] 5 17 p2 (t := 12) ⟨rfl, rfl, trivial⟩ rfl (fun hg_2 hk2 => ?_) (fun hg_2 hk2 => ?_) ?_
    · replace hp_2 := cond_t hg_2 hp_2
      refine go_wantp rfl rfl rfl hg_2 rfl rfl (o_move rfl) ?_
      obtain ⟨c2, hx3, hp_2⟩ := bind_some hp_2
      refine go_wantp rfl rfl rfl hg_2 rfl rfl (o_index_m Try.runUnderlying9 rfl rfl hx3) ?_
      obtain ⟨x2, hx4, hp_2⟩ := bind_some hp_2
      refine go_wantp rfl rfl rfl hg_2 rfl rfl (o_call0 Try.call142 rfl (w_syntagmaref03_great hx4)) ?_
      refine go_wantp rfl rfl rfl hg_2 rfl rfl (o_not rfl) ?_
      refine go_wantp rfl rfl rfl hg_1 rfl rfl (o_pickT rfl hg_2 rfl) ?_
      exact go_meet hk2 (congrArg (fun b => some (D.bool b)) (some_eq hp_2)) ⟨rfl, rfl, trivial⟩
    · replace hp_2 := cond_f hg_2 hp_2
      refine go_skip rfl rfl rfl hg_2 rfl rfl ?_
      refine go_skip rfl rfl rfl hg_2 rfl rfl ?_
      refine go_skip rfl rfl rfl hg_2 rfl rfl ?_
      refine go_skip rfl rfl rfl hg_2 rfl rfl ?_
      refine go_wantp rfl rfl rfl hg_1 rfl rfl (o_pickF rfl hg_2 rfl) ?_
      exact go_meet hk2 (congrArg (fun b => some (D.bool b)) (some_eq hp_2)) ⟨rfl, rfl, trivial⟩
    refine go_p rfl rfl rfl (o_pickF rfl hg_1 rfl) ?_
    exact go_meet hk1 (congrArg (fun b => some (D.bool b)) (some_eq hp_1)) ⟨rfl, trivial⟩
  refine go_nil ?_
  refine g_cond rfl (fun hc1 => ?_) (fun hc1 => ?_)
  · replace hm := cond_t hc1 hm
    refine g_seq ?_
    refine g_region ?_
    refine go_p rfl rfl rfl (o_assign rfl) ?_
    refine go_nil ?_
    refine g_ret ?_
    exact retK (ret_one' rfl (ret_tmp rfl) (perm_drop _)) (congrArg (fun (p : Int) => (.i64 p : D)) (some_eq hm))
  · replace hm := cond_f hc1 hm
    refine g_skip ?_
    refine g_seq ?_
    refine g_region ?_
    refine go_p rfl rfl rfl (o_assign rfl) ?_
    refine go_nil ?_
    refine g_seq ?_
    obtain ⟨o_1, hj1, hm1⟩ := bind_some hm
    refine g_cut_m [] [] (fun (st : Int) (hid : Unit) => match st, hid with | n1, _ => [(3, .i64 n1)]) (fun F (st : Int) (hid : Unit) => match st, hid with | n1, _ => []) (fun st => st = o_1) trivial trivial ?_ ?_
    · skip
      refine g_block ?_
      refine g_loop_m [(0, _)] [] (fun (st : Int) (hid : Unit) => match st, hid with | n2, _ => [(3, .i64 n2)]) (fun F (st : Int) (hid : Unit) => match st, hid with | n2, _ => []) () hj1 (fun _ => rfl) ⟨rfl, trivial⟩ trivial ⟨rfl, trivial⟩ rfl ?_
      rintro n n2 _ hj1
      rw [m_syntagmaref03_Word_l1] at hj1
      refine g_norm (L' := [(3, .i64 n2), (0, _)]) (ms' := []) rfl rfl ?_
      refine g_seq ?_
      refine g_seq ?_
      refine g_region ?_
      refine go_p rfl rfl rfl (o_move rfl) ?_
      refine go_p rfl rfl rfl (o_move rfl) ?_
      refine go_p rfl rfl rfl (o_len_str Try.runUnderlying9 rfl) ?_
      refine go_p rfl rfl rfl (o_cmp rfl rfl rfl) ?_
      refine go_p rfl rfl rfl (o_move rfl) ?_
      obtain ⟨p3, hp_3, hj1⟩ := bind_some hj1
      refine go_two [(0, _), (3, _)] 23 46 p3 (t := 23) ⟨rfl, rfl, trivial⟩ rfl (fun hg_3 hk3 => ?_) (fun hg_3 hk3 => ?_) ?_
      · replace hp_3 := cond_t hg_3 hp_3
        refine go_wantp rfl rfl rfl hg_3 rfl rfl (o_move rfl) ?_
        refine go_wantp rfl rfl rfl hg_3 rfl rfl (o_move rfl) ?_
        obtain ⟨c3, hx5, hp_3⟩ := bind_some hp_3
        refine go_wantp rfl rfl rfl hg_3 rfl rfl (o_index_m Try.runUnderlying9 rfl rfl hx5) ?_
        obtain ⟨x3, hx6, hp_3⟩ := bind_some hp_3
        refine go_wantp rfl rfl rfl hg_3 rfl rfl (o_call0 Try.call140 rfl (w_syntagmaref03_small hx6)) ?_
        refine go_wantp rfl rfl rfl hg_3 rfl rfl (o_move rfl) ?_
        obtain ⟨p4, hp_4, hp_3⟩ := bind_some hp_3
        refine go_two [(0, _), (3, _), (23, _)] 5 33 p4 (t := 28) ⟨rfl, rfl, rfl, trivial⟩ rfl (fun hg_4 hk4 => ?_) (fun hg_4 hk4 => ?_) ?_
        · replace hp_4 := cond_t hg_4 hp_4
          refine go_skip rfl rfl rfl hg_4 rfl rfl ?_
          refine go_skip rfl rfl rfl hg_4 rfl rfl ?_
          refine go_skip rfl rfl rfl hg_4 rfl rfl ?_
          refine go_skip rfl rfl rfl hg_4 rfl rfl ?_
          refine go_wantp rfl rfl rfl hg_3 rfl rfl (o_pickT rfl hg_4 rfl) ?_
          exact go_meet hk4 (congrArg (fun b => some (D.bool b)) (some_eq hp_4)) ⟨rfl, rfl, rfl, trivial⟩
        · replace hp_4 := cond_f hg_4 hp_4
          refine go_wantp rfl rfl rfl hg_4 rfl rfl (o_move rfl) ?_
          refine go_wantp rfl rfl rfl hg_4 rfl rfl (o_move rfl) ?_
          obtain ⟨c4, hx7, hp_4⟩ := bind_some hp_4
          refine go_wantp rfl rfl rfl hg_4 rfl rfl (o_index_m Try.runUnderlying9 rfl rfl hx7) ?_
          obtain ⟨x4, hx8, hp_4⟩ := bind_some hp_4
          refine go_wantp rfl rfl rfl hg_4 rfl rfl (o_call0 Try.call142 rfl (w_syntagmaref03_great hx8)) ?_
          refine go_wantp rfl rfl rfl hg_3 rfl rfl (o_pickF rfl hg_4 rfl) ?_
          exact go_meet hk4 (congrArg (fun b => some (D.bool b)) (some_eq hp_4)) ⟨rfl, rfl, rfl, trivial⟩
        refine go_wantp rfl rfl rfl hg_3 rfl rfl (o_move rfl) ?_
        obtain ⟨p5, hp_5, hp_3⟩ := bind_some hp_3
        refine go_two [(0, _), (3, _), (23, _)] 11 45 p5 (t := 34) ⟨rfl, rfl, rfl, trivial⟩ rfl (fun hg_5 hk5 => ?_) (fun hg_5 hk5 => ?_) ?_
        · replace hp_5 := cond_t hg_5 hp_5
          refine go_skip rfl rfl rfl hg_5 rfl rfl ?_
          refine go_skip rfl rfl rfl hg_5 rfl rfl ?_
          refine go_skip rfl rfl rfl hg_5 rfl rfl ?_
          refine go_skip rfl rfl rfl hg_5 rfl rfl ?_
          refine go_skip rfl rfl rfl hg_5 rfl rfl ?_
          refine go_skipu rfl rfl rfl rfl rfl ?_
          refine go_skipu rfl rfl rfl rfl rfl ?_
          refine go_skipu rfl rfl rfl rfl rfl ?_
          refine go_skipu rfl rfl rfl rfl rfl ?_
          refine go_skip rfl rfl rfl hg_5 rfl rfl ?_
          refine go_wantp rfl rfl rfl hg_3 rfl rfl (o_pickT rfl hg_5 rfl) ?_
          exact go_meet hk5 (congrArg (fun b => some (D.bool b)) (some_eq hp_5)) ⟨rfl, rfl, rfl, trivial⟩
        · replace hp_5 := cond_f hg_5 hp_5
          refine go_wantp rfl rfl rfl hg_5 rfl rfl (o_move rfl) ?_
          refine go_wantp rfl rfl rfl hg_5 rfl rfl (o_move rfl) ?_
          obtain ⟨c5, hx9, hp_5⟩ := bind_some hp_5
          refine go_wantp rfl rfl rfl hg_5 rfl rfl (o_index_m Try.runUnderlying9 rfl rfl hx9) ?_
          refine go_wantp rfl rfl rfl hg_5 rfl rfl (o_cmp rfl rfl rfl) ?_
          refine go_wantp rfl rfl rfl hg_5 rfl rfl (o_move rfl) ?_
          obtain ⟨p6, hp_6, hp_5⟩ := bind_some hp_5
          refine go_two [(0, _), (3, _), (23, _), (34, _)] 5 44 p6 (t := 39) ⟨rfl, rfl, rfl, rfl, trivial⟩ rfl (fun hg_6 hk6 => ?_) (fun hg_6 hk6 => ?_) ?_
          · replace hp_6 := cond_t hg_6 hp_6
            refine go_wantp rfl rfl rfl hg_6 rfl rfl (o_move rfl) ?_
            refine go_wantp rfl rfl rfl hg_6 rfl rfl (o_move rfl) ?_
            obtain ⟨c6, hx10, hp_6⟩ := bind_some hp_6
            refine go_wantp rfl rfl rfl hg_6 rfl rfl (o_index_m Try.runUnderlying9 rfl rfl hx10) ?_
            refine go_wantp rfl rfl rfl hg_6 rfl rfl (o_cmp rfl rfl rfl) ?_
            refine go_wantp rfl rfl rfl hg_5 rfl rfl (o_pickT rfl hg_6 rfl) ?_
            exact go_meet hk6 (congrArg (fun b => some (D.bool b)) (some_eq hp_6)) ⟨rfl, rfl, rfl, rfl, trivial⟩
          · replace hp_6 := cond_f hg_6 hp_6
            refine go_skip rfl rfl rfl hg_6 rfl rfl ?_
            refine go_skip rfl rfl rfl hg_6 rfl rfl ?_
            refine go_skip rfl rfl rfl hg_6 rfl rfl ?_
            refine go_skip rfl rfl rfl hg_6 rfl rfl ?_
            refine go_wantp rfl rfl rfl hg_5 rfl rfl (o_pickF rfl hg_6 rfl) ?_
            exact go_meet hk6 (congrArg (fun b => some (D.bool b)) (some_eq hp_6)) ⟨rfl, rfl, rfl, rfl, trivial⟩
          refine go_wantp rfl rfl rfl hg_3 rfl rfl (o_pickF rfl hg_5 rfl) ?_
          exact go_meet hk5 (congrArg (fun b => some (D.bool b)) (some_eq hp_5)) ⟨rfl, rfl, rfl, trivial⟩
        refine go_p rfl rfl rfl (o_pickT rfl hg_3 rfl) ?_
        exact go_meet hk3 (congrArg (fun b => some (D.bool b)) (some_eq hp_3)) ⟨rfl, rfl, trivial⟩
      · replace hp_3 := cond_f hg_3 hp_3
        refine go_skip rfl rfl rfl hg_3 rfl rfl ?_
        refine go_skip rfl rfl rfl hg_3 rfl rfl ?_
        refine go_skip rfl rfl rfl hg_3 rfl rfl ?_
        refine go_skip rfl rfl rfl hg_3 rfl rfl ?_
        refine go_skip rfl rfl rfl hg_3 rfl rfl ?_
        refine go_skipu rfl rfl rfl rfl rfl ?_
        refine go_skipu rfl rfl rfl rfl rfl ?_
        refine go_skipu rfl rfl rfl rfl rfl ?_
        refine go_skipu rfl rfl rfl rfl rfl ?_
        refine go_skip rfl rfl rfl hg_3 rfl rfl ?_
        refine go_skip rfl rfl rfl hg_3 rfl rfl ?_
        refine go_skipu rfl rfl rfl rfl rfl ?_
        refine go_skipu rfl rfl rfl rfl rfl ?_
        refine go_skipu rfl rfl rfl rfl rfl ?_
        refine go_skipu rfl rfl rfl rfl rfl ?_
        refine go_skipu rfl rfl rfl rfl rfl ?_
        refine go_skipu rfl rfl rfl rfl rfl ?_
        refine go_skipu rfl rfl rfl rfl rfl ?_
        refine go_skipu rfl rfl rfl rfl rfl ?_
        refine go_skipu rfl rfl rfl rfl rfl ?_
        refine go_skipu rfl rfl rfl rfl rfl ?_
        refine go_skip rfl rfl rfl hg_3 rfl rfl ?_
        refine go_p rfl rfl rfl (o_pickF rfl hg_3 rfl) ?_
        exact go_meet hk3 (congrArg (fun b => some (D.bool b)) (some_eq hp_3)) ⟨rfl, rfl, trivial⟩
      refine go_nil ?_
      refine g_cond rfl (fun hc2 => ?_) (fun hc2 => ?_)
      · replace hj1 := cond_t hc2 hj1
        refine g_skip ?_
        refine g_block ?_
        refine g_region ?_
        refine go_p rfl rfl rfl (o_move rfl) ?_
        obtain ⟨hg11, hj1⟩ := grd_some hj1
        refine go_p rfl rfl rfl (o_add rfl rfl (i64_id hg11)) ?_
        refine go_p rfl rfl rfl (o_assign rfl) ?_
        refine go_nil ?_
        exact ⟨_, (), hj1, ⟨rfl, trivial⟩, ⟨rfl, trivial⟩, [], rfl⟩
      · replace hj1 := cond_f hc2 hj1
        refine g_exit ?_
        exact ⟨_, (), some_eq hj1, ⟨rfl, trivial⟩, trivial, [], rfl⟩
    · rintro n1 _ hst
      subst hst
      refine k_norm (L' := [(3, .i64 n1)]) (ms' := []) rfl rfl ?_
      refine g_seq ?_
      refine g_region ?_
      refine go_p rfl rfl rfl (o_move rfl) ?_
      refine go_p rfl rfl rfl (o_assign rfl) ?_
      refine go_nil ?_
      refine g_ret ?_
      exact retK (ret_one' rfl (ret_tmp rfl) (perm_drop _)) (congrArg (fun (p : Int) => (.i64 p : D)) (some_eq hm1))
def m_syntagmaref03_In_l1 (s1 : (List UInt8)) (l1 : (List (List UInt8))) : Nat → Int → Option (Out Bool Unit)
  | 0, _ => none
  | n + 1, i1 =>
    bif (decide (i1 < (l1.length : Int))) then
      (idx l1 i1).bind fun x1 =>
      bif (decide ((x1 : List UInt8) = s1)) then
        some (Out.ret true)
      else
        grd (InR (i1 + 1)) <|
        m_syntagmaref03_In_l1 s1 l1 n (i1 + 1)
    else
      some (Out.go (()))
def m_syntagmaref03_In (s1 : (List UInt8)) (l1 : (List (List UInt8))) : Option Bool :=
  ((m_syntagmaref03_In_l1 s1 l1 FU 0 : Option (Out Bool Unit))).bind (fun oo => oo.on (fun r1 => some r1) (fun _ =>
  some false))
theorem w_syntagmaref03_In {s1 : (List UInt8)} {l1 : (List (List UInt8))} {r_1 : Bool} (hm : m_syntagmaref03_In s1 l1 = some r_1) : Fn0 Try.prog 171 [.str s1, .list 1 D.str l1] (.bool r_1) := by
  unfold m_syntagmaref03_In at hm
  refine fn_intro Try.func171 rfl Try.ntmps171 rfl fun H0 fr w0 => ?_
  refine g_seq ?_
  refine g_region ?_
  refine go_p rfl rfl rfl (o_assign rfl) ?_
  refine go_nil ?_
  refine g_seq ?_
  refine g_seq ?_
  refine g_region ?_
  refine go_p rfl rfl rfl (o_assign rfl) ?_
  refine go_nil ?_
  obtain ⟨o_1, hj1, hm1⟩ := bind_some hm
  refine g_cut_m [] [] (fun (st : Unit) (hid : Unit) => match st, hid with | _, _ => []) (fun F (st : Unit) (hid : Unit) => match st, hid with | _, _ => []) (fun st => Out.go (st) = o_1) trivial trivial ?_ ?_
  · skip
    refine g_block ?_
    refine g_loop_m [(0, _), (1, _)] [] (fun (st : Int) (hid : Unit) => match st, hid with | i1, _ => [(5, .i64 i1)]) (fun F (st : Int) (hid : Unit) => match st, hid with | i1, _ => []) () hj1 (fun _ => rfl) ⟨rfl, rfl, trivial⟩ trivial ⟨rfl, trivial⟩ rfl ?_
    rintro n i1 _ hj1
    rw [m_syntagmaref03_In_l1] at hj1
    refine g_norm (L' := [(5, .i64 i1), (0, _), (1, _)]) (ms' := []) rfl rfl ?_
    refine g_seq ?_
    refine g_seq ?_
    refine g_region ?_
    refine go_p rfl rfl rfl (o_move rfl) ?_
    refine go_p rfl rfl rfl (o_move rfl) ?_
    refine go_p rfl rfl rfl (o_len Try.runUnderlying41 rfl) ?_
    refine go_p rfl rfl rfl (o_cmp rfl rfl rfl) ?_
    refine go_nil ?_
    refine g_cond rfl (fun hc1 => ?_) (fun hc1 => ?_)
    · replace hj1 := cond_t hc1 hj1
      refine g_skip ?_
      refine g_seq ?_
      refine g_block ?_
      refine g_seq ?_
      refine g_region ?_
      refine go_p rfl rfl rfl (o_move rfl) ?_
      refine go_p rfl rfl rfl (o_move rfl) ?_
      obtain ⟨x1, hx1, hj1⟩ := bind_some hj1
      refine go_p rfl rfl rfl (o_indexAddr_m Try.runUnderlying41 Try.sizeOf9 rfl rfl hx1) ?_
      refine go_p rfl rfl rfl (o_load Try.isAgg9 rfl rfl) ?_
      refine go_p rfl rfl rfl (o_move rfl) ?_
      refine go_p rfl rfl rfl (o_cmps rfl rfl rfl) ?_
      refine go_nil ?_
      refine g_cond rfl (fun hc2 => ?_) (fun hc2 => ?_)
      · replace hj1 := cond_t hc2 hj1
        refine g_seq ?_
        refine g_region ?_
        refine go_p rfl rfl rfl (o_assign rfl) ?_
        refine go_nil ?_
        refine g_ret ?_
        obtain rfl := some_eq hj1
        replace hm1 := on_ret hm1
        exact retK (ret_one' rfl (ret_tmp rfl) (perm_drop _)) (congrArg (fun (p : Bool) => (.bool p : D)) (some_eq hm1))
      · replace hj1 := cond_f hc2 hj1
        refine g_skip ?_
        refine g_region ?_
        refine go_p rfl rfl rfl (o_move rfl) ?_
        obtain ⟨hg2, hj1⟩ := grd_some hj1
        refine go_p rfl rfl rfl (o_add rfl rfl (i64_id hg2)) ?_
        refine go_p rfl rfl rfl (o_assign rfl) ?_
        refine go_nil ?_
        exact ⟨_, (), hj1, ⟨rfl, trivial⟩, ⟨rfl, rfl, trivial⟩, [], rfl⟩
    · replace hj1 := cond_f hc1 hj1
      refine g_exit ?_
      exact ⟨_, (), some_eq hj1, trivial, trivial, [], rfl⟩
  · rintro _ _ hst
    subst hst
    replace hm1 := on_go hm1
    refine k_norm (L' := []) (ms' := []) rfl rfl ?_
    refine g_seq ?_
    refine g_region ?_
    refine go_p rfl rfl rfl (o_assign rfl) ?_
    refine go_nil ?_
    refine g_ret ?_
    exact retK (ret_one' rfl (ret_tmp rfl) (perm_drop _)) (congrArg (fun (p : Bool) => (.bool p : D)) (some_eq hm1))
def m_syntagmaref03_Keywords  : Option (List (List UInt8)) :=
  some [([102, 117, 110] : List UInt8), ([108, 101, 116] : List UInt8), ([114, 101, 99] : List UInt8), ([105, 110] : List UInt8), ([105, 102] : List UInt8), ([116, 104, 101, 110] : List UInt8), ([101, 108, 115, 101] : List UInt8), ([99, 97, 115, 101] : List UInt8), ([111, 102] : List UInt8), ([101, 110, 100] : List UInt8), ([116, 114, 117, 101] : List UInt8), ([102, 97, 108, 115, 101] : List UInt8), ([99, 104, 101, 99, 107] : List UInt8), ([97, 115, 107] : List UInt8), ([116, 111, 112] : List UInt8), ([98, 111, 116] : List UInt8), ([105, 110, 116] : List UInt8), ([98, 111, 111, 108] : List UInt8), ([115, 116, 114, 105, 110, 103] : List UInt8), ([109, 117] : List UInt8)]
theorem w_syntagmaref03_Keywords  {r_1 : (List (List UInt8))} (hm : m_syntagmaref03_Keywords = some r_1) : Fn0 Try.prog 172 [] (.list 1 D.str r_1) := by
  unfold m_syntagmaref03_Keywords at hm
  refine fn_intro Try.func172 rfl Try.ntmps172 rfl fun H0 fr w0 => ?_
  refine g_seq ?_
  refine g_region ?_
  refine go_p rfl rfl rfl (o_assign rfl) ?_
  refine go_conv (nilE (i := 0) (sz := 1) (f := D.str) rfl).refines ?_
  refine go_nil ?_
  refine g_seq ?_
  refine g_region ?_
  refine go_p rfl rfl rfl (o_buildSlice (xs := [_, _, _, _, _, _, _, _, _, _, _, _, _, _, _, _, _, _, _, _]) (f := D.str) (l := [_, _, _, _, _, _, _, _, _, _, _, _, _, _, _, _, _, _, _, _]) Try.runUnderlying41 Try.sizeOf9 Try.zeroValue9 rfl rfl rfl (fun _ => ⟨rfl, rfl, rfl⟩) rfl) ?_
  refine go_p rfl rfl rfl (o_assign rfl) ?_
  refine go_nil ?_
  refine g_ret ?_
  exact retK (ret_one' rfl (ret_tmp rfl) (perm_drop _)) (congrArg (fun (p : (List (List UInt8))) => (.list 1 D.str p : D)) (some_eq hm))
def m_syntagmaref03_Keyword (s1 : (List UInt8)) : Option Bool :=
  (m_syntagmaref03_Keywords).bind fun x1 =>
  (m_syntagmaref03_In s1 x1).bind fun x2 =>
  some x2
theorem w_syntagmaref03_Keyword {s1 : (List UInt8)} {r_1 : Bool} (hm : m_syntagmaref03_Keyword s1 = some r_1) : Fn0 Try.prog 141 [.str s1] (.bool r_1) := by
  unfold m_syntagmaref03_Keyword at hm
  refine fn_intro Try.func141 rfl Try.ntmps141 rfl fun H0 fr w0 => ?_
  refine g_seq ?_
  refine g_region ?_
  refine go_p rfl rfl rfl (o_assign rfl) ?_
  refine go_nil ?_
  refine g_seq ?_
  refine g_region ?_
  refine go_p rfl rfl rfl (o_move rfl) ?_
  obtain ⟨x1, hx1, hm⟩ := bind_some hm
  refine go_p rfl rfl rfl (o_call0 Try.call172 rfl (w_syntagmaref03_Keywords hx1)) ?_
  obtain ⟨x2, hx2, hm⟩ := bind_some hm
  refine go_p rfl rfl rfl (o_call0 Try.call171 rfl (w_syntagmaref03_In hx2)) ?_
  refine go_p rfl rfl rfl (o_assign rfl) ?_
  refine go_nil ?_
  refine g_ret ?_
  exact retK (ret_one' rfl (ret_tmp rfl) (perm_drop _)) (congrArg (fun (p : Bool) => (.bool p : D)) (some_eq hm))
def m_syntagmaref03_Name (s1 : (List UInt8)) : Option Bool :=
  (bif ((decide (0 < (s1.length : Int))) && (decide ((s1.length : Int) ≤ 20))) then ((m_syntagmaref03_Word s1).bind fun x1 =>
  some (decide (x1 = (s1.length : Int)))) else (some false)).bind fun p1 =>
  (bif p1 then ((idx s1 0).bind fun c1 =>
  (m_syntagmaref03_small c1).bind fun x2 =>
  some x2) else (some false)).bind fun p2 =>
  (bif p2 then ((m_syntagmaref03_Keyword s1).bind fun x3 =>
  some (!x3)) else (some false)).bind fun p3 =>
  some p3
theorem w_syntagmaref03_Name {s1 : (List UInt8)} {r_1 : Bool} (hm : m_syntagmaref03_Name s1 = some r_1) : Fn0 Try.prog 110 [.str s1] (.bool r_1) := by
  unfold m_syntagmaref03_Name at hm
  refine fn_intro Try.func110 rfl Try.ntmps110 rfl fun H0 fr w0 => ?_
  refine g_seq ?_
  refine g_region ?_
  refine go_p rfl rfl rfl (o_assign rfl) ?_
  refine go_nil ?_
  refine g_seq ?_
  refine g_region ?_
  refine go_p rfl rfl rfl (o_move rfl) ?_
  refine go_p rfl rfl rfl (o_len_str Try.runUnderlying9 rfl) ?_
  refine go_p rfl rfl rfl (o_cmp rfl rfl rfl) ?_
  refine go_p rfl rfl rfl (o_move rfl) ?_
  apply go_and [(0, _)] 4 10 (t := 6) ⟨rfl, trivial⟩ rfl
  · intro hg_1 hk1
    refine go_wantp rfl rfl rfl hg_1 rfl rfl (o_move rfl) ?_
    refine go_wantp rfl rfl rfl hg_1 rfl rfl (o_len_str Try.runUnderlying9 rfl) ?_
    refine go_wantp rfl rfl rfl hg_1 rfl rfl (o_cmp rfl rfl rfl) ?_
    refine go_p rfl rfl rfl (o_pickT rfl hg_1 rfl) ?_
    exact go_meet hk1 (rfl) ⟨rfl, trivial⟩
  · intro hg_1 hk1
    refine go_skip rfl rfl rfl hg_1 rfl rfl ?_
    refine go_skip rfl rfl rfl hg_1 rfl rfl ?_
    refine go_skip rfl rfl rfl hg_1 rfl rfl ?_
    refine go_p rfl rfl rfl (o_pickF rfl hg_1 rfl) ?_
    exact go_meet hk1 (rfl) ⟨rfl, trivial⟩
  refine go_p rfl rfl rfl (o_move rfl) ?_
  obtain ⟨p1, hp_2, hm⟩ := bind_some hm
  refine go_two [(0, _)] 6 17 p1 (t := 11) ⟨rfl, trivial⟩ rfl (fun hg_2 hk2 => ?_) (fun hg_2 hk2 => ?_) ?_
  · replace hp_2 := cond_t hg_2 hp_2
    refine go_wantp rfl rfl rfl hg_2 rfl rfl (o_move rfl) ?_
    obtain ⟨x1, hx1, hp_2⟩ := bind_some hp_2
    refine go_wantp rfl rfl rfl hg_2 rfl rfl (o_call0 Try.call139 rfl (w_syntagmaref03_Word hx1)) ?_
    refine go_wantp rfl rfl rfl hg_2 rfl rfl (o_move rfl) ?_
    refine go_wantp rfl rfl rfl hg_2 rfl rfl (o_len_str Try.runUnderlying9 rfl) ?_
    refine go_wantp rfl rfl rfl hg_2 rfl rfl (o_cmp rfl rfl rfl) ?_
    refine go_p rfl rfl rfl (o_pickT rfl hg_2 rfl) ?_
    exact go_meet hk2 (congrArg (fun b => some (D.bool b)) (some_eq hp_2)) ⟨rfl, trivial⟩
  · replace hp_2 := cond_f hg_2 hp_2
    refine go_skip rfl rfl rfl hg_2 rfl rfl ?_
    refine go_skip rfl rfl rfl hg_2 rfl rfl ?_
    refine go_skip rfl rfl rfl hg_2 rfl rfl ?_
    refine go_skip rfl rfl rfl hg_2 rfl rfl ?_
    refine go_skip rfl rfl rfl hg_2 rfl rfl ?_
    refine go_p rfl rfl rfl (o_pickF rfl hg_2 rfl) ?_
    exact go_meet hk2 (congrArg (fun b => some (D.bool b)) (some_eq hp_2)) ⟨rfl, trivial⟩
  refine go_p rfl rfl rfl (o_move rfl) ?_
  obtain ⟨p2, hp_3, hm⟩ := bind_some hm
  refine go_two [(0, _)] 4 22 p2 (t := 18) ⟨rfl, trivial⟩ rfl (fun hg_3 hk3 => ?_) (fun hg_3 hk3 => ?_) ?_
  · replace hp_3 := cond_t hg_3 hp_3
    refine go_wantp rfl rfl rfl hg_3 rfl rfl (o_move rfl) ?_
    obtain ⟨c1, hx2, hp_3⟩ := bind_some hp_3
    refine go_wantp rfl rfl rfl hg_3 rfl rfl (o_index_m Try.runUnderlying9 rfl rfl hx2) ?_
    obtain ⟨x2, hx3, hp_3⟩ := bind_some hp_3
    refine go_wantp rfl rfl rfl hg_3 rfl rfl (o_call0 Try.call140 rfl (w_syntagmaref03_small hx3)) ?_
    refine go_p rfl rfl rfl (o_pickT rfl hg_3 rfl) ?_
    exact go_meet hk3 (congrArg (fun b => some (D.bool b)) (some_eq hp_3)) ⟨rfl, trivial⟩
  · replace hp_3 := cond_f hg_3 hp_3
    refine go_skip rfl rfl rfl hg_3 rfl rfl ?_
    refine go_skip rfl rfl rfl hg_3 rfl rfl ?_
    refine go_skip rfl rfl rfl hg_3 rfl rfl ?_
    refine go_p rfl rfl rfl (o_pickF rfl hg_3 rfl) ?_
    exact go_meet hk3 (congrArg (fun b => some (D.bool b)) (some_eq hp_3)) ⟨rfl, trivial⟩
  refine go_p rfl rfl rfl (o_move rfl) ?_
  obtain ⟨p3, hp_4, hm⟩ := bind_some hm
  refine go_two [] 4 27 p3 (t := 23) trivial rfl (fun hg_4 hk4 => ?_) (fun hg_4 hk4 => ?_) ?_
  · replace hp_4 := cond_t hg_4 hp_4
    refine go_wantp rfl rfl rfl hg_4 rfl rfl (o_move rfl) ?_
    obtain ⟨x3, hx4, hp_4⟩ := bind_some hp_4
    refine go_wantp rfl rfl rfl hg_4 rfl rfl (o_call0 Try.call141 rfl (w_syntagmaref03_Keyword hx4)) ?_
    refine go_wantp rfl rfl rfl hg_4 rfl rfl (o_not rfl) ?_
    refine go_p rfl rfl rfl (o_pickT rfl hg_4 rfl) ?_
    exact go_meet hk4 (congrArg (fun b => some (D.bool b)) (some_eq hp_4)) trivial
  · replace hp_4 := cond_f hg_4 hp_4
    refine go_skip rfl rfl rfl hg_4 rfl rfl ?_
    refine go_skip rfl rfl rfl hg_4 rfl rfl ?_
    refine go_skip rfl rfl rfl hg_4 rfl rfl ?_
    refine go_p rfl rfl rfl (o_pickF rfl hg_4 rfl) ?_
    exact go_meet hk4 (congrArg (fun b => some (D.bool b)) (some_eq hp_4)) trivial
  refine go_p rfl rfl rfl (o_assign rfl) ?_
  refine go_nil ?_
  refine g_ret ?_
  exact retK (ret_one' rfl (ret_tmp rfl) (perm_drop _)) (congrArg (fun (p : Bool) => (.bool p : D)) (some_eq hm))
def m_syntagmaref03_Tag (s1 : (List UInt8)) : Option Bool :=
  (bif ((decide (0 < (s1.length : Int))) && (decide ((s1.length : Int) ≤ 20))) then ((m_syntagmaref03_Word s1).bind fun x1 =>
  some (decide (x1 = (s1.length : Int)))) else (some false)).bind fun p1 =>
  (bif p1 then ((idx s1 0).bind fun c1 =>
  (m_syntagmaref03_great c1).bind fun x2 =>
  some x2) else (some false)).bind fun p2 =>
  some p2
theorem w_syntagmaref03_Tag {s1 : (List UInt8)} {r_1 : Bool} (hm : m_syntagmaref03_Tag s1 = some r_1) : Fn0 Try.prog 111 [.str s1] (.bool r_1) := by
  unfold m_syntagmaref03_Tag at hm
  refine fn_intro Try.func111 rfl Try.ntmps111 rfl fun H0 fr w0 => ?_
  refine g_seq ?_
  refine g_region ?_
  refine go_p rfl rfl rfl (o_assign rfl) ?_
  refine go_nil ?_
  refine g_seq ?_
  refine g_region ?_
  refine go_p rfl rfl rfl (o_move rfl) ?_
  refine go_p rfl rfl rfl (o_len_str Try.runUnderlying9 rfl) ?_
  refine go_p rfl rfl rfl (o_cmp rfl rfl rfl) ?_
  refine go_p rfl rfl rfl (o_move rfl) ?_
  apply go_and [(0, _)] 4 10 (t := 6) ⟨rfl, trivial⟩ rfl
  · intro hg_1 hk1
    refine go_wantp rfl rfl rfl hg_1 rfl rfl (o_move rfl) ?_
    refine go_wantp rfl rfl rfl hg_1 rfl rfl (o_len_str Try.runUnderlying9 rfl) ?_
    refine go_wantp rfl rfl rfl hg_1 rfl rfl (o_cmp rfl rfl rfl) ?_
    refine go_p rfl rfl rfl (o_pickT rfl hg_1 rfl) ?_
    exact go_meet hk1 (rfl) ⟨rfl, trivial⟩
  · intro hg_1 hk1
    refine go_skip rfl rfl rfl hg_1 rfl rfl ?_
    refine go_skip rfl rfl rfl hg_1 rfl rfl ?_
    refine go_skip rfl rfl rfl hg_1 rfl rfl ?_
    refine go_p rfl rfl rfl (o_pickF rfl hg_1 rfl) ?_
    exact go_meet hk1 (rfl) ⟨rfl, trivial⟩
  refine go_p rfl rfl rfl (o_move rfl) ?_
  obtain ⟨p1, hp_2, hm⟩ := bind_some hm
  refine go_two [(0, _)] 6 17 p1 (t := 11) ⟨rfl, trivial⟩ rfl (fun hg_2 hk2 => ?_) (fun hg_2 hk2 => ?_) ?_
  · replace hp_2 := cond_t hg_2 hp_2
    refine go_wantp rfl rfl rfl hg_2 rfl rfl (o_move rfl) ?_
    obtain ⟨x1, hx1, hp_2⟩ := bind_some hp_2
    refine go_wantp rfl rfl rfl hg_2 rfl rfl (o_call0 Try.call139 rfl (w_syntagmaref03_Word hx1)) ?_
    refine go_wantp rfl rfl rfl hg_2 rfl rfl (o_move rfl) ?_
    refine go_wantp rfl rfl rfl hg_2 rfl rfl (o_len_str Try.runUnderlying9 rfl) ?_
    refine go_wantp rfl rfl rfl hg_2 rfl rfl (o_cmp rfl rfl rfl) ?_
    refine go_p rfl rfl rfl (o_pickT rfl hg_2 rfl) ?_
    exact go_meet hk2 (congrArg (fun b => some (D.bool b)) (some_eq hp_2)) ⟨rfl, trivial⟩
  · replace hp_2 := cond_f hg_2 hp_2
    refine go_skip rfl rfl rfl hg_2 rfl rfl ?_
    refine go_skip rfl rfl rfl hg_2 rfl rfl ?_
    refine go_skip rfl rfl rfl hg_2 rfl rfl ?_
    refine go_skip rfl rfl rfl hg_2 rfl rfl ?_
    refine go_skip rfl rfl rfl hg_2 rfl rfl ?_
    refine go_p rfl rfl rfl (o_pickF rfl hg_2 rfl) ?_
    exact go_meet hk2 (congrArg (fun b => some (D.bool b)) (some_eq hp_2)) ⟨rfl, trivial⟩
  refine go_p rfl rfl rfl (o_move rfl) ?_
  obtain ⟨p2, hp_3, hm⟩ := bind_some hm
  refine go_two [] 4 22 p2 (t := 18) trivial rfl (fun hg_3 hk3 => ?_) (fun hg_3 hk3 => ?_) ?_
  · replace hp_3 := cond_t hg_3 hp_3
    refine go_wantp rfl rfl rfl hg_3 rfl rfl (o_move rfl) ?_
    obtain ⟨c1, hx2, hp_3⟩ := bind_some hp_3
    refine go_wantp rfl rfl rfl hg_3 rfl rfl (o_index_m Try.runUnderlying9 rfl rfl hx2) ?_
    obtain ⟨x2, hx3, hp_3⟩ := bind_some hp_3
    refine go_wantp rfl rfl rfl hg_3 rfl rfl (o_call0 Try.call142 rfl (w_syntagmaref03_great hx3)) ?_
    refine go_p rfl rfl rfl (o_pickT rfl hg_3 rfl) ?_
    exact go_meet hk3 (congrArg (fun b => some (D.bool b)) (some_eq hp_3)) trivial
  · replace hp_3 := cond_f hg_3 hp_3
    refine go_skip rfl rfl rfl hg_3 rfl rfl ?_
    refine go_skip rfl rfl rfl hg_3 rfl rfl ?_
    refine go_skip rfl rfl rfl hg_3 rfl rfl ?_
    refine go_p rfl rfl rfl (o_pickF rfl hg_3 rfl) ?_
    exact go_meet hk3 (congrArg (fun b => some (D.bool b)) (some_eq hp_3)) trivial
  refine go_p rfl rfl rfl (o_assign rfl) ?_
  refine go_nil ?_
  refine g_ret ?_
  exact retK (ret_one' rfl (ret_tmp rfl) (perm_drop _)) (congrArg (fun (p : Bool) => (.bool p : D)) (some_eq hm))
def m_syntagmaref24_edges_l1 (l1 : (List AutoEdge)) (tags1 : Bool) : Nat → Int → Option (Out Bool Unit)
  | 0, _ => none
  | n + 1, i1 =>
    bif (decide (i1 < (l1.length : Int))) then
      (idx l1 i1).bind fun x1 =>
      (bif (!tags1) then ((m_syntagmaref03_Name x1.name).bind fun x2 =>
      some (!x2)) else (some false)).bind fun p1 =>
      (bif p1 then (some true) else ((bif tags1 then ((m_syntagmaref03_Tag x1.name).bind fun x3 =>
      some (!x3)) else (some false)).bind fun p3 =>
      some p3)).bind fun p2 =>
      (bif p2 then (some true) else ((bif (decide (0 < i1)) then (grd (InR (i1 - 1)) <|
      (idx l1 (i1 - 1)).bind fun x4 =>
      some (!Op.bytesLess x4.name x1.name)) else (some false)).bind fun p5 =>
      some p5)).bind fun p4 =>
      bif p4 then
        some (Out.ret false)
      else
        grd (InR (i1 + 1)) <|
        m_syntagmaref24_edges_l1 l1 tags1 n (i1 + 1)
    else
      some (Out.go (()))
def m_syntagmaref24_edges (l1 : (List AutoEdge)) (tags1 : Bool) : Option Bool :=
  ((m_syntagmaref24_edges_l1 l1 tags1 FU 0 : Option (Out Bool Unit))).bind (fun oo => oo.on (fun r1 => some r1) (fun _ =>
  some (decide ((l1.length : Int) ≤ 30))))
theorem w_syntagmaref24_edges {l1 : (List AutoEdge)} {tags1 : Bool} {r_1 : Bool} (hm : m_syntagmaref24_edges l1 tags1 = some r_1) : Fn0 Try.prog 129 [.list 2 AutoEdge.d l1, .bool tags1] (.bool r_1) := by
  unfold m_syntagmaref24_edges at hm
  refine fn_intro Try.func129 rfl Try.ntmps129 rfl fun H0 fr w0 => ?_
  refine g_seq ?_
  refine g_region ?_
  refine go_p rfl rfl rfl (o_assign rfl) ?_
  refine go_nil ?_
  refine g_seq ?_
  refine g_seq ?_
  refine g_region ?_
  refine go_p rfl rfl rfl (o_assign rfl) ?_
  refine go_nil ?_
  obtain ⟨o_1, hj1, hm1⟩ := bind_some hm
  refine g_cut_m [(0, _)] [] (fun (st : Unit) (hid : Unit) => match st, hid with | _, _ => []) (fun F (st : Unit) (hid : Unit) => match st, hid with | _, _ => []) (fun st => Out.go (st) = o_1) ⟨rfl, trivial⟩ trivial ?_ ?_
  · skip
    refine g_block ?_
    refine g_loop_m [(0, _), (1, _)] [] (fun (st : Int) (hid : Unit) => match st, hid with | i1, _ => [(5, .i64 i1)]) (fun F (st : Int) (hid : Unit) => match st, hid with | i1, _ => []) () hj1 (fun _ => rfl) ⟨rfl, rfl, trivial⟩ trivial ⟨rfl, trivial⟩ rfl ?_
    rintro n i1 _ hj1
    rw [m_syntagmaref24_edges_l1] at hj1
    refine g_norm (L' := [(5, .i64 i1), (0, _), (1, _)]) (ms' := []) rfl rfl ?_
    refine g_seq ?_
    refine g_seq ?_
    refine g_region ?_
    refine go_p rfl rfl rfl (o_move rfl) ?_
    refine go_p rfl rfl rfl (o_move rfl) ?_
    refine go_p rfl rfl rfl (o_len Try.runUnderlying130 rfl) ?_
    refine go_p rfl rfl rfl (o_cmp rfl rfl rfl) ?_
    refine go_nil ?_
    refine g_cond rfl (fun hc1 => ?_) (fun hc1 => ?_)
    · replace hj1 := cond_t hc1 hj1
      refine g_skip ?_
      refine g_seq ?_
      refine g_block ?_
      refine g_seq ?_
      refine g_region ?_
      refine go_p rfl rfl rfl (o_move rfl) ?_
      refine go_p rfl rfl rfl (o_move rfl) ?_
      obtain ⟨x1, hx1, hj1⟩ := bind_some hj1
      refine go_p rfl rfl rfl (o_indexAddr_m Try.runUnderlying130 Try.sizeOf137 rfl rfl hx1) ?_
      refine go_p rfl rfl rfl (o_fieldAddr fi_137_0 rfl rfl rfl) ?_
      refine go_p rfl rfl rfl (o_load Try.isAgg9 rfl rfl) ?_
      refine go_p rfl rfl rfl (o_assign rfl) ?_
      refine go_nil ?_
      refine g_seq ?_
      refine g_region ?_
      refine go_p rfl rfl rfl (o_move rfl) ?_
      refine go_p rfl rfl rfl (o_not rfl) ?_
      refine go_p rfl rfl rfl (o_move rfl) ?_
      obtain ⟨p1, hp_1, hj1⟩ := bind_some hj1
      refine go_two [(0, _), (1, _), (5, _), (6, _)] 4 24 p1 (t := 20) ⟨rfl, rfl, rfl, rfl, trivial⟩ rfl (fun hg_1 hk1 => ?_) (fun hg_1 hk1 => ?_) ?_
      · replace hp_1 := cond_t hg_1 hp_1
        refine go_wantp rfl rfl rfl hg_1 rfl rfl (o_move rfl) ?_
        obtain ⟨x2, hx2, hp_1⟩ := bind_some hp_1
        refine go_wantp rfl rfl rfl hg_1 rfl rfl (o_call0 Try.call110 rfl (w_syntagmaref03_Name hx2)) ?_
        refine go_wantp rfl rfl rfl hg_1 rfl rfl (o_not rfl) ?_
        refine go_p rfl rfl rfl (o_pickT rfl hg_1 rfl) ?_
        exact go_meet hk1 (congrArg (fun b => some (D.bool b)) (some_eq hp_1)) ⟨rfl, rfl, rfl, rfl, trivial⟩
      · replace hp_1 := cond_f hg_1 hp_1
        refine go_skip rfl rfl rfl hg_1 rfl rfl ?_
        refine go_skip rfl rfl rfl hg_1 rfl rfl ?_
        refine go_skip rfl rfl rfl hg_1 rfl rfl ?_
        refine go_p rfl rfl rfl (o_pickF rfl hg_1 rfl) ?_
        exact go_meet hk1 (congrArg (fun b => some (D.bool b)) (some_eq hp_1)) ⟨rfl, rfl, rfl, rfl, trivial⟩
      refine go_p rfl rfl rfl (o_move rfl) ?_
      obtain ⟨p2, hp_2, hj1⟩ := bind_some hj1
      refine go_two [(0, _), (1, _), (5, _), (6, _)] 7 32 p2 (t := 25) ⟨rfl, rfl, rfl, rfl, trivial⟩ rfl (fun hg_2 hk2 => ?_) (fun hg_2 hk2 => ?_) ?_
      · replace hp_2 := cond_t hg_2 hp_2
        refine go_skip rfl rfl rfl hg_2 rfl rfl ?_
        refine go_skip rfl rfl rfl hg_2 rfl rfl ?_
        refine go_skipu rfl rfl rfl rfl rfl ?_
        refine go_skipu rfl rfl rfl rfl rfl ?_
        refine go_skipu rfl rfl rfl rfl rfl ?_
        refine go_skip rfl rfl rfl hg_2 rfl rfl ?_
        refine go_p rfl rfl rfl (o_pickT rfl hg_2 rfl) ?_
        exact go_meet hk2 (congrArg (fun b => some (D.bool b)) (some_eq hp_2)) ⟨rfl, rfl, rfl, rfl, trivial⟩
      · replace hp_2 := cond_f hg_2 hp_2
        refine go_wantp rfl rfl rfl hg_2 rfl rfl (o_move rfl) ?_
        refine go_wantp rfl rfl rfl hg_2 rfl rfl (o_move rfl) ?_
        obtain ⟨p3, hp_3, hp_2⟩ := bind_some hp_2
        refine go_two [(0, _), (1, _), (5, _), (6, _), (25, _)] 4 31 p3 (t := 27) ⟨rfl, rfl, rfl, rfl, rfl, trivial⟩ rfl (fun hg_3 hk3 => ?_) (fun hg_3 hk3 => ?_) ?_
        · replace hp_3 := cond_t hg_3 hp_3
          refine go_wantp rfl rfl rfl hg_3 rfl rfl (o_move rfl) ?_
          obtain ⟨x3, hx3, hp_3⟩ := bind_some hp_3
          refine go_wantp rfl rfl rfl hg_3 rfl rfl (o_call0 Try.call111 rfl (w_syntagmaref03_Tag hx3)) ?_
          refine go_wantp rfl rfl rfl hg_3 rfl rfl (o_not rfl) ?_
          refine go_wantp rfl rfl rfl hg_2 rfl rfl (o_pickT rfl hg_3 rfl) ?_
          exact go_meet hk3 (congrArg (fun b => some (D.bool b)) (some_eq hp_3)) ⟨rfl, rfl, rfl, rfl, rfl, trivial⟩
        · replace hp_3 := cond_f hg_3 hp_3
          refine go_skip rfl rfl rfl hg_3 rfl rfl ?_
          refine go_skip rfl rfl rfl hg_3 rfl rfl ?_
          refine go_skip rfl rfl rfl hg_3 rfl rfl ?_
          refine go_wantp rfl rfl rfl hg_2 rfl rfl (o_pickF rfl hg_3 rfl) ?_
          exact go_meet hk3 (congrArg (fun b => some (D.bool b)) (some_eq hp_3)) ⟨rfl, rfl, rfl, rfl, rfl, trivial⟩
        refine go_p rfl rfl rfl (o_pickF rfl hg_2 rfl) ?_
        exact go_meet hk2 (congrArg (fun b => some (D.bool b)) (some_eq hp_2)) ⟨rfl, rfl, rfl, rfl, trivial⟩
      refine go_p rfl rfl rfl (o_move rfl) ?_
      obtain ⟨p4, hp_4, hj1⟩ := bind_some hj1
      refine go_two [(0, _), (1, _), (5, _)] 13 46 p4 (t := 33) ⟨rfl, rfl, rfl, trivial⟩ rfl (fun hg_4 hk4 => ?_) (fun hg_4 hk4 => ?_) ?_
      · replace hp_4 := cond_t hg_4 hp_4
        refine go_skip rfl rfl rfl hg_4 rfl rfl ?_
        refine go_skip rfl rfl rfl hg_4 rfl rfl ?_
        refine go_skip rfl rfl rfl hg_4 rfl rfl ?_
        refine go_skipu rfl rfl rfl rfl rfl ?_
        refine go_skipu rfl rfl rfl rfl rfl ?_
        refine go_skipu rfl rfl rfl rfl rfl ?_
        refine go_skipu rfl rfl rfl rfl rfl ?_
        refine go_skipu rfl rfl rfl rfl rfl ?_
        refine go_skipu rfl rfl rfl rfl rfl ?_
        refine go_skipu rfl rfl rfl rfl rfl ?_
        refine go_skipu rfl rfl rfl rfl rfl ?_
        refine go_skip rfl rfl rfl hg_4 rfl rfl ?_
        refine go_p rfl rfl rfl (o_pickT rfl hg_4 rfl) ?_
        exact go_meet hk4 (congrArg (fun b => some (D.bool b)) (some_eq hp_4)) ⟨rfl, rfl, rfl, trivial⟩
      · replace hp_4 := cond_f hg_4 hp_4
        refine go_wantp rfl rfl rfl hg_4 rfl rfl (o_move rfl) ?_
        refine go_wantp rfl rfl rfl hg_4 rfl rfl (o_cmp rfl rfl rfl) ?_
        refine go_wantp rfl rfl rfl hg_4 rfl rfl (o_move rfl) ?_
        obtain ⟨p5, hp_5, hp_4⟩ := bind_some hp_4
        refine go_two [(0, _), (1, _), (5, _), (33, _)] 9 45 p5 (t := 36) ⟨rfl, rfl, rfl, rfl, trivial⟩ rfl (fun hg_5 hk5 => ?_) (fun hg_5 hk5 => ?_) ?_
        · replace hp_5 := cond_t hg_5 hp_5
          refine go_wantp rfl rfl rfl hg_5 rfl rfl (o_move rfl) ?_
          refine go_wantp rfl rfl rfl hg_5 rfl rfl (o_move rfl) ?_
          obtain ⟨hg4, hp_5⟩ := grd_some hp_5
          refine go_wantp rfl rfl rfl hg_5 rfl rfl (o_sub rfl rfl (i64_id hg4)) ?_
          obtain ⟨x4, hx5, hp_5⟩ := bind_some hp_5
          refine go_wantp rfl rfl rfl hg_5 rfl rfl (o_indexAddr_m Try.runUnderlying130 Try.sizeOf137 rfl rfl hx5) ?_
          refine go_wantp rfl rfl rfl hg_5 rfl rfl (o_fieldAddr fi_137_0 rfl rfl rfl) ?_
          refine go_wantp rfl rfl rfl hg_5 rfl rfl (o_load Try.isAgg9 rfl rfl) ?_
          refine go_wantp rfl rfl rfl hg_5 rfl rfl (o_move rfl) ?_
          refine go_wantp rfl rfl rfl hg_5 rfl rfl (o_cmps rfl rfl rfl) ?_
          refine go_wantp rfl rfl rfl hg_4 rfl rfl (o_pickT rfl hg_5 rfl) ?_
          exact go_meet hk5 (congrArg (fun b => some (D.bool b)) (some_eq hp_5)) ⟨rfl, rfl, rfl, rfl, trivial⟩
        · replace hp_5 := cond_f hg_5 hp_5
          refine go_skip rfl rfl rfl hg_5 rfl rfl ?_
          refine go_skip rfl rfl rfl hg_5 rfl rfl ?_
          refine go_skip rfl rfl rfl hg_5 rfl rfl ?_
          refine go_skip rfl rfl rfl hg_5 rfl rfl ?_
          refine go_skip rfl rfl rfl hg_5 rfl rfl ?_
          refine go_skip rfl rfl rfl hg_5 rfl rfl ?_
          refine go_skip rfl rfl rfl hg_5 rfl rfl ?_
          refine go_skip rfl rfl rfl hg_5 rfl rfl ?_
          refine go_wantp rfl rfl rfl hg_4 rfl rfl (o_pickF rfl hg_5 rfl) ?_
          exact go_meet hk5 (congrArg (fun b => some (D.bool b)) (some_eq hp_5)) ⟨rfl, rfl, rfl, rfl, trivial⟩
        refine go_p rfl rfl rfl (o_pickF rfl hg_4 rfl) ?_
        exact go_meet hk4 (congrArg (fun b => some (D.bool b)) (some_eq hp_4)) ⟨rfl, rfl, rfl, trivial⟩
      refine go_nil ?_
      refine g_cond rfl (fun hc2 => ?_) (fun hc2 => ?_)
      · replace hj1 := cond_t hc2 hj1
        refine g_seq ?_
        refine g_region ?_
        refine go_p rfl rfl rfl (o_assign rfl) ?_
        refine go_nil ?_
        refine g_ret ?_
        obtain rfl := some_eq hj1
        replace hm1 := on_ret hm1
        exact retK (ret_one' rfl (ret_tmp rfl) (perm_drop _)) (congrArg (fun (p : Bool) => (.bool p : D)) (some_eq hm1))
      · replace hj1 := cond_f hc2 hj1
        refine g_skip ?_
        refine g_region ?_
        refine go_p rfl rfl rfl (o_move rfl) ?_
        obtain ⟨hg6, hj1⟩ := grd_some hj1
        refine go_p rfl rfl rfl (o_add rfl rfl (i64_id hg6)) ?_
        refine go_p rfl rfl rfl (o_assign rfl) ?_
        refine go_nil ?_
        exact ⟨_, (), hj1, ⟨rfl, trivial⟩, ⟨rfl, rfl, trivial⟩, [], rfl⟩
    · replace hj1 := cond_f hc1 hj1
      refine g_exit ?_
      exact ⟨_, (), some_eq hj1, trivial, ⟨rfl, trivial⟩, [], rfl⟩
  · rintro _ _ hst
    subst hst
    replace hm1 := on_go hm1
    refine k_norm (L' := [(0, _)]) (ms' := []) rfl rfl ?_
    refine g_seq ?_
    refine g_region ?_
    refine go_p rfl rfl rfl (o_move rfl) ?_
    refine go_p rfl rfl rfl (o_len Try.runUnderlying130 rfl) ?_
    refine go_p rfl rfl rfl (o_cmp rfl rfl rfl) ?_
    refine go_p rfl rfl rfl (o_assign rfl) ?_
    refine go_nil ?_
    refine g_ret ?_
    exact retK (ret_one' rfl (ret_tmp rfl) (perm_drop _)) (congrArg (fun (p : Bool) => (.bool p : D)) (some_eq hm1))
def m_syntagmaref24_right_l1 (s1 : AutoState) : Nat → Int → Option (Out Bool Unit)
  | 0, _ => none
  | n + 1, i1 =>
    bif (decide (i1 < (s1.vars.length : Int))) then
      (idx s1.vars i1).bind fun x1 =>
      bif (decide (x1 < 0)) then (some (Out.ret false)) else ((idx s1.vars i1).bind fun x2 =>
      bif (decide (999 < x2)) then (some (Out.ret false)) else (bif (decide (0 < i1)) then (grd (InR (i1 - 1)) <|
      (idx s1.vars (i1 - 1)).bind fun x3 =>
      (idx s1.vars i1).bind fun x4 =>
      bif (decide (x4 ≤ x3)) then
        some (Out.ret false)
      else
        grd (InR (i1 + 1)) <|
        m_syntagmaref24_right_l1 s1 n (i1 + 1)) else (grd (InR (i1 + 1)) <|
      m_syntagmaref24_right_l1 s1 n (i1 + 1))))
    else
      some (Out.go (()))
def m_syntagmaref24_right_l2 (a1 : AutoAuto) (s1 : AutoState) (x5 : (List Int)) : Nat → Int → Option (Out Bool Unit)
  | 0, _ => none
  | n + 1, i2 =>
    bif (decide (i2 < (x5.length : Int))) then
      (idx x5 i2).bind fun x6 =>
      bif (decide (x6 < 0)) then (some (Out.ret false)) else ((idx x5 i2).bind fun x7 =>
      bif (decide ((a1.l.length : Int) ≤ x7)) then
        some (Out.ret false)
      else
        (idx x5 i2).bind fun x8 =>
        (idx a1.l x8).bind fun x9 =>
        bif ((x9.plus == s1.plus) == (s1.arrow && (decide (i2 = 0)))) then
          some (Out.ret false)
        else
          grd (InR (i2 + 1)) <|
          m_syntagmaref24_right_l2 a1 s1 x5 n (i2 + 1))
    else
      some (Out.go (()))
def m_syntagmaref24_right (a1 : AutoAuto) (s1 : AutoState) : Option Bool :=
  bif ((((s1.all && ((((((s1.int || s1.bool) || s1.str) || s1.arrow) || s1.rec_) || s1.tag) || (decide (0 < (s1.vars.length : Int))))) || ((!s1.arrow) && ((!decide (s1.dom = 0)) || (!decide (s1.cod = 0))))) || ((!s1.rec_) && (decide (0 < (s1.fields.length : Int))))) || ((!s1.tag) && (decide (0 < (s1.tags.length : Int))))) then
    some false
  else
    ((m_syntagmaref24_right_l1 s1 FU 0 : Option (Out Bool Unit))).bind (fun oo => oo.on (fun r2 => some r2) (fun _ =>
    (m_syntagmaref24_Next s1).bind fun x5 =>
    ((m_syntagmaref24_right_l2 a1 s1 x5 FU 0 : Option (Out Bool Unit))).bind (fun oo => oo.on (fun r1 => some r1) (fun _ =>
    (m_syntagmaref24_edges s1.fields false).bind fun x10 =>
    (bif x10 then ((m_syntagmaref24_edges s1.tags true).bind fun x11 =>
    some x11) else (some false)).bind fun p1 =>
    some p1))))
theorem w_syntagmaref24_right {a1 : AutoAuto} {s1 : AutoState} {r_1 : Bool} (hm : m_syntagmaref24_right a1 s1 = some r_1) : Fn0 Try.prog 95 [AutoAuto.d a1, AutoState.d s1] (.bool r_1) := by
  unfold m_syntagmaref24_right at hm
  refine fn_intro Try.func95 rfl Try.ntmps95 rfl fun H0 fr w0 => ?_
  refine g_seq ?_
  refine g_region ?_
  refine go_p rfl rfl rfl (o_box rfl rfl) ?_
  refine go_p rfl rfl rfl (o_box rfl rfl) ?_
  refine go_p rfl rfl rfl (o_assign rfl) ?_
  refine go_nil ?_
  refine g_seq ?_
  refine g_seq ?_
  refine g_region ?_
  refine go_p rfl rfl rfl (o_fieldAddr fi_132_1 rfl rfl rfl) ?_
  refine go_p rfl rfl rfl (o_load Try.isAgg4 rfl rfl) ?_
  refine go_p rfl rfl rfl (o_move rfl) ?_
  apply go_and [(2, _), (3, _)] 29 40 (t := 11) ⟨rfl, rfl, trivial⟩ rfl
  · intro hg_1 hk1
    refine go_wantp rfl rfl rfl hg_1 rfl rfl (o_fieldAddr fi_132_2 rfl rfl rfl) ?_
    refine go_wantp rfl rfl rfl hg_1 rfl rfl (o_load Try.isAgg4 rfl rfl) ?_
    refine go_wantp rfl rfl rfl hg_1 rfl rfl (o_move rfl) ?_
    apply go_or [(2, _), (3, _), (11, _)] 3 17 (t := 14) ⟨rfl, rfl, rfl, trivial⟩ rfl
    · intro hg_2 hk2
      refine go_wantp rfl rfl rfl hg_2 rfl rfl (o_fieldAddr fi_132_3 rfl rfl rfl) ?_
      refine go_wantp rfl rfl rfl hg_2 rfl rfl (o_load Try.isAgg4 rfl rfl) ?_
      refine go_wantp rfl rfl rfl hg_1 rfl rfl (o_pickF rfl hg_2 rfl) ?_
      exact go_meet hk2 (rfl) ⟨rfl, rfl, rfl, trivial⟩
    · intro hg_2 hk2
      refine go_skip rfl rfl rfl hg_2 rfl rfl ?_
      refine go_skip rfl rfl rfl hg_2 rfl rfl ?_
      refine go_wantp rfl rfl rfl hg_1 rfl rfl (o_pickT rfl hg_2 rfl) ?_
      exact go_meet hk2 (rfl) ⟨rfl, rfl, rfl, trivial⟩
    refine go_wantp rfl rfl rfl hg_1 rfl rfl (o_move rfl) ?_
    apply go_or [(2, _), (3, _), (11, _)] 3 21 (t := 18) ⟨rfl, rfl, rfl, trivial⟩ rfl
    · intro hg_3 hk3
      refine go_wantp rfl rfl rfl hg_3 rfl rfl (o_fieldAddr fi_132_4 rfl rfl rfl) ?_
      refine go_wantp rfl rfl rfl hg_3 rfl rfl (o_load Try.isAgg4 rfl rfl) ?_
      refine go_wantp rfl rfl rfl hg_1 rfl rfl (o_pickF rfl hg_3 rfl) ?_
      exact go_meet hk3 (rfl) ⟨rfl, rfl, rfl, trivial⟩
    · intro hg_3 hk3
      refine go_skip rfl rfl rfl hg_3 rfl rfl ?_
      refine go_skip rfl rfl rfl hg_3 rfl rfl ?_
      refine go_wantp rfl rfl rfl hg_1 rfl rfl (o_pickT rfl hg_3 rfl) ?_
      exact go_meet hk3 (rfl) ⟨rfl, rfl, rfl, trivial⟩
    refine go_wantp rfl rfl rfl hg_1 rfl rfl (o_move rfl) ?_
    apply go_or [(2, _), (3, _), (11, _)] 3 25 (t := 22) ⟨rfl, rfl, rfl, trivial⟩ rfl
    · intro hg_4 hk4
      refine go_wantp rfl rfl rfl hg_4 rfl rfl (o_fieldAddr fi_132_5 rfl rfl rfl) ?_
      refine go_wantp rfl rfl rfl hg_4 rfl rfl (o_load Try.isAgg4 rfl rfl) ?_
      refine go_wantp rfl rfl rfl hg_1 rfl rfl (o_pickF rfl hg_4 rfl) ?_
      exact go_meet hk4 (rfl) ⟨rfl, rfl, rfl, trivial⟩
    · intro hg_4 hk4
      refine go_skip rfl rfl rfl hg_4 rfl rfl ?_
      refine go_skip rfl rfl rfl hg_4 rfl rfl ?_
      refine go_wantp rfl rfl rfl hg_1 rfl rfl (o_pickT rfl hg_4 rfl) ?_
      exact go_meet hk4 (rfl) ⟨rfl, rfl, rfl, trivial⟩
    refine go_wantp rfl rfl rfl hg_1 rfl rfl (o_move rfl) ?_
    apply go_or [(2, _), (3, _), (11, _)] 3 29 (t := 26) ⟨rfl, rfl, rfl, trivial⟩ rfl
    · intro hg_5 hk5
      refine go_wantp rfl rfl rfl hg_5 rfl rfl (o_fieldAddr fi_132_6 rfl rfl rfl) ?_
      refine go_wantp rfl rfl rfl hg_5 rfl rfl (o_load Try.isAgg4 rfl rfl) ?_
      refine go_wantp rfl rfl rfl hg_1 rfl rfl (o_pickF rfl hg_5 rfl) ?_
      exact go_meet hk5 (rfl) ⟨rfl, rfl, rfl, trivial⟩
    · intro hg_5 hk5
      refine go_skip rfl rfl rfl hg_5 rfl rfl ?_
      refine go_skip rfl rfl rfl hg_5 rfl rfl ?_
      refine go_wantp rfl rfl rfl hg_1 rfl rfl (o_pickT rfl hg_5 rfl) ?_
      exact go_meet hk5 (rfl) ⟨rfl, rfl, rfl, trivial⟩
    refine go_wantp rfl rfl rfl hg_1 rfl rfl (o_move rfl) ?_
    apply go_or [(2, _), (3, _), (11, _)] 3 33 (t := 30) ⟨rfl, rfl, rfl, trivial⟩ rfl
    · intro hg_6 hk6
      refine go_wantp rfl rfl rfl hg_6 rfl rfl (o_fieldAddr fi_132_7 rfl rfl rfl) ?_
      refine go_wantp rfl rfl rfl hg_6 rfl rfl (o_load Try.isAgg4 rfl rfl) ?_
      refine go_wantp rfl rfl rfl hg_1 rfl rfl (o_pickF rfl hg_6 rfl) ?_
      exact go_meet hk6 (rfl) ⟨rfl, rfl, rfl, trivial⟩
    · intro hg_6 hk6
      refine go_skip rfl rfl rfl hg_6 rfl rfl ?_
      refine go_skip rfl rfl rfl hg_6 rfl rfl ?_
      refine go_wantp rfl rfl rfl hg_1 rfl rfl (o_pickT rfl hg_6 rfl) ?_
      exact go_meet hk6 (rfl) ⟨rfl, rfl, rfl, trivial⟩
    refine go_wantp rfl rfl rfl hg_1 rfl rfl (o_move rfl) ?_
    apply go_or [(2, _), (3, _), (11, _)] 5 39 (t := 34) ⟨rfl, rfl, rfl, trivial⟩ rfl
    · intro hg_7 hk7
      refine go_wantp rfl rfl rfl hg_7 rfl rfl (o_fieldAddr fi_132_8 rfl rfl rfl) ?_
      refine go_wantp rfl rfl rfl hg_7 rfl rfl (o_load Try.isAgg28 rfl rfl) ?_
      refine go_wantp rfl rfl rfl hg_7 rfl rfl (o_len Try.runUnderlying28 rfl) ?_
      refine go_wantp rfl rfl rfl hg_7 rfl rfl (o_cmp rfl rfl rfl) ?_
      refine go_wantp rfl rfl rfl hg_1 rfl rfl (o_pickF rfl hg_7 rfl) ?_
      exact go_meet hk7 (rfl) ⟨rfl, rfl, rfl, trivial⟩
    · intro hg_7 hk7
      refine go_skip rfl rfl rfl hg_7 rfl rfl ?_
      refine go_skip rfl rfl rfl hg_7 rfl rfl ?_
      refine go_skip rfl rfl rfl hg_7 rfl rfl ?_
      refine go_skip rfl rfl rfl hg_7 rfl rfl ?_
      refine go_wantp rfl rfl rfl hg_1 rfl rfl (o_pickT rfl hg_7 rfl) ?_
      exact go_meet hk7 (rfl) ⟨rfl, rfl, rfl, trivial⟩
    refine go_p rfl rfl rfl (o_pickT rfl hg_1 rfl) ?_
    exact go_meet hk1 (rfl) ⟨rfl, rfl, trivial⟩
  · intro hg_1 hk1
    refine go_skip rfl rfl rfl hg_1 rfl rfl ?_
    refine go_skip rfl rfl rfl hg_1 rfl rfl ?_
    refine go_skip rfl rfl rfl hg_1 rfl rfl ?_
    refine go_skipu rfl rfl rfl rfl rfl ?_
    refine go_skipu rfl rfl rfl rfl rfl ?_
    refine go_skip rfl rfl rfl hg_1 rfl rfl ?_
    refine go_skip rfl rfl rfl hg_1 rfl rfl ?_
    refine go_skipu rfl rfl rfl rfl rfl ?_
    refine go_skipu rfl rfl rfl rfl rfl ?_
    refine go_skip rfl rfl rfl hg_1 rfl rfl ?_
    refine go_skip rfl rfl rfl hg_1 rfl rfl ?_
    refine go_skipu rfl rfl rfl rfl rfl ?_
    refine go_skipu rfl rfl rfl rfl rfl ?_
    refine go_skip rfl rfl rfl hg_1 rfl rfl ?_
    refine go_skip rfl rfl rfl hg_1 rfl rfl ?_
    refine go_skipu rfl rfl rfl rfl rfl ?_
    refine go_skipu rfl rfl rfl rfl rfl ?_
    refine go_skip rfl rfl rfl hg_1 rfl rfl ?_
    refine go_skip rfl rfl rfl hg_1 rfl rfl ?_
    refine go_skipu rfl rfl rfl rfl rfl ?_
    refine go_skipu rfl rfl rfl rfl rfl ?_
    refine go_skip rfl rfl rfl hg_1 rfl rfl ?_
    refine go_skip rfl rfl rfl hg_1 rfl rfl ?_
    refine go_skipu rfl rfl rfl rfl rfl ?_
    refine go_skipu rfl rfl rfl rfl rfl ?_
    refine go_skipu rfl rfl rfl rfl rfl ?_
    refine go_skipu rfl rfl rfl rfl rfl ?_
    refine go_skip rfl rfl rfl hg_1 rfl rfl ?_
    refine go_p rfl rfl rfl (o_pickF rfl hg_1 rfl) ?_
    exact go_meet hk1 (rfl) ⟨rfl, rfl, trivial⟩
  refine go_p rfl rfl rfl (o_move rfl) ?_
  apply go_or [(2, _), (3, _)] 14 55 (t := 41) ⟨rfl, rfl, trivial⟩ rfl
  · intro hg_8 hk8
    refine go_wantp rfl rfl rfl hg_8 rfl rfl (o_fieldAddr fi_132_5 rfl rfl rfl) ?_
    refine go_wantp rfl rfl rfl hg_8 rfl rfl (o_load Try.isAgg4 rfl rfl) ?_
    refine go_wantp rfl rfl rfl hg_8 rfl rfl (o_not rfl) ?_
    refine go_wantp rfl rfl rfl hg_8 rfl rfl (o_move rfl) ?_
    apply go_and [(2, _), (3, _), (41, _)] 9 54 (t := 45) ⟨rfl, rfl, rfl, trivial⟩ rfl
    · intro hg_9 hk9
      refine go_wantp rfl rfl rfl hg_9 rfl rfl (o_fieldAddr fi_132_9 rfl rfl rfl) ?_
      refine go_wantp rfl rfl rfl hg_9 rfl rfl (o_load Try.isAgg3 rfl rfl) ?_
      refine go_wantp rfl rfl rfl hg_9 rfl rfl (o_cmp rfl rfl rfl) ?_
      refine go_wantp rfl rfl rfl hg_9 rfl rfl (o_move rfl) ?_
      apply go_or [(2, _), (3, _), (41, _), (45, _)] 4 53 (t := 49) ⟨rfl, rfl, rfl, rfl, trivial⟩ rfl
      · intro hg_10 hk10
        refine go_wantp rfl rfl rfl hg_10 rfl rfl (o_fieldAddr fi_132_10 rfl rfl rfl) ?_
        refine go_wantp rfl rfl rfl hg_10 rfl rfl (o_load Try.isAgg3 rfl rfl) ?_
        refine go_wantp rfl rfl rfl hg_10 rfl rfl (o_cmp rfl rfl rfl) ?_
        refine go_wantp rfl rfl rfl hg_9 rfl rfl (o_pickF rfl hg_10 rfl) ?_
        exact go_meet hk10 (rfl) ⟨rfl, rfl, rfl, rfl, trivial⟩
      · intro hg_10 hk10
        refine go_skip rfl rfl rfl hg_10 rfl rfl ?_
        refine go_skip rfl rfl rfl hg_10 rfl rfl ?_
        refine go_skip rfl rfl rfl hg_10 rfl rfl ?_
        refine go_wantp rfl rfl rfl hg_9 rfl rfl (o_pickT rfl hg_10 rfl) ?_
        exact go_meet hk10 (rfl) ⟨rfl, rfl, rfl, rfl, trivial⟩
      refine go_wantp rfl rfl rfl hg_8 rfl rfl (o_pickT rfl hg_9 rfl) ?_
      exact go_meet hk9 (rfl) ⟨rfl, rfl, rfl, trivial⟩
    · intro hg_9 hk9
      refine go_skip rfl rfl rfl hg_9 rfl rfl ?_
      refine go_skip rfl rfl rfl hg_9 rfl rfl ?_
      refine go_skip rfl rfl rfl hg_9 rfl rfl ?_
      refine go_skip rfl rfl rfl hg_9 rfl rfl ?_
      refine go_skipu rfl rfl rfl rfl rfl ?_
      refine go_skipu rfl rfl rfl rfl rfl ?_
      refine go_skipu rfl rfl rfl rfl rfl ?_
      refine go_skip rfl rfl rfl hg_9 rfl rfl ?_
      refine go_wantp rfl rfl rfl hg_8 rfl rfl (o_pickF rfl hg_9 rfl) ?_
      exact go_meet hk9 (rfl) ⟨rfl, rfl, rfl, trivial⟩
    refine go_p rfl rfl rfl (o_pickF rfl hg_8 rfl) ?_
    exact go_meet hk8 (rfl) ⟨rfl, rfl, trivial⟩
  · intro hg_8 hk8
    refine go_skip rfl rfl rfl hg_8 rfl rfl ?_
    refine go_skip rfl rfl rfl hg_8 rfl rfl ?_
    refine go_skip rfl rfl rfl hg_8 rfl rfl ?_
    refine go_skip rfl rfl rfl hg_8 rfl rfl ?_
    refine go_skipu rfl rfl rfl rfl rfl ?_
    refine go_skipu rfl rfl rfl rfl rfl ?_
    refine go_skipu rfl rfl rfl rfl rfl ?_
    refine go_skipu rfl rfl rfl rfl rfl ?_
    refine go_skipu rfl rfl rfl rfl rfl ?_
    refine go_skipu rfl rfl rfl rfl rfl ?_
    refine go_skipu rfl rfl rfl rfl rfl ?_
    refine go_skipu rfl rfl rfl rfl rfl ?_
    refine go_skip rfl rfl rfl hg_8 rfl rfl ?_
    refine go_p rfl rfl rfl (o_pickT rfl hg_8 rfl) ?_
    exact go_meet hk8 (rfl) ⟨rfl, rfl, trivial⟩
  refine go_p rfl rfl rfl (o_move rfl) ?_
  apply go_or [(2, _), (3, _)] 10 66 (t := 56) ⟨rfl, rfl, trivial⟩ rfl
  · intro hg_11 hk11
    refine go_wantp rfl rfl rfl hg_11 rfl rfl (o_fieldAddr fi_132_6 rfl rfl rfl) ?_
    refine go_wantp rfl rfl rfl hg_11 rfl rfl (o_load Try.isAgg4 rfl rfl) ?_
    refine go_wantp rfl rfl rfl hg_11 rfl rfl (o_not rfl) ?_
    refine go_wantp rfl rfl rfl hg_11 rfl rfl (o_move rfl) ?_
    apply go_and [(2, _), (3, _), (56, _)] 5 65 (t := 60) ⟨rfl, rfl, rfl, trivial⟩ rfl
    · intro hg_12 hk12
      refine go_wantp rfl rfl rfl hg_12 rfl rfl (o_fieldAddr fi_132_11 rfl rfl rfl) ?_
      refine go_wantp rfl rfl rfl hg_12 rfl rfl (o_load Try.isAgg130 rfl rfl) ?_
      refine go_wantp rfl rfl rfl hg_12 rfl rfl (o_len Try.runUnderlying130 rfl) ?_
      refine go_wantp rfl rfl rfl hg_12 rfl rfl (o_cmp rfl rfl rfl) ?_
      refine go_wantp rfl rfl rfl hg_11 rfl rfl (o_pickT rfl hg_12 rfl) ?_
      exact go_meet hk12 (rfl) ⟨rfl, rfl, rfl, trivial⟩
    · intro hg_12 hk12
      refine go_skip rfl rfl rfl hg_12 rfl rfl ?_
      refine go_skip rfl rfl rfl hg_12 rfl rfl ?_
      refine go_skip rfl rfl rfl hg_12 rfl rfl ?_
      refine go_skip rfl rfl rfl hg_12 rfl rfl ?_
      refine go_wantp rfl rfl rfl hg_11 rfl rfl (o_pickF rfl hg_12 rfl) ?_
      exact go_meet hk12 (rfl) ⟨rfl, rfl, rfl, trivial⟩
    refine go_p rfl rfl rfl (o_pickF rfl hg_11 rfl) ?_
    exact go_meet hk11 (rfl) ⟨rfl, rfl, trivial⟩
  · intro hg_11 hk11
    refine go_skip rfl rfl rfl hg_11 rfl rfl ?_
    refine go_skip rfl rfl rfl hg_11 rfl rfl ?_
    refine go_skip rfl rfl rfl hg_11 rfl rfl ?_
    refine go_skip rfl rfl rfl hg_11 rfl rfl ?_
    refine go_skipu rfl rfl rfl rfl rfl ?_
    refine go_skipu rfl rfl rfl rfl rfl ?_
    refine go_skipu rfl rfl rfl rfl rfl ?_
    refine go_skipu rfl rfl rfl rfl rfl ?_
    refine go_skip rfl rfl rfl hg_11 rfl rfl ?_
    refine go_p rfl rfl rfl (o_pickT rfl hg_11 rfl) ?_
    exact go_meet hk11 (rfl) ⟨rfl, rfl, trivial⟩
  refine go_p rfl rfl rfl (o_move rfl) ?_
  apply go_or [(2, _), (3, _)] 10 77 (t := 67) ⟨rfl, rfl, trivial⟩ rfl
  · intro hg_13 hk13
    refine go_wantp rfl rfl rfl hg_13 rfl rfl (o_fieldAddr fi_132_7 rfl rfl rfl) ?_
    refine go_wantp rfl rfl rfl hg_13 rfl rfl (o_load Try.isAgg4 rfl rfl) ?_
    refine go_wantp rfl rfl rfl hg_13 rfl rfl (o_not rfl) ?_
    refine go_wantp rfl rfl rfl hg_13 rfl rfl (o_move rfl) ?_
    apply go_and [(2, _), (3, _), (67, _)] 5 76 (t := 71) ⟨rfl, rfl, rfl, trivial⟩ rfl
    · intro hg_14 hk14
      refine go_wantp rfl rfl rfl hg_14 rfl rfl (o_fieldAddr fi_132_12 rfl rfl rfl) ?_
      refine go_wantp rfl rfl rfl hg_14 rfl rfl (o_load Try.isAgg130 rfl rfl) ?_
      refine go_wantp rfl rfl rfl hg_14 rfl rfl (o_len Try.runUnderlying130 rfl) ?_
      refine go_wantp rfl rfl rfl hg_14 rfl rfl (o_cmp rfl rfl rfl) ?_
      refine go_wantp rfl rfl rfl hg_13 rfl rfl (o_pickT rfl hg_14 rfl) ?_
      exact go_meet hk14 (rfl) ⟨rfl, rfl, rfl, trivial⟩
    · intro hg_14 hk14
      refine go_skip rfl rfl rfl hg_14 rfl rfl ?_
      refine go_skip rfl rfl rfl hg_14 rfl rfl ?_
      refine go_skip rfl rfl rfl hg_14 rfl rfl ?_
      refine go_skip rfl rfl rfl hg_14 rfl rfl ?_
      refine go_wantp rfl rfl rfl hg_13 rfl rfl (o_pickF rfl hg_14 rfl) ?_
      exact go_meet hk14 (rfl) ⟨rfl, rfl, rfl, trivial⟩
    refine go_p rfl rfl rfl (o_pickF rfl hg_13 rfl) ?_
    exact go_meet hk13 (rfl) ⟨rfl, rfl, trivial⟩
  · intro hg_13 hk13
    refine go_skip rfl rfl rfl hg_13 rfl rfl ?_
    refine go_skip rfl rfl rfl hg_13 rfl rfl ?_
    refine go_skip rfl rfl rfl hg_13 rfl rfl ?_
    refine go_skip rfl rfl rfl hg_13 rfl rfl ?_
    refine go_skipu rfl rfl rfl rfl rfl ?_
    refine go_skipu rfl rfl rfl rfl rfl ?_
    refine go_skipu rfl rfl rfl rfl rfl ?_
    refine go_skipu rfl rfl rfl rfl rfl ?_
    refine go_skip rfl rfl rfl hg_13 rfl rfl ?_
    refine go_p rfl rfl rfl (o_pickT rfl hg_13 rfl) ?_
    exact go_meet hk13 (rfl) ⟨rfl, rfl, trivial⟩
  refine go_nil ?_
  refine g_cond rfl (fun hc1 => ?_) (fun hc1 => ?_)
  · replace hm := cond_t hc1 hm
    refine g_seq ?_
    refine g_region ?_
    refine go_p rfl rfl rfl (o_assign rfl) ?_
    refine go_nil ?_
    refine g_ret ?_
    exact retK (ret_one' rfl (ret_tmp rfl) (perm_drop _)) (congrArg (fun (p : Bool) => (.bool p : D)) (some_eq hm))
  · replace hm := cond_f hc1 hm
    refine g_skip ?_
    refine g_seq ?_
    refine g_seq ?_
    refine g_region ?_
    refine go_p rfl rfl rfl (o_assign rfl) ?_
    refine go_nil ?_
    obtain ⟨o_1, hj1, hm1⟩ := bind_some hm
    refine g_cut_m [(2, _), (3, _)] [] (fun (st : Unit) (hid : Unit) => match st, hid with | _, _ => []) (fun F (st : Unit) (hid : Unit) => match st, hid with | _, _ => []) (fun st => Out.go (st) = o_1) ⟨rfl, rfl, trivial⟩ trivial ?_ ?_
    · skip
      refine g_block ?_
      refine g_loop_m [(2, _), (3, _)] [] (fun (st : Int) (hid : Unit) => match st, hid with | i1, _ => [(5, .i64 i1)]) (fun F (st : Int) (hid : Unit) => match st, hid with | i1, _ => []) () hj1 (fun _ => rfl) ⟨rfl, rfl, trivial⟩ trivial ⟨rfl, trivial⟩ rfl ?_
      rintro n i1 _ hj1
      rw [m_syntagmaref24_right_l1] at hj1
      refine g_norm (L' := [(5, .i64 i1), (2, _), (3, _)]) (ms' := []) rfl rfl ?_
      refine g_seq ?_
      refine g_seq ?_
      refine g_region ?_
      refine go_p rfl rfl rfl (o_move rfl) ?_
      refine go_p rfl rfl rfl (o_fieldAddr fi_132_8 rfl rfl rfl) ?_
      refine go_p rfl rfl rfl (o_load Try.isAgg28 rfl rfl) ?_
      refine go_p rfl rfl rfl (o_len Try.runUnderlying28 rfl) ?_
      refine go_p rfl rfl rfl (o_cmp rfl rfl rfl) ?_
      refine go_nil ?_
      refine g_cond rfl (fun hc2 => ?_) (fun hc2 => ?_)
      · replace hj1 := cond_t hc2 hj1
        refine g_skip ?_
        refine g_seq ?_
        refine g_block ?_
        refine g_seq ?_
        obtain ⟨x1, hx1, hj1⟩ := bind_some hj1
        rcases cond_split hj1 with ⟨hg_15, hj1⟩ | ⟨hg_15, hj1⟩
        ·
          skip
          refine g_draw 32 Try_mixed (by decide +kernel) ?_
          refine gd_p rfl rfl rfl (o_fieldAddr fi_132_8 rfl rfl rfl) ?_
          refine gd_p rfl rfl rfl (o_load Try.isAgg28 rfl rfl) ?_
          refine gd_p rfl rfl rfl (o_move rfl) ?_
          refine gd_p rfl rfl rfl (o_indexAddr_m Try.runUnderlying28 Try.sizeOf3 rfl rfl hx1) ?_
          refine gd_p rfl rfl rfl (o_load Try.isAgg3 rfl rfl) ?_
          refine gd_p rfl rfl rfl (o_cmp rfl rfl rfl) ?_
          refine gd_p rfl rfl rfl (o_move rfl) ?_
          refine gd_skip rfl rfl rfl hg_15 rfl rfl ?_
          refine gd_skip rfl rfl rfl hg_15 rfl rfl ?_
          refine gd_skip rfl rfl rfl hg_15 rfl rfl ?_
          refine gd_skip rfl rfl rfl hg_15 rfl rfl ?_
          refine gd_skip rfl rfl rfl hg_15 rfl rfl ?_
          refine gd_skip rfl rfl rfl hg_15 rfl rfl ?_
          refine gd_p rfl rfl rfl (o_pickT rfl hg_15 rfl) ?_
          refine gd_p rfl rfl rfl (o_move rfl) ?_
          refine gd_skip rfl rfl rfl rfl rfl rfl ?_
          refine gd_skip rfl rfl rfl rfl rfl rfl ?_
          refine gd_skip rfl rfl rfl rfl rfl rfl ?_
          refine gd_skipu rfl rfl rfl rfl rfl ?_
          refine gd_skipu rfl rfl rfl rfl rfl ?_
          refine gd_skipu rfl rfl rfl rfl rfl ?_
          refine gd_skipu rfl rfl rfl rfl rfl ?_
          refine gd_skipu rfl rfl rfl rfl rfl ?_
          refine gd_skipu rfl rfl rfl rfl rfl ?_
          refine gd_skipu rfl rfl rfl rfl rfl ?_
          refine gd_skipu rfl rfl rfl rfl rfl ?_
          refine gd_skipu rfl rfl rfl rfl rfl ?_
          refine gd_skipu rfl rfl rfl rfl rfl ?_
          refine gd_skipu rfl rfl rfl rfl rfl ?_
          refine gd_skipu rfl rfl rfl rfl rfl ?_
          refine gd_skip rfl rfl rfl rfl rfl rfl ?_
          refine gd_p rfl rfl rfl (o_pickT rfl rfl rfl) ?_
          refine gd_nil ?_
          refine go_nil ?_
          refine g_cond_true rfl rfl ?_
          refine g_seq ?_
          refine g_region ?_
          refine go_p rfl rfl rfl (o_assign rfl) ?_
          refine go_nil ?_
          refine g_ret ?_
          obtain rfl := some_eq hj1
          replace hm1 := on_ret hm1
          exact retK (ret_one' rfl (ret_tmp rfl) (perm_drop _)) (congrArg (fun (p : Bool) => (.bool p : D)) (some_eq hm1))
        ·
          skip
          obtain ⟨x2, hx2, hj1⟩ := bind_some hj1
          rcases cond_split hj1 with ⟨hg_16, hj1⟩ | ⟨hg_16, hj1⟩
          ·
            skip
            refine g_draw 32 Try_mixed (by decide +kernel) ?_
            refine gd_p rfl rfl rfl (o_fieldAddr fi_132_8 rfl rfl rfl) ?_
            refine gd_p rfl rfl rfl (o_load Try.isAgg28 rfl rfl) ?_
            refine gd_p rfl rfl rfl (o_move rfl) ?_
            refine gd_p rfl rfl rfl (o_indexAddr_m Try.runUnderlying28 Try.sizeOf3 rfl rfl hx1) ?_
            refine gd_p rfl rfl rfl (o_load Try.isAgg3 rfl rfl) ?_
            refine gd_p rfl rfl rfl (o_cmp rfl rfl rfl) ?_
            refine gd_p rfl rfl rfl (o_move rfl) ?_
            refine gd_want rfl rfl rfl hg_15 rfl rfl (o_fieldAddr fi_132_8 rfl rfl rfl) ?_
            refine gd_want rfl rfl rfl hg_15 rfl rfl (o_load Try.isAgg28 rfl rfl) ?_
            refine gd_want rfl rfl rfl hg_15 rfl rfl (o_move rfl) ?_
            refine gd_want rfl rfl rfl hg_15 rfl rfl (o_indexAddr_m Try.runUnderlying28 Try.sizeOf3 rfl rfl hx2) ?_
            refine gd_want rfl rfl rfl hg_15 rfl rfl (o_load Try.isAgg3 rfl rfl) ?_
            refine gd_want rfl rfl rfl hg_15 rfl rfl (o_cmp rfl rfl rfl) ?_
            refine gd_p rfl rfl rfl (o_pickF rfl hg_15 rfl) ?_
            refine gd_p rfl rfl rfl (o_move rfl) ?_
            refine gd_skip rfl rfl rfl hg_16 rfl rfl ?_
            refine gd_skip rfl rfl rfl hg_16 rfl rfl ?_
            refine gd_skip rfl rfl rfl hg_16 rfl rfl ?_
            refine gd_skipu rfl rfl rfl rfl rfl ?_
            refine gd_skipu rfl rfl rfl rfl rfl ?_
            refine gd_skipu rfl rfl rfl rfl rfl ?_
            refine gd_skipu rfl rfl rfl rfl rfl ?_
            refine gd_skipu rfl rfl rfl rfl rfl ?_
            refine gd_skipu rfl rfl rfl rfl rfl ?_
            refine gd_skipu rfl rfl rfl rfl rfl ?_
            refine gd_skipu rfl rfl rfl rfl rfl ?_
            refine gd_skipu rfl rfl rfl rfl rfl ?_
            refine gd_skipu rfl rfl rfl rfl rfl ?_
            refine gd_skipu rfl rfl rfl rfl rfl ?_
            refine gd_skipu rfl rfl rfl rfl rfl ?_
            refine gd_skip rfl rfl rfl hg_16 rfl rfl ?_
            refine gd_p rfl rfl rfl (o_pickT rfl hg_16 rfl) ?_
            refine gd_nil ?_
            refine go_nil ?_
            refine g_cond_true rfl rfl ?_
            refine g_seq ?_
            refine g_region ?_
            refine go_p rfl rfl rfl (o_assign rfl) ?_
            refine go_nil ?_
            refine g_ret ?_
            obtain rfl := some_eq hj1
            replace hm1 := on_ret hm1
            exact retK (ret_one' rfl (ret_tmp rfl) (perm_drop _)) (congrArg (fun (p : Bool) => (.bool p : D)) (some_eq hm1))
          ·
            skip
            rcases cond_split hj1 with ⟨hg_17, hj1⟩ | ⟨hg_17, hj1⟩
            ·
              skip
              obtain ⟨hg3, hj1⟩ := grd_some hj1
              obtain ⟨x3, hx4, hj1⟩ := bind_some hj1
              obtain ⟨x4, hx5, hj1⟩ := bind_some hj1
              refine g_draw 32 Try_mixed (by decide +kernel) ?_
              refine gd_p rfl rfl rfl (o_fieldAddr fi_132_8 rfl rfl rfl) ?_
              refine gd_p rfl rfl rfl (o_load Try.isAgg28 rfl rfl) ?_
              refine gd_p rfl rfl rfl (o_move rfl) ?_
              refine gd_p rfl rfl rfl (o_indexAddr_m Try.runUnderlying28 Try.sizeOf3 rfl rfl hx1) ?_
              refine gd_p rfl rfl rfl (o_load Try.isAgg3 rfl rfl) ?_
              refine gd_p rfl rfl rfl (o_cmp rfl rfl rfl) ?_
              refine gd_p rfl rfl rfl (o_move rfl) ?_
              refine gd_want rfl rfl rfl hg_15 rfl rfl (o_fieldAddr fi_132_8 rfl rfl rfl) ?_
              refine gd_want rfl rfl rfl hg_15 rfl rfl (o_load Try.isAgg28 rfl rfl) ?_
              refine gd_want rfl rfl rfl hg_15 rfl rfl (o_move rfl) ?_
              refine gd_want rfl rfl rfl hg_15 rfl rfl (o_indexAddr_m Try.runUnderlying28 Try.sizeOf3 rfl rfl hx2) ?_
              refine gd_want rfl rfl rfl hg_15 rfl rfl (o_load Try.isAgg3 rfl rfl) ?_
              refine gd_want rfl rfl rfl hg_15 rfl rfl (o_cmp rfl rfl rfl) ?_
              refine gd_p rfl rfl rfl (o_pickF rfl hg_15 rfl) ?_
              refine gd_p rfl rfl rfl (o_move rfl) ?_
              refine gd_want rfl rfl rfl hg_16 rfl rfl (o_move rfl) ?_
              refine gd_want rfl rfl rfl hg_16 rfl rfl (o_cmp rfl rfl rfl) ?_
              refine gd_want rfl rfl rfl hg_16 rfl rfl (o_move rfl) ?_
              refine gd_want rfl rfl rfl hg_17 rfl rfl (o_fieldAddr fi_132_8 rfl rfl rfl) ?_
              refine gd_want rfl rfl rfl hg_17 rfl rfl (o_load Try.isAgg28 rfl rfl) ?_
              refine gd_want rfl rfl rfl hg_17 rfl rfl (o_move rfl) ?_
              refine gd_want rfl rfl rfl hg_17 rfl rfl (o_sub rfl rfl (i64_id hg3)) ?_
              refine gd_want rfl rfl rfl hg_17 rfl rfl (o_indexAddr_m Try.runUnderlying28 Try.sizeOf3 rfl rfl hx4) ?_
              refine gd_want rfl rfl rfl hg_17 rfl rfl (o_load Try.isAgg3 rfl rfl) ?_
              refine gd_want rfl rfl rfl hg_17 rfl rfl (o_fieldAddr fi_132_8 rfl rfl rfl) ?_
              refine gd_want rfl rfl rfl hg_17 rfl rfl (o_load Try.isAgg28 rfl rfl) ?_
              refine gd_want rfl rfl rfl hg_17 rfl rfl (o_move rfl) ?_
              refine gd_want rfl rfl rfl hg_17 rfl rfl (o_indexAddr_m Try.runUnderlying28 Try.sizeOf3 rfl rfl hx5) ?_
              refine gd_want rfl rfl rfl hg_17 rfl rfl (o_load Try.isAgg3 rfl rfl) ?_
              refine gd_want rfl rfl rfl hg_17 rfl rfl (o_cmp rfl rfl rfl) ?_
              refine gd_want rfl rfl rfl hg_16 rfl rfl (o_pickT rfl hg_17 rfl) ?_
              refine gd_p rfl rfl rfl (o_pickF rfl hg_16 rfl) ?_
              refine gd_nil ?_
              refine go_nil ?_
              refine g_cond rfl (fun hc3 => ?_) (fun hc3 => ?_)
              · replace hj1 := cond_t hc3 hj1
                refine g_seq ?_
                refine g_region ?_
                refine go_p rfl rfl rfl (o_assign rfl) ?_
                refine go_nil ?_
                refine g_ret ?_
                obtain rfl := some_eq hj1
                replace hm1 := on_ret hm1
                exact retK (ret_one' rfl (ret_tmp rfl) (perm_drop _)) (congrArg (fun (p : Bool) => (.bool p : D)) (some_eq hm1))
              · replace hj1 := cond_f hc3 hj1
                refine g_skip ?_
                refine g_region ?_
                refine go_p rfl rfl rfl (o_move rfl) ?_
                obtain ⟨hg6, hj1⟩ := grd_some hj1
                refine go_p rfl rfl rfl (o_add rfl rfl (i64_id hg6)) ?_
                refine go_p rfl rfl rfl (o_assign rfl) ?_
                refine go_nil ?_
                exact ⟨_, (), hj1, ⟨rfl, trivial⟩, ⟨rfl, rfl, trivial⟩, [], rfl⟩
            ·
              skip
              refine g_draw 32 Try_mixed (by decide +kernel) ?_
              refine gd_p rfl rfl rfl (o_fieldAddr fi_132_8 rfl rfl rfl) ?_
              refine gd_p rfl rfl rfl (o_load Try.isAgg28 rfl rfl) ?_
              refine gd_p rfl rfl rfl (o_move rfl) ?_
              refine gd_p rfl rfl rfl (o_indexAddr_m Try.runUnderlying28 Try.sizeOf3 rfl rfl hx1) ?_
              refine gd_p rfl rfl rfl (o_load Try.isAgg3 rfl rfl) ?_
              refine gd_p rfl rfl rfl (o_cmp rfl rfl rfl) ?_
              refine gd_p rfl rfl rfl (o_move rfl) ?_
              refine gd_want rfl rfl rfl hg_15 rfl rfl (o_fieldAddr fi_132_8 rfl rfl rfl) ?_
              refine gd_want rfl rfl rfl hg_15 rfl rfl (o_load Try.isAgg28 rfl rfl) ?_
              refine gd_want rfl rfl rfl hg_15 rfl rfl (o_move rfl) ?_
              refine gd_want rfl rfl rfl hg_15 rfl rfl (o_indexAddr_m Try.runUnderlying28 Try.sizeOf3 rfl rfl hx2) ?_
              refine gd_want rfl rfl rfl hg_15 rfl rfl (o_load Try.isAgg3 rfl rfl) ?_
              refine gd_want rfl rfl rfl hg_15 rfl rfl (o_cmp rfl rfl rfl) ?_
              refine gd_p rfl rfl rfl (o_pickF rfl hg_15 rfl) ?_
              refine gd_p rfl rfl rfl (o_move rfl) ?_
              refine gd_want rfl rfl rfl hg_16 rfl rfl (o_move rfl) ?_
              refine gd_want rfl rfl rfl hg_16 rfl rfl (o_cmp rfl rfl rfl) ?_
              refine gd_want rfl rfl rfl hg_16 rfl rfl (o_move rfl) ?_
              refine gd_skip rfl rfl rfl hg_17 rfl rfl ?_
              refine gd_skip rfl rfl rfl hg_17 rfl rfl ?_
              refine gd_skip rfl rfl rfl hg_17 rfl rfl ?_
              refine gd_skip rfl rfl rfl hg_17 rfl rfl ?_
              refine gd_skip rfl rfl rfl hg_17 rfl rfl ?_
              refine gd_skip rfl rfl rfl hg_17 rfl rfl ?_
              refine gd_skip rfl rfl rfl hg_17 rfl rfl ?_
              refine gd_skip rfl rfl rfl hg_17 rfl rfl ?_
              refine gd_skip rfl rfl rfl hg_17 rfl rfl ?_
              refine gd_skip rfl rfl rfl hg_17 rfl rfl ?_
              refine gd_skip rfl rfl rfl hg_17 rfl rfl ?_
              refine gd_skip rfl rfl rfl hg_17 rfl rfl ?_
              refine gd_want rfl rfl rfl hg_16 rfl rfl (o_pickF rfl hg_17 rfl) ?_
              refine gd_p rfl rfl rfl (o_pickF rfl hg_16 rfl) ?_
              refine gd_nil ?_
              refine go_nil ?_
              refine g_cond_false rfl rfl ?_
              refine g_skip ?_
              refine g_region ?_
              refine go_p rfl rfl rfl (o_move rfl) ?_
              obtain ⟨hg7, hj1⟩ := grd_some hj1
              refine go_p rfl rfl rfl (o_add rfl rfl (i64_id hg7)) ?_
              refine go_p rfl rfl rfl (o_assign rfl) ?_
              refine go_nil ?_
              exact ⟨_, (), hj1, ⟨rfl, trivial⟩, ⟨rfl, rfl, trivial⟩, [], rfl⟩
      · replace hj1 := cond_f hc2 hj1
        refine g_exit ?_
        exact ⟨_, (), some_eq hj1, trivial, ⟨rfl, rfl, trivial⟩, [], rfl⟩
    · rintro _ _ hst
      subst hst
      replace hm1 := on_go hm1
      refine k_norm (L' := [(2, _), (3, _)]) (ms' := []) rfl rfl ?_
      refine g_seq ?_
      refine g_region ?_
      refine go_p rfl rfl rfl (o_load_agg Try.isAgg132 Try.sizeOf132 rfl rfl) ?_
      obtain ⟨x5, hx8, hm1⟩ := bind_some hm1
      refine go_p rfl rfl rfl (o_call0 Try.call96 rfl (w_syntagmaref24_Next hx8)) ?_
      refine go_p rfl rfl rfl (o_assign rfl) ?_
      refine go_nil ?_
      refine g_seq ?_
      refine g_seq ?_
      refine g_region ?_
      refine go_p rfl rfl rfl (o_assign rfl) ?_
      refine go_nil ?_
      obtain ⟨o_2, hj2, hm2⟩ := bind_some hm1
      refine g_cut_m [(3, _)] [] (fun (st : Unit) (hid : Unit) => match st, hid with | _, _ => []) (fun F (st : Unit) (hid : Unit) => match st, hid with | _, _ => []) (fun st => Out.go (st) = o_2) ⟨rfl, trivial⟩ trivial ?_ ?_
      · skip
        refine g_block ?_
        refine g_loop_m [(2, _), (3, _), (6, _)] [] (fun (st : Int) (hid : Unit) => match st, hid with | i2, _ => [(7, .i64 i2)]) (fun F (st : Int) (hid : Unit) => match st, hid with | i2, _ => []) () hj2 (fun _ => rfl) ⟨rfl, rfl, rfl, trivial⟩ trivial ⟨rfl, trivial⟩ rfl ?_
        rintro n i2 _ hj2
        rw [m_syntagmaref24_right_l2] at hj2
        refine g_norm (L' := [(7, .i64 i2), (2, _), (3, _), (6, _)]) (ms' := []) rfl rfl ?_
        refine g_seq ?_
        refine g_seq ?_
        refine g_region ?_
        refine go_p rfl rfl rfl (o_move rfl) ?_
        refine go_p rfl rfl rfl (o_move rfl) ?_
        refine go_p rfl rfl rfl (o_len Try.runUnderlying28 rfl) ?_
        refine go_p rfl rfl rfl (o_cmp rfl rfl rfl) ?_
        refine go_nil ?_
        refine g_cond rfl (fun hc4 => ?_) (fun hc4 => ?_)
        · replace hj2 := cond_t hc4 hj2
          refine g_skip ?_
          refine g_seq ?_
          refine g_block ?_
          refine g_seq ?_
          refine g_seq ?_
          obtain ⟨x6, hx9, hj2⟩ := bind_some hj2
          rcases cond_split hj2 with ⟨hg_18, hj2⟩ | ⟨hg_18, hj2⟩
          ·
            skip
            refine g_draw 15 Try_mixed (by decide +kernel) ?_
            refine gd_p rfl rfl rfl (o_move rfl) ?_
            refine gd_p rfl rfl rfl (o_move rfl) ?_
            refine gd_p rfl rfl rfl (o_indexAddr_m Try.runUnderlying28 Try.sizeOf3 rfl rfl hx9) ?_
            refine gd_p rfl rfl rfl (o_load Try.isAgg3 rfl rfl) ?_
            refine gd_p rfl rfl rfl (o_cmp rfl rfl rfl) ?_
            refine gd_p rfl rfl rfl (o_move rfl) ?_
            refine gd_skip rfl rfl rfl hg_18 rfl rfl ?_
            refine gd_skip rfl rfl rfl hg_18 rfl rfl ?_
            refine gd_skip rfl rfl rfl hg_18 rfl rfl ?_
            refine gd_skip rfl rfl rfl hg_18 rfl rfl ?_
            refine gd_skip rfl rfl rfl hg_18 rfl rfl ?_
            refine gd_skip rfl rfl rfl hg_18 rfl rfl ?_
            refine gd_skip rfl rfl rfl hg_18 rfl rfl ?_
            refine gd_skip rfl rfl rfl hg_18 rfl rfl ?_
            refine gd_p rfl rfl rfl (o_pickT rfl hg_18 rfl) ?_
            refine gd_nil ?_
            refine go_nil ?_
            refine g_cond_true rfl rfl ?_
            refine g_seq ?_
            refine g_region ?_
            refine go_p rfl rfl rfl (o_assign rfl) ?_
            refine go_nil ?_
            refine g_ret ?_
            obtain rfl := some_eq hj2
            replace hm2 := on_ret hm2
            exact retK (ret_one' rfl (ret_tmp rfl) (perm_drop _)) (congrArg (fun (p : Bool) => (.bool p : D)) (some_eq hm2))
          ·
            skip
            obtain ⟨x7, hx10, hj2⟩ := bind_some hj2
            refine g_draw 15 Try_mixed (by decide +kernel) ?_
            refine gd_p rfl rfl rfl (o_move rfl) ?_
            refine gd_p rfl rfl rfl (o_move rfl) ?_
            refine gd_p rfl rfl rfl (o_indexAddr_m Try.runUnderlying28 Try.sizeOf3 rfl rfl hx9) ?_
            refine gd_p rfl rfl rfl (o_load Try.isAgg3 rfl rfl) ?_
            refine gd_p rfl rfl rfl (o_cmp rfl rfl rfl) ?_
            refine gd_p rfl rfl rfl (o_move rfl) ?_
            refine gd_want rfl rfl rfl hg_18 rfl rfl (o_move rfl) ?_
            refine gd_want rfl rfl rfl hg_18 rfl rfl (o_move rfl) ?_
            refine gd_want rfl rfl rfl hg_18 rfl rfl (o_indexAddr_m Try.runUnderlying28 Try.sizeOf3 rfl rfl hx10) ?_
            refine gd_want rfl rfl rfl hg_18 rfl rfl (o_load Try.isAgg3 rfl rfl) ?_
            refine gd_want rfl rfl rfl hg_18 rfl rfl (o_fieldAddr fi_74_0 rfl rfl rfl) ?_
            refine gd_want rfl rfl rfl hg_18 rfl rfl (o_load Try.isAgg72 rfl rfl) ?_
            refine gd_want rfl rfl rfl hg_18 rfl rfl (o_len Try.runUnderlying72 rfl) ?_
            refine gd_want rfl rfl rfl hg_18 rfl rfl (o_cmp rfl rfl rfl) ?_
            refine gd_p rfl rfl rfl (o_pickF rfl hg_18 rfl) ?_
            refine gd_nil ?_
            refine go_nil ?_
            refine g_cond rfl (fun hc5 => ?_) (fun hc5 => ?_)
            · replace hj2 := cond_t hc5 hj2
              refine g_seq ?_
              refine g_region ?_
              refine go_p rfl rfl rfl (o_assign rfl) ?_
              refine go_nil ?_
              refine g_ret ?_
              obtain rfl := some_eq hj2
              replace hm2 := on_ret hm2
              exact retK (ret_one' rfl (ret_tmp rfl) (perm_drop _)) (congrArg (fun (p : Bool) => (.bool p : D)) (some_eq hm2))
            · replace hj2 := cond_f hc5 hj2
              refine g_skip ?_
              refine g_seq ?_
              obtain ⟨x8, hx11, hj2⟩ := bind_some hj2
              obtain ⟨x9, hx12, hj2⟩ := bind_some hj2
              refine g_draw 13 Try_mixed (by decide +kernel) ?_
              refine gd_p rfl rfl rfl (o_fieldAddr fi_74_0 rfl rfl rfl) ?_
              refine gd_p rfl rfl rfl (o_load Try.isAgg72 rfl rfl) ?_
              refine gd_p rfl rfl rfl (o_move rfl) ?_
              refine gd_p rfl rfl rfl (o_move rfl) ?_
              refine gd_p rfl rfl rfl (o_indexAddr_m Try.runUnderlying28 Try.sizeOf3 rfl rfl hx11) ?_
              refine gd_p rfl rfl rfl (o_load Try.isAgg3 rfl rfl) ?_
              refine gd_p rfl rfl rfl (o_indexAddr_m Try.runUnderlying72 Try.sizeOf132 rfl rfl hx12) ?_
              refine gd_p rfl rfl rfl (o_fieldAddr fi_132_0 rfl rfl rfl) ?_
              refine gd_p rfl rfl rfl (o_load Try.isAgg4 rfl rfl) ?_
              refine gd_p rfl rfl rfl (o_fieldAddr fi_132_0 rfl rfl rfl) ?_
              refine gd_p rfl rfl rfl (o_load Try.isAgg4 rfl rfl) ?_
              refine gd_p rfl rfl rfl (o_cmpb Try.runUnderlying4 rfl rfl) ?_
              refine gd_p rfl rfl rfl (o_assign rfl) ?_
              refine gd_nil ?_
              refine go_nil ?_
              refine g_seq ?_
              refine g_region ?_
              refine go_p rfl rfl rfl (o_move rfl) ?_
              refine go_p rfl rfl rfl (o_fieldAddr fi_132_5 rfl rfl rfl) ?_
              refine go_p rfl rfl rfl (o_load Try.isAgg4 rfl rfl) ?_
              refine go_p rfl rfl rfl (o_move rfl) ?_
              apply go_and [(2, _), (3, _), (6, _), (7, _), (152, _)] 3 158 (t := 155) ⟨rfl, rfl, rfl, rfl, rfl, trivial⟩ rfl
              · intro hg_19 hk19
                refine go_wantp rfl rfl rfl hg_19 rfl rfl (o_move rfl) ?_
                refine go_wantp rfl rfl rfl hg_19 rfl rfl (o_cmp rfl rfl rfl) ?_
                refine go_p rfl rfl rfl (o_pickT rfl hg_19 rfl) ?_
                exact go_meet hk19 (rfl) ⟨rfl, rfl, rfl, rfl, rfl, trivial⟩
              · intro hg_19 hk19
                refine go_skip rfl rfl rfl hg_19 rfl rfl ?_
                refine go_skip rfl rfl rfl hg_19 rfl rfl ?_
                refine go_p rfl rfl rfl (o_pickF rfl hg_19 rfl) ?_
                exact go_meet hk19 (rfl) ⟨rfl, rfl, rfl, rfl, rfl, trivial⟩
              refine go_p rfl rfl rfl (o_cmpb Try.runUnderlying4 rfl rfl) ?_
              refine go_nil ?_
              refine g_cond rfl (fun hc6 => ?_) (fun hc6 => ?_)
              · replace hj2 := cond_t hc6 hj2
                refine g_seq ?_
                refine g_region ?_
                refine go_p rfl rfl rfl (o_assign rfl) ?_
                refine go_nil ?_
                refine g_ret ?_
                obtain rfl := some_eq hj2
                replace hm2 := on_ret hm2
                exact retK (ret_one' rfl (ret_tmp rfl) (perm_drop _)) (congrArg (fun (p : Bool) => (.bool p : D)) (some_eq hm2))
              · replace hj2 := cond_f hc6 hj2
                refine g_skip ?_
                refine g_region ?_
                refine go_p rfl rfl rfl (o_move rfl) ?_
                obtain ⟨hg13, hj2⟩ := grd_some hj2
                refine go_p rfl rfl rfl (o_add rfl rfl (i64_id hg13)) ?_
                refine go_p rfl rfl rfl (o_assign rfl) ?_
                refine go_nil ?_
                exact ⟨_, (), hj2, ⟨rfl, trivial⟩, ⟨rfl, rfl, rfl, trivial⟩, [], rfl⟩
        · replace hj2 := cond_f hc4 hj2
          refine g_exit ?_
          exact ⟨_, (), some_eq hj2, trivial, ⟨rfl, trivial⟩, [], rfl⟩
      · rintro _ _ hst
        subst hst
        replace hm2 := on_go hm2
        refine k_norm (L' := [(3, _)]) (ms' := []) rfl rfl ?_
        refine g_seq ?_
        refine g_region ?_
        refine go_p rfl rfl rfl (o_fieldAddr fi_132_11 rfl rfl rfl) ?_
        refine go_p rfl rfl rfl (o_load Try.isAgg130 rfl rfl) ?_
        obtain ⟨x10, hx14, hm2⟩ := bind_some hm2
        refine go_p rfl rfl rfl (o_call0 Try.call129 rfl (w_syntagmaref24_edges hx14)) ?_
        refine go_p rfl rfl rfl (o_move rfl) ?_
        obtain ⟨p1, hp_20, hm2⟩ := bind_some hm2
        refine go_two [] 4 167 p1 (t := 163) trivial rfl (fun hg_20 hk20 => ?_) (fun hg_20 hk20 => ?_) ?_
        · replace hp_20 := cond_t hg_20 hp_20
          refine go_wantp rfl rfl rfl hg_20 rfl rfl (o_fieldAddr fi_132_12 rfl rfl rfl) ?_
          refine go_wantp rfl rfl rfl hg_20 rfl rfl (o_load Try.isAgg130 rfl rfl) ?_
          obtain ⟨x11, hx15, hp_20⟩ := bind_some hp_20
          refine go_wantp rfl rfl rfl hg_20 rfl rfl (o_call0 Try.call129 rfl (w_syntagmaref24_edges hx15)) ?_
          refine go_p rfl rfl rfl (o_pickT rfl hg_20 rfl) ?_
          exact go_meet hk20 (congrArg (fun b => some (D.bool b)) (some_eq hp_20)) trivial
        · replace hp_20 := cond_f hg_20 hp_20
          refine go_skip rfl rfl rfl hg_20 rfl rfl ?_
          refine go_skip rfl rfl rfl hg_20 rfl rfl ?_
          refine go_skip rfl rfl rfl hg_20 rfl rfl ?_
          refine go_p rfl rfl rfl (o_pickF rfl hg_20 rfl) ?_
          exact go_meet hk20 (congrArg (fun b => some (D.bool b)) (some_eq hp_20)) trivial
        refine go_p rfl rfl rfl (o_assign rfl) ?_
        refine go_nil ?_
        refine g_ret ?_
        exact retK (ret_one' rfl (ret_tmp rfl) (perm_drop _)) (congrArg (fun (p : Bool) => (.bool p : D)) (some_eq hm2))
def m_syntagmaref24_May_l1 (a1 : AutoAuto) : Nat → Int → Option (Out Int Unit)
  | 0, _ => none
  | n + 1, i1 =>
    bif (decide (i1 < (a1.l.length : Int))) then
      (idx a1.l i1).bind fun x1 =>
      (m_syntagmaref24_right a1 x1).bind fun x2 =>
      bif (!x2) then
        some (Out.ret 4)
      else
        grd (InR (i1 + 1)) <|
        m_syntagmaref24_May_l1 a1 n (i1 + 1)
    else
      some (Out.go (()))
def m_syntagmaref24_May (a1 : AutoAuto) : Option Int :=
  bif ((decide ((a1.l.length : Int) < 1)) || (decide (2000 < (a1.l.length : Int)))) then
    some 8
  else
    ((m_syntagmaref24_May_l1 a1 FU 0 : Option (Out Int Unit))).bind (fun oo => oo.on (fun r1 => some r1) (fun _ =>
    (bif ((decide (a1.start < 0)) || (decide ((a1.l.length : Int) ≤ a1.start))) then (some true) else ((idx a1.l a1.start).bind fun x3 =>
    some (!x3.plus))).bind fun p1 =>
    bif p1 then
      some 4
    else
      some 0))
theorem w_syntagmaref24_May {a1 : AutoAuto} {r_1 : Int} (hm : m_syntagmaref24_May a1 = some r_1) : Fn0 Try.prog 51 [AutoAuto.d a1] (.i64 r_1) := by
  unfold m_syntagmaref24_May at hm
  refine fn_intro Try.func51 rfl Try.ntmps51 rfl fun H0 fr w0 => ?_
  refine g_seq ?_
  refine g_region ?_
  refine go_p rfl rfl rfl (o_box rfl rfl) ?_
  refine go_p rfl rfl rfl (o_assign rfl) ?_
  refine go_nil ?_
  refine g_seq ?_
  refine g_seq ?_
  refine g_region ?_
  refine go_p rfl rfl rfl (o_fieldAddr fi_74_0 rfl rfl rfl) ?_
  refine go_p rfl rfl rfl (o_load Try.isAgg72 rfl rfl) ?_
  refine go_p rfl rfl rfl (o_len Try.runUnderlying72 rfl) ?_
  refine go_p rfl rfl rfl (o_cmp rfl rfl rfl) ?_
  refine go_p rfl rfl rfl (o_move rfl) ?_
  apply go_or [(1, _)] 5 13 (t := 8) ⟨rfl, trivial⟩ rfl
  · intro hg_1 hk1
    refine go_wantp rfl rfl rfl hg_1 rfl rfl (o_fieldAddr fi_74_0 rfl rfl rfl) ?_
    refine go_wantp rfl rfl rfl hg_1 rfl rfl (o_load Try.isAgg72 rfl rfl) ?_
    refine go_wantp rfl rfl rfl hg_1 rfl rfl (o_len Try.runUnderlying72 rfl) ?_
    refine go_wantp rfl rfl rfl hg_1 rfl rfl (o_cmp rfl rfl rfl) ?_
    refine go_p rfl rfl rfl (o_pickF rfl hg_1 rfl) ?_
    exact go_meet hk1 (rfl) ⟨rfl, trivial⟩
  · intro hg_1 hk1
    refine go_skip rfl rfl rfl hg_1 rfl rfl ?_
    refine go_skip rfl rfl rfl hg_1 rfl rfl ?_
    refine go_skip rfl rfl rfl hg_1 rfl rfl ?_
    refine go_skip rfl rfl rfl hg_1 rfl rfl ?_
    refine go_p rfl rfl rfl (o_pickT rfl hg_1 rfl) ?_
    exact go_meet hk1 (rfl) ⟨rfl, trivial⟩
  refine go_nil ?_
  refine g_cond rfl (fun hc1 => ?_) (fun hc1 => ?_)
  · replace hm := cond_t hc1 hm
    refine g_seq ?_
    refine g_region ?_
    refine go_p rfl rfl rfl (o_assign rfl) ?_
    refine go_nil ?_
    refine g_ret ?_
    exact retK (ret_one' rfl (ret_tmp rfl) (perm_drop _)) (congrArg (fun (p : Int) => (.i64 p : D)) (some_eq hm))
  · replace hm := cond_f hc1 hm
    refine g_skip ?_
    refine g_seq ?_
    refine g_seq ?_
    refine g_region ?_
    refine go_p rfl rfl rfl (o_assign rfl) ?_
    refine go_nil ?_
    obtain ⟨o_1, hj1, hm1⟩ := bind_some hm
    refine g_cut_m [(1, _)] [] (fun (st : Unit) (hid : Unit) => match st, hid with | _, _ => []) (fun F (st : Unit) (hid : Unit) => match st, hid with | _, _ => []) (fun st => Out.go (st) = o_1) ⟨rfl, trivial⟩ trivial ?_ ?_
    · skip
      refine g_block ?_
      refine g_loop_m [(1, _)] [] (fun (st : Int) (hid : Unit) => match st, hid with | i1, _ => [(3, .i64 i1)]) (fun F (st : Int) (hid : Unit) => match st, hid with | i1, _ => []) () hj1 (fun _ => rfl) ⟨rfl, trivial⟩ trivial ⟨rfl, trivial⟩ rfl ?_
      rintro n i1 _ hj1
      rw [m_syntagmaref24_May_l1] at hj1
      refine g_norm (L' := [(3, .i64 i1), (1, _)]) (ms' := []) rfl rfl ?_
      refine g_seq ?_
      refine g_seq ?_
      refine g_region ?_
      refine go_p rfl rfl rfl (o_move rfl) ?_
      refine go_p rfl rfl rfl (o_fieldAddr fi_74_0 rfl rfl rfl) ?_
      refine go_p rfl rfl rfl (o_load Try.isAgg72 rfl rfl) ?_
      refine go_p rfl rfl rfl (o_len Try.runUnderlying72 rfl) ?_
      refine go_p rfl rfl rfl (o_cmp rfl rfl rfl) ?_
      refine go_nil ?_
      refine g_cond rfl (fun hc2 => ?_) (fun hc2 => ?_)
      · replace hj1 := cond_t hc2 hj1
        refine g_skip ?_
        refine g_seq ?_
        refine g_block ?_
        refine g_seq ?_
        obtain ⟨x1, hx1, hj1⟩ := bind_some hj1
        obtain ⟨x2, hx2, hj1⟩ := bind_some hj1
        refine g_draw 8 Try_mixed (by decide +kernel) ?_
        refine gd_p rfl rfl rfl (o_load_agg Try.isAgg74 Try.sizeOf74 rfl rfl) ?_
        refine gd_p rfl rfl rfl (o_fieldAddr fi_74_0 rfl rfl rfl) ?_
        refine gd_p rfl rfl rfl (o_load Try.isAgg72 rfl rfl) ?_
        refine gd_p rfl rfl rfl (o_move rfl) ?_
        refine gd_p rfl rfl rfl (o_indexAddr_m Try.runUnderlying72 Try.sizeOf132 rfl rfl hx1) ?_
        refine gd_p rfl rfl rfl (o_load_agg Try.isAgg132 Try.sizeOf132 rfl rfl) ?_
        refine gd_p rfl rfl rfl (o_call0 Try.call95 rfl (w_syntagmaref24_right hx2)) ?_
        refine gd_p rfl rfl rfl (o_not rfl) ?_
        refine gd_nil ?_
        refine go_nil ?_
        refine g_cond rfl (fun hc3 => ?_) (fun hc3 => ?_)
        · replace hj1 := cond_t hc3 hj1
          refine g_seq ?_
          refine g_region ?_
          refine go_p rfl rfl rfl (o_assign rfl) ?_
          refine go_nil ?_
          refine g_ret ?_
          obtain rfl := some_eq hj1
          replace hm1 := on_ret hm1
          exact retK (ret_one' rfl (ret_tmp rfl) (perm_drop _)) (congrArg (fun (p : Int) => (.i64 p : D)) (some_eq hm1))
        · replace hj1 := cond_f hc3 hj1
          refine g_skip ?_
          refine g_region ?_
          refine go_p rfl rfl rfl (o_move rfl) ?_
          obtain ⟨hg3, hj1⟩ := grd_some hj1
          refine go_p rfl rfl rfl (o_add rfl rfl (i64_id hg3)) ?_
          refine go_p rfl rfl rfl (o_assign rfl) ?_
          refine go_nil ?_
          exact ⟨_, (), hj1, ⟨rfl, trivial⟩, ⟨rfl, trivial⟩, [], rfl⟩
      · replace hj1 := cond_f hc2 hj1
        refine g_exit ?_
        exact ⟨_, (), some_eq hj1, trivial, ⟨rfl, trivial⟩, [], rfl⟩
    · rintro _ _ hst
      subst hst
      replace hm1 := on_go hm1
      refine k_norm (L' := [(1, _)]) (ms' := []) rfl rfl ?_
      refine g_seq ?_
      refine g_seq ?_
      refine g_region ?_
      refine go_p rfl rfl rfl (o_fieldAddr fi_74_1 rfl rfl rfl) ?_
      refine go_p rfl rfl rfl (o_load Try.isAgg3 rfl rfl) ?_
      refine go_p rfl rfl rfl (o_cmp rfl rfl rfl) ?_
      refine go_p rfl rfl rfl (o_move rfl) ?_
      apply go_or [(1, _)] 7 39 (t := 32) ⟨rfl, trivial⟩ rfl
      · intro hg_2 hk2
        refine go_wantp rfl rfl rfl hg_2 rfl rfl (o_fieldAddr fi_74_1 rfl rfl rfl) ?_
        refine go_wantp rfl rfl rfl hg_2 rfl rfl (o_load Try.isAgg3 rfl rfl) ?_
        refine go_wantp rfl rfl rfl hg_2 rfl rfl (o_fieldAddr fi_74_0 rfl rfl rfl) ?_
        refine go_wantp rfl rfl rfl hg_2 rfl rfl (o_load Try.isAgg72 rfl rfl) ?_
        refine go_wantp rfl rfl rfl hg_2 rfl rfl (o_len Try.runUnderlying72 rfl) ?_
        refine go_wantp rfl rfl rfl hg_2 rfl rfl (o_cmp rfl rfl rfl) ?_
        refine go_p rfl rfl rfl (o_pickF rfl hg_2 rfl) ?_
        exact go_meet hk2 (rfl) ⟨rfl, trivial⟩
      · intro hg_2 hk2
        refine go_skip rfl rfl rfl hg_2 rfl rfl ?_
        refine go_skip rfl rfl rfl hg_2 rfl rfl ?_
        refine go_skip rfl rfl rfl hg_2 rfl rfl ?_
        refine go_skip rfl rfl rfl hg_2 rfl rfl ?_
        refine go_skip rfl rfl rfl hg_2 rfl rfl ?_
        refine go_skip rfl rfl rfl hg_2 rfl rfl ?_
        refine go_p rfl rfl rfl (o_pickT rfl hg_2 rfl) ?_
        exact go_meet hk2 (rfl) ⟨rfl, trivial⟩
      refine go_p rfl rfl rfl (o_move rfl) ?_
      obtain ⟨p1, hp_3, hm1⟩ := bind_some hm1
      refine go_two [] 9 49 p1 (t := 40) trivial rfl (fun hg_3 hk3 => ?_) (fun hg_3 hk3 => ?_) ?_
      · replace hp_3 := cond_t hg_3 hp_3
        refine go_skip rfl rfl rfl hg_3 rfl rfl ?_
        refine go_skip rfl rfl rfl hg_3 rfl rfl ?_
        refine go_skip rfl rfl rfl hg_3 rfl rfl ?_
        refine go_skip rfl rfl rfl hg_3 rfl rfl ?_
        refine go_skip rfl rfl rfl hg_3 rfl rfl ?_
        refine go_skip rfl rfl rfl hg_3 rfl rfl ?_
        refine go_skip rfl rfl rfl hg_3 rfl rfl ?_
        refine go_skip rfl rfl rfl hg_3 rfl rfl ?_
        refine go_p rfl rfl rfl (o_pickT rfl hg_3 rfl) ?_
        exact go_meet hk3 (congrArg (fun b => some (D.bool b)) (some_eq hp_3)) trivial
      · replace hp_3 := cond_f hg_3 hp_3
        refine go_wantp rfl rfl rfl hg_3 rfl rfl (o_fieldAddr fi_74_0 rfl rfl rfl) ?_
        refine go_wantp rfl rfl rfl hg_3 rfl rfl (o_load Try.isAgg72 rfl rfl) ?_
        refine go_wantp rfl rfl rfl hg_3 rfl rfl (o_fieldAddr fi_74_1 rfl rfl rfl) ?_
        refine go_wantp rfl rfl rfl hg_3 rfl rfl (o_load Try.isAgg3 rfl rfl) ?_
        obtain ⟨x3, hx4, hp_3⟩ := bind_some hp_3
        refine go_wantp rfl rfl rfl hg_3 rfl rfl (o_indexAddr_m Try.runUnderlying72 Try.sizeOf132 rfl rfl hx4) ?_
        refine go_wantp rfl rfl rfl hg_3 rfl rfl (o_fieldAddr fi_132_0 rfl rfl rfl) ?_
        refine go_wantp rfl rfl rfl hg_3 rfl rfl (o_load Try.isAgg4 rfl rfl) ?_
        refine go_wantp rfl rfl rfl hg_3 rfl rfl (o_not rfl) ?_
        refine go_p rfl rfl rfl (o_pickF rfl hg_3 rfl) ?_
        exact go_meet hk3 (congrArg (fun b => some (D.bool b)) (some_eq hp_3)) trivial
      refine go_nil ?_
      refine g_cond rfl (fun hc4 => ?_) (fun hc4 => ?_)
      · replace hm1 := cond_t hc4 hm1
        refine g_seq ?_
        refine g_region ?_
        refine go_p rfl rfl rfl (o_assign rfl) ?_
        refine go_nil ?_
        refine g_ret ?_
        exact retK (ret_one' rfl (ret_tmp rfl) (perm_drop _)) (congrArg (fun (p : Int) => (.i64 p : D)) (some_eq hm1))
      · replace hm1 := cond_f hc4 hm1
        refine g_skip ?_
        refine g_seq ?_
        refine g_region ?_
        refine go_p rfl rfl rfl (o_assign rfl) ?_
        refine go_nil ?_
        refine g_ret ?_
        exact retK (ret_one' rfl (ret_tmp rfl) (perm_drop _)) (congrArg (fun (p : Int) => (.i64 p : D)) (some_eq hm1))
def VarsUse.eqv (x y : VarsUse) : Bool := ((x.var == y.var) && ((x.side == y.side) && true))
theorem eqf_90 : ∀ fs : Array Field, Try.prog.underlying 90 = some (.struct fs) → EqFields Try.prog fs.toList 0 [.int, .int] := by
  intro fs h
  have := h.symm.trans Try.underlying90
  simp only [Option.some.injEq, TypeDesc.struct.injEq] at this
  subst this
  exact ⟨by decide, rfl, Try.isAgg3, ⟨_, Try.underlying3⟩, ⟨by decide, rfl, Try.isAgg3, ⟨_, Try.underlying3⟩, trivial⟩⟩
noncomputable def m_syntagmalaw28_works  : Option Bool :=
  (m_vars_Sides (⟨[(⟨true, false, false, false, false, true, false, false, ([] : List Int), 1, 2, ([] : List AutoEdge), ([] : List AutoEdge)⟩ : AutoState), (⟨false, false, false, false, false, false, false, false, [7], 0, 0, ([] : List AutoEdge), ([] : List AutoEdge)⟩ : AutoState), (⟨true, false, true, false, false, false, false, false, ([] : List Int), 0, 0, ([] : List AutoEdge), ([] : List AutoEdge)⟩ : AutoState)], 0⟩ : AutoAuto)).bind fun (x1, x2) =>
  (m_vars_Drop (⟨[(⟨true, false, false, false, false, true, false, false, ([] : List Int), 1, 2, ([] : List AutoEdge), ([] : List AutoEdge)⟩ : AutoState), (⟨false, false, false, false, false, false, false, false, [7], 0, 0, ([] : List AutoEdge), ([] : List AutoEdge)⟩ : AutoState), (⟨true, false, true, false, false, false, false, false, ([] : List Int), 0, 0, ([] : List AutoEdge), ([] : List AutoEdge)⟩ : AutoState)], 0⟩ : AutoAuto)).bind fun (x3, x4) =>
  (m_vars_Rename (⟨[(⟨true, false, false, false, false, true, false, false, ([] : List Int), 1, 2, ([] : List AutoEdge), ([] : List AutoEdge)⟩ : AutoState), (⟨false, false, false, false, false, false, false, false, [7], 0, 0, ([] : List AutoEdge), ([] : List AutoEdge)⟩ : AutoState), (⟨true, false, true, false, false, false, false, false, ([] : List Int), 0, 0, ([] : List AutoEdge), ([] : List AutoEdge)⟩ : AutoState)], 0⟩ : AutoAuto)).bind fun (x5, x6) =>
  (bif ((((decide (x2 = 0)) && (decide (x4 = 0))) && (decide (x6 = 0))) && (decide ((x1.length : Int) = 1))) then ((idx x1 0).bind fun x7 =>
  some (VarsUse.eqv x7 (⟨7, 2⟩ : VarsUse))) else (some false)).bind fun p1 =>
  (bif p1 then ((idx x3.l 1).bind fun x8 =>
  some (decide ((x8.vars.length : Int) = 0))) else (some false)).bind fun p2 =>
  (bif p2 then ((idx x5.l 1).bind fun x9 =>
  (idx x9.vars 0).bind fun x10 =>
  some (decide (x10 = 0))) else (some false)).bind fun p3 =>
  some p3
theorem w_syntagmalaw28_works  {r_1 : Bool} (hm : m_syntagmalaw28_works = some r_1) : Fn0 Try.prog 52 [] (.bool r_1) := by
  unfold m_syntagmalaw28_works at hm
  refine fn_intro Try.func52 rfl Try.ntmps52 rfl fun H0 fr w0 => ?_
  refine g_seq ?_
  refine g_region ?_
  refine go_p rfl rfl rfl (o_assign rfl) ?_
  refine go_nil ?_
  refine g_seq ?_
  refine g_region ?_
  refine go_p rfl rfl rfl (o_build (zs := [.bool false, .bool false, .bool false, .bool false, .bool false, .bool false, .bool false, .bool false, .list 1 D.i64 [], .v (.int .i64 0), .v (.int .i64 0), .list 2 AutoEdge.d [], .list 2 AutoEdge.d []]) Try.runUnderlying135 Try.zeroValue135 (pl_135 _ Try.runUnderlying135) rfl rfl rfl rfl) ?_
  refine go_p rfl rfl rfl (o_buildSlice (xs := [_]) (f := D.i64) (l := [_]) Try.runUnderlying28 Try.sizeOf3 Try.zeroValue3 rfl rfl rfl (fun _ => ⟨rfl, rfl, rfl⟩) rfl) ?_
  refine go_p rfl rfl rfl (o_build (zs := [.bool false, .bool false, .bool false, .bool false, .bool false, .bool false, .bool false, .bool false, .list 1 D.i64 [], .v (.int .i64 0), .v (.int .i64 0), .list 2 AutoEdge.d [], .list 2 AutoEdge.d []]) Try.runUnderlying135 Try.zeroValue135 (pl_135 _ Try.runUnderlying135) rfl rfl rfl rfl) ?_
  refine go_p rfl rfl rfl (o_build (zs := [.bool false, .bool false, .bool false, .bool false, .bool false, .bool false, .bool false, .bool false, .list 1 D.i64 [], .v (.int .i64 0), .v (.int .i64 0), .list 2 AutoEdge.d [], .list 2 AutoEdge.d []]) Try.runUnderlying135 Try.zeroValue135 (pl_135 _ Try.runUnderlying135) rfl rfl rfl rfl) ?_
  refine go_p rfl rfl rfl (o_buildSlice (xs := [_, _, _]) (f := AutoState.d) (l := [(⟨true, false, false, false, false, true, false, false, ([] : List Int), 1, 2, ([] : List AutoEdge), ([] : List AutoEdge)⟩ : AutoState), (⟨false, false, false, false, false, false, false, false, [7], 0, 0, ([] : List AutoEdge), ([] : List AutoEdge)⟩ : AutoState), (⟨true, false, true, false, false, false, false, false, ([] : List Int), 0, 0, ([] : List AutoEdge), ([] : List AutoEdge)⟩ : AutoState)]) Try.runUnderlying75 Try.sizeOf135 Try.zeroValue135 rfl rfl rfl (fun _ => ⟨rfl, rfl, rfl⟩) rfl) ?_
  refine go_p rfl rfl rfl (o_build (zs := [.list 13 AutoState.d [], .v (.int .i64 0)]) Try.runUnderlying77 Try.zeroValue77 (pl_77 _ Try.runUnderlying77) rfl rfl rfl rfl) ?_
  refine go_op rfl rfl rfl (o_alloc_own Try.zeroValue77 (cs := [.list 13 AutoState.d [], .i64 0]) rfl) ?_
  rintro _ _ ⟨b1, rfl, rfl⟩
  refine go_u rfl rfl (o_store_box 0 Try.sizeOf77 rfl rfl rfl rfl rfl rfl rfl rfl (Nat.le_of_ble_eq_true rfl)) ?_
  rintro _ _ rfl
  refine go_ms (ms' := [box b1 77 [_, _]]) rfl ?_
  refine go_nil ?_
  refine g_seq ?_
  refine g_region ?_
  refine go_p rfl rfl rfl (o_load_box_agg 0 Try.isAgg77 Try.sizeOf77 rfl rfl rfl rfl (Nat.le_of_ble_eq_true rfl)) ?_
  obtain ⟨⟨x1, x2⟩, hx1, hm⟩ := bind_some hm
  refine go_p rfl rfl rfl (o_call0 Try.call47 rfl (w_vars_Sides hx1)) ?_
  refine go_p rfl rfl rfl (o_move rfl) ?_
  refine go_p rfl rfl rfl (o_extract rfl rfl) ?_
  refine go_p rfl rfl rfl (o_extract rfl rfl) ?_
  refine go_p rfl rfl rfl (o_assign rfl) ?_
  refine go_p rfl rfl rfl (o_assign rfl) ?_
  refine go_nil ?_
  refine g_seq ?_
  refine g_region ?_
  refine go_p rfl rfl rfl (o_load_box_agg 0 Try.isAgg77 Try.sizeOf77 rfl rfl rfl rfl (Nat.le_of_ble_eq_true rfl)) ?_
  obtain ⟨⟨x3, x4⟩, hx2, hm⟩ := bind_some hm
  refine go_p rfl rfl rfl (o_call0 Try.call48 rfl (w_vars_Drop hx2)) ?_
  refine go_p rfl rfl rfl (o_move rfl) ?_
  refine go_p rfl rfl rfl (o_extract rfl rfl) ?_
  refine go_p rfl rfl rfl (o_extract rfl rfl) ?_
  refine go_op rfl rfl rfl (o_alloc_own Try.zeroValue77 (cs := [.list 13 AutoState.d [], .i64 0]) rfl) ?_
  rintro _ _ ⟨b2, rfl, rfl⟩
  refine go_u rfl rfl (o_store_box 0 Try.sizeOf77 rfl rfl rfl rfl rfl rfl rfl rfl (Nat.le_of_ble_eq_true rfl)) ?_
  rintro _ _ rfl
  refine go_ms (ms' := [box b2 77 [_, _], box b1 77 [_, _]]) rfl ?_
  refine go_p rfl rfl rfl (o_assign rfl) ?_
  refine go_nil ?_
  refine g_seq ?_
  refine g_region ?_
  refine go_p rfl rfl rfl (o_load_box_agg 1 Try.isAgg77 Try.sizeOf77 rfl rfl rfl rfl (Nat.le_of_ble_eq_true rfl)) ?_
  obtain ⟨⟨x5, x6⟩, hx3, hm⟩ := bind_some hm
  refine go_p rfl rfl rfl (o_call0 Try.call49 rfl (w_vars_Rename hx3)) ?_
  refine go_p rfl rfl rfl (o_move rfl) ?_
  refine go_p rfl rfl rfl (o_extract rfl rfl) ?_
  refine go_p rfl rfl rfl (o_extract rfl rfl) ?_
  refine go_op rfl rfl rfl (o_alloc_own Try.zeroValue77 (cs := [.list 13 AutoState.d [], .i64 0]) rfl) ?_
  rintro _ _ ⟨b3, rfl, rfl⟩
  refine go_u rfl rfl (o_store_box 0 Try.sizeOf77 rfl rfl rfl rfl rfl rfl rfl rfl (Nat.le_of_ble_eq_true rfl)) ?_
  rintro _ _ rfl
  refine go_ms (ms' := [box b3 77 [_, _], box b2 77 [_, _], box b1 77 [_, _]]) rfl ?_
  refine go_p rfl rfl rfl (o_assign rfl) ?_
  refine go_nil ?_
  refine g_seq ?_
  refine g_region ?_
  refine go_p rfl rfl rfl (o_move rfl) ?_
  refine go_p rfl rfl rfl (o_cmp rfl rfl rfl) ?_
  refine go_p rfl rfl rfl (o_move rfl) ?_
  apply go_and [(2, _), (4, _), (6, _), (7, _)] 3 34 (t := 31) ⟨rfl, rfl, rfl, rfl, trivial⟩ rfl
  · intro hg_1 hk1
    refine go_wantp rfl rfl rfl hg_1 rfl rfl (o_move rfl) ?_
    refine go_wantp rfl rfl rfl hg_1 rfl rfl (o_cmp rfl rfl rfl) ?_
    refine go_p rfl rfl rfl (o_pickT rfl hg_1 rfl) ?_
    exact go_meet hk1 (rfl) ⟨rfl, rfl, rfl, rfl, trivial⟩
  · intro hg_1 hk1
    refine go_skip rfl rfl rfl hg_1 rfl rfl ?_
    refine go_skip rfl rfl rfl hg_1 rfl rfl ?_
    refine go_p rfl rfl rfl (o_pickF rfl hg_1 rfl) ?_
    exact go_meet hk1 (rfl) ⟨rfl, rfl, rfl, rfl, trivial⟩
  refine go_p rfl rfl rfl (o_move rfl) ?_
  apply go_and [(2, _), (4, _), (6, _)] 3 38 (t := 35) ⟨rfl, rfl, rfl, trivial⟩ rfl
  · intro hg_2 hk2
    refine go_wantp rfl rfl rfl hg_2 rfl rfl (o_move rfl) ?_
    refine go_wantp rfl rfl rfl hg_2 rfl rfl (o_cmp rfl rfl rfl) ?_
    refine go_p rfl rfl rfl (o_pickT rfl hg_2 rfl) ?_
    exact go_meet hk2 (rfl) ⟨rfl, rfl, rfl, trivial⟩
  · intro hg_2 hk2
    refine go_skip rfl rfl rfl hg_2 rfl rfl ?_
    refine go_skip rfl rfl rfl hg_2 rfl rfl ?_
    refine go_p rfl rfl rfl (o_pickF rfl hg_2 rfl) ?_
    exact go_meet hk2 (rfl) ⟨rfl, rfl, rfl, trivial⟩
  refine go_p rfl rfl rfl (o_move rfl) ?_
  apply go_and [(2, _), (4, _), (6, _)] 4 43 (t := 39) ⟨rfl, rfl, rfl, trivial⟩ rfl
  · intro hg_3 hk3
    refine go_wantp rfl rfl rfl hg_3 rfl rfl (o_move rfl) ?_
    refine go_wantp rfl rfl rfl hg_3 rfl rfl (o_len Try.runUnderlying79 rfl) ?_
    refine go_wantp rfl rfl rfl hg_3 rfl rfl (o_cmp rfl rfl rfl) ?_
    refine go_p rfl rfl rfl (o_pickT rfl hg_3 rfl) ?_
    exact go_meet hk3 (rfl) ⟨rfl, rfl, rfl, trivial⟩
  · intro hg_3 hk3
    refine go_skip rfl rfl rfl hg_3 rfl rfl ?_
    refine go_skip rfl rfl rfl hg_3 rfl rfl ?_
    refine go_skip rfl rfl rfl hg_3 rfl rfl ?_
    refine go_p rfl rfl rfl (o_pickF rfl hg_3 rfl) ?_
    exact go_meet hk3 (rfl) ⟨rfl, rfl, rfl, trivial⟩
  refine go_p rfl rfl rfl (o_move rfl) ?_
  obtain ⟨p1, hp_4, hm⟩ := bind_some hm
  refine go_two [(4, _), (6, _)] 6 50 p1 (t := 44) ⟨rfl, rfl, trivial⟩ rfl (fun hg_4 hk4 => ?_) (fun hg_4 hk4 => ?_) ?_
  · replace hp_4 := cond_t hg_4 hp_4
    refine go_wantp rfl rfl rfl hg_4 rfl rfl (o_move rfl) ?_
    obtain ⟨x7, hx4, hp_4⟩ := bind_some hp_4
    refine go_wantp rfl rfl rfl hg_4 rfl rfl (o_indexAddr_m Try.runUnderlying79 Try.sizeOf90 rfl rfl hx4) ?_
    refine go_wantp rfl rfl rfl hg_4 rfl rfl (o_load_agg Try.isAgg90 Try.sizeOf90 rfl rfl) ?_
    refine go_wantp rfl rfl rfl hg_4 rfl rfl (o_build (zs := [.v (.int .i64 0), .v (.int .i64 0)]) Try.runUnderlying90 Try.zeroValue90 (pl_90 _ Try.runUnderlying90) rfl rfl rfl rfl) ?_
    refine go_wantp rfl rfl rfl hg_4 rfl rfl (o_eqagg (ks := [.int, .int]) Try.underlying90 (by kernel_rfl) (by kernel_rfl) (eqf_90 _ Try.underlying90) rfl rfl rfl) ?_
    refine go_p rfl rfl rfl (o_pickT rfl hg_4 rfl) ?_
    exact go_meet hk4 (congrArg (fun b => some (D.bool b)) (some_eq hp_4)) ⟨rfl, rfl, trivial⟩
  · replace hp_4 := cond_f hg_4 hp_4
    refine go_skip rfl rfl rfl hg_4 rfl rfl ?_
    refine go_skip rfl rfl rfl hg_4 rfl rfl ?_
    refine go_skip rfl rfl rfl hg_4 rfl rfl ?_
    refine go_skip rfl rfl rfl hg_4 rfl rfl ?_
    refine go_skip rfl rfl rfl hg_4 rfl rfl ?_
    refine go_p rfl rfl rfl (o_pickF rfl hg_4 rfl) ?_
    exact go_meet hk4 (congrArg (fun b => some (D.bool b)) (some_eq hp_4)) ⟨rfl, rfl, trivial⟩
  refine go_p rfl rfl rfl (o_move rfl) ?_
  obtain ⟨p2, hp_5, hm⟩ := bind_some hm
  refine go_two [(6, _)] 8 59 p2 (t := 51) ⟨rfl, trivial⟩ rfl (fun hg_5 hk5 => ?_) (fun hg_5 hk5 => ?_) ?_
  · replace hp_5 := cond_t hg_5 hp_5
    refine go_wantp rfl rfl rfl hg_5 rfl rfl (o_fieldAddr_box fi_77_0 rfl) ?_
    refine go_wantp rfl rfl rfl hg_5 rfl rfl (o_load_box 1 Try.isAgg75 rfl rfl rfl rfl) ?_
    obtain ⟨x8, hx5, hp_5⟩ := bind_some hp_5
    refine go_wantp rfl rfl rfl hg_5 rfl rfl (o_indexAddr_m Try.runUnderlying75 Try.sizeOf135 rfl rfl hx5) ?_
    refine go_wantp rfl rfl rfl hg_5 rfl rfl (o_fieldAddr fi_135_8 rfl rfl rfl) ?_
    refine go_wantp rfl rfl rfl hg_5 rfl rfl (o_load Try.isAgg28 rfl rfl) ?_
    refine go_wantp rfl rfl rfl hg_5 rfl rfl (o_len Try.runUnderlying28 rfl) ?_
    refine go_wantp rfl rfl rfl hg_5 rfl rfl (o_cmp rfl rfl rfl) ?_
    refine go_p rfl rfl rfl (o_pickT rfl hg_5 rfl) ?_
    exact go_meet hk5 (congrArg (fun b => some (D.bool b)) (some_eq hp_5)) ⟨rfl, trivial⟩
  · replace hp_5 := cond_f hg_5 hp_5
    refine go_skip rfl rfl rfl hg_5 rfl rfl ?_
    refine go_skip rfl rfl rfl hg_5 rfl rfl ?_
    refine go_skip rfl rfl rfl hg_5 rfl rfl ?_
    refine go_skip rfl rfl rfl hg_5 rfl rfl ?_
    refine go_skip rfl rfl rfl hg_5 rfl rfl ?_
    refine go_skip rfl rfl rfl hg_5 rfl rfl ?_
    refine go_skip rfl rfl rfl hg_5 rfl rfl ?_
    refine go_p rfl rfl rfl (o_pickF rfl hg_5 rfl) ?_
    exact go_meet hk5 (congrArg (fun b => some (D.bool b)) (some_eq hp_5)) ⟨rfl, trivial⟩
  refine go_p rfl rfl rfl (o_move rfl) ?_
  obtain ⟨p3, hp_6, hm⟩ := bind_some hm
  refine go_two [] 9 69 p3 (t := 60) trivial rfl (fun hg_6 hk6 => ?_) (fun hg_6 hk6 => ?_) ?_
  · replace hp_6 := cond_t hg_6 hp_6
    refine go_wantp rfl rfl rfl hg_6 rfl rfl (o_fieldAddr_box fi_77_0 rfl) ?_
    refine go_wantp rfl rfl rfl hg_6 rfl rfl (o_load_box 0 Try.isAgg75 rfl rfl rfl rfl) ?_
    obtain ⟨x9, hx6, hp_6⟩ := bind_some hp_6
    refine go_wantp rfl rfl rfl hg_6 rfl rfl (o_indexAddr_m Try.runUnderlying75 Try.sizeOf135 rfl rfl hx6) ?_
    refine go_wantp rfl rfl rfl hg_6 rfl rfl (o_fieldAddr fi_135_8 rfl rfl rfl) ?_
    refine go_wantp rfl rfl rfl hg_6 rfl rfl (o_load Try.isAgg28 rfl rfl) ?_
    obtain ⟨x10, hx7, hp_6⟩ := bind_some hp_6
    refine go_wantp rfl rfl rfl hg_6 rfl rfl (o_indexAddr_m Try.runUnderlying28 Try.sizeOf3 rfl rfl hx7) ?_
    refine go_wantp rfl rfl rfl hg_6 rfl rfl (o_load Try.isAgg3 rfl rfl) ?_
    refine go_wantp rfl rfl rfl hg_6 rfl rfl (o_cmp rfl rfl rfl) ?_
    refine go_p rfl rfl rfl (o_pickT rfl hg_6 rfl) ?_
    exact go_meet hk6 (congrArg (fun b => some (D.bool b)) (some_eq hp_6)) trivial
  · replace hp_6 := cond_f hg_6 hp_6
    refine go_skip rfl rfl rfl hg_6 rfl rfl ?_
    refine go_skip rfl rfl rfl hg_6 rfl rfl ?_
    refine go_skip rfl rfl rfl hg_6 rfl rfl ?_
    refine go_skip rfl rfl rfl hg_6 rfl rfl ?_
    refine go_skip rfl rfl rfl hg_6 rfl rfl ?_
    refine go_skip rfl rfl rfl hg_6 rfl rfl ?_
    refine go_skip rfl rfl rfl hg_6 rfl rfl ?_
    refine go_skip rfl rfl rfl hg_6 rfl rfl ?_
    refine go_p rfl rfl rfl (o_pickF rfl hg_6 rfl) ?_
    exact go_meet hk6 (congrArg (fun b => some (D.bool b)) (some_eq hp_6)) trivial
  refine go_p rfl rfl rfl (o_assign rfl) ?_
  refine go_nil ?_
  refine g_ret ?_
  exact retK (ret_one' rfl (ret_tmp rfl) (perm_drop _)) (congrArg (fun (p : Bool) => (.bool p : D)) (some_eq hm))
def m_syntagmabase_HasInt_l1 (l1 : (List Int)) (n1 : Int) : Nat → Int → Option (Out Bool Unit)
  | 0, _ => none
  | n + 1, i1 =>
    bif (decide (i1 < (l1.length : Int))) then
      (idx l1 i1).bind fun x1 =>
      bif (decide (x1 = n1)) then
        some (Out.ret true)
      else
        grd (InR (i1 + 1)) <|
        m_syntagmabase_HasInt_l1 l1 n1 n (i1 + 1)
    else
      some (Out.go (()))
def m_syntagmabase_HasInt (l1 : (List Int)) (n1 : Int) : Option Bool :=
  ((m_syntagmabase_HasInt_l1 l1 n1 FU 0 : Option (Out Bool Unit))).bind (fun oo => oo.on (fun r1 => some r1) (fun _ =>
  some false))
theorem w_syntagmabase_HasInt {l1 : (List Int)} {n1 : Int} {r_1 : Bool} (hm : m_syntagmabase_HasInt l1 n1 = some r_1) : Fn0 Try.prog 97 [.list 1 D.i64 l1, .i64 n1] (.bool r_1) := by
  unfold m_syntagmabase_HasInt at hm
  refine fn_intro Try.func97 rfl Try.ntmps97 rfl fun H0 fr w0 => ?_
  refine g_seq ?_
  refine g_region ?_
  refine go_p rfl rfl rfl (o_assign rfl) ?_
  refine go_nil ?_
  refine g_seq ?_
  refine g_seq ?_
  refine g_region ?_
  refine go_p rfl rfl rfl (o_assign rfl) ?_
  refine go_nil ?_
  obtain ⟨o_1, hj1, hm1⟩ := bind_some hm
  refine g_cut_m [] [] (fun (st : Unit) (hid : Unit) => match st, hid with | _, _ => []) (fun F (st : Unit) (hid : Unit) => match st, hid with | _, _ => []) (fun st => Out.go (st) = o_1) trivial trivial ?_ ?_
  · skip
    refine g_block ?_
    refine g_loop_m [(0, _), (1, _)] [] (fun (st : Int) (hid : Unit) => match st, hid with | i1, _ => [(5, .i64 i1)]) (fun F (st : Int) (hid : Unit) => match st, hid with | i1, _ => []) () hj1 (fun _ => rfl) ⟨rfl, rfl, trivial⟩ trivial ⟨rfl, trivial⟩ rfl ?_
    rintro n i1 _ hj1
    rw [m_syntagmabase_HasInt_l1] at hj1
    refine g_norm (L' := [(5, .i64 i1), (0, _), (1, _)]) (ms' := []) rfl rfl ?_
    refine g_seq ?_
    refine g_seq ?_
    refine g_region ?_
    refine go_p rfl rfl rfl (o_move rfl) ?_
    refine go_p rfl rfl rfl (o_move rfl) ?_
    refine go_p rfl rfl rfl (o_len Try.runUnderlying28 rfl) ?_
    refine go_p rfl rfl rfl (o_cmp rfl rfl rfl) ?_
    refine go_nil ?_
    refine g_cond rfl (fun hc1 => ?_) (fun hc1 => ?_)
    · replace hj1 := cond_t hc1 hj1
      refine g_skip ?_
      refine g_seq ?_
      refine g_block ?_
      refine g_seq ?_
      refine g_region ?_
      refine go_p rfl rfl rfl (o_move rfl) ?_
      refine go_p rfl rfl rfl (o_move rfl) ?_
      obtain ⟨x1, hx1, hj1⟩ := bind_some hj1
      refine go_p rfl rfl rfl (o_indexAddr_m Try.runUnderlying28 Try.sizeOf3 rfl rfl hx1) ?_
      refine go_p rfl rfl rfl (o_load Try.isAgg3 rfl rfl) ?_
      refine go_p rfl rfl rfl (o_move rfl) ?_
      refine go_p rfl rfl rfl (o_cmp rfl rfl rfl) ?_
      refine go_nil ?_
      refine g_cond rfl (fun hc2 => ?_) (fun hc2 => ?_)
      · replace hj1 := cond_t hc2 hj1
        refine g_seq ?_
        refine g_region ?_
        refine go_p rfl rfl rfl (o_assign rfl) ?_
        refine go_nil ?_
        refine g_ret ?_
        obtain rfl := some_eq hj1
        replace hm1 := on_ret hm1
        exact retK (ret_one' rfl (ret_tmp rfl) (perm_drop _)) (congrArg (fun (p : Bool) => (.bool p : D)) (some_eq hm1))
      · replace hj1 := cond_f hc2 hj1
        refine g_skip ?_
        refine g_region ?_
        refine go_p rfl rfl rfl (o_move rfl) ?_
        obtain ⟨hg2, hj1⟩ := grd_some hj1
        refine go_p rfl rfl rfl (o_add rfl rfl (i64_id hg2)) ?_
        refine go_p rfl rfl rfl (o_assign rfl) ?_
        refine go_nil ?_
        exact ⟨_, (), hj1, ⟨rfl, trivial⟩, ⟨rfl, rfl, trivial⟩, [], rfl⟩
    · replace hj1 := cond_f hc1 hj1
      refine g_exit ?_
      exact ⟨_, (), some_eq hj1, trivial, trivial, [], rfl⟩
  · rintro _ _ hst
    subst hst
    replace hm1 := on_go hm1
    refine k_norm (L' := []) (ms' := []) rfl rfl ?_
    refine g_seq ?_
    refine g_region ?_
    refine go_p rfl rfl rfl (o_assign rfl) ?_
    refine go_nil ?_
    refine g_ret ?_
    exact retK (ret_one' rfl (ret_tmp rfl) (perm_drop _)) (congrArg (fun (p : Bool) => (.bool p : D)) (some_eq hm1))
def m_syntagmaref24_Moved_l1 (s1 : AutoState) (to1 : (List Int)) : Nat → (Int × (List AutoEdge) × (List AutoEdge) × Bool × Bool × Bool × Bool × Bool × Bool × Bool × Bool × (List Int) × Int × Int) → Option ((List AutoEdge) × (List AutoEdge) × Bool × Bool × Bool × Bool × Bool × Bool × Bool × Bool × (List Int) × Int × Int)
  | 0, _ => none
  | n + 1, (i1, l3, l4, z25, z26, z27, z28, z29, z30, z31, z32, z33, z34, z35) =>
    bif (decide (i1 < (s1.fields.length : Int))) then
      (idx s1.fields i1).bind fun x3 =>
      (idx s1.fields i1).bind fun x4 =>
      (idx to1 x4.to_).bind fun x5 =>
      grd ((l4.length + ([(⟨x3.name, x5⟩ : AutoEdge)] : List _).length) * 24 ≤ 140737488355328) <|
      grd (InR (i1 + 1)) <|
      m_syntagmaref24_Moved_l1 s1 to1 n ((i1 + 1), l3, (l4 ++ [(⟨x3.name, x5⟩ : AutoEdge)]), z25, z26, z27, z28, z29, z30, z31, z32, z33, z34, z35)
    else
      some (l3, l4, z25, z26, z27, z28, z29, z30, z31, z32, z33, z34, z35)
def m_syntagmaref24_Moved_l2 (s1 : AutoState) (to1 : (List Int)) : Nat → (Int × (List AutoEdge) × (List AutoEdge) × Bool × Bool × Bool × Bool × Bool × Bool × Bool × Bool × (List Int) × Int × Int) → Option ((List AutoEdge) × (List AutoEdge) × Bool × Bool × Bool × Bool × Bool × Bool × Bool × Bool × (List Int) × Int × Int)
  | 0, _ => none
  | n + 1, (i2, l7, l8, z47, z48, z49, z50, z51, z52, z53, z54, z55, z56, z57) =>
    bif (decide (i2 < (s1.tags.length : Int))) then
      (idx s1.tags i2).bind fun x6 =>
      (idx s1.tags i2).bind fun x7 =>
      (idx to1 x7.to_).bind fun x8 =>
      grd ((l7.length + ([(⟨x6.name, x8⟩ : AutoEdge)] : List _).length) * 24 ≤ 140737488355328) <|
      grd (InR (i2 + 1)) <|
      m_syntagmaref24_Moved_l2 s1 to1 n ((i2 + 1), (l7 ++ [(⟨x6.name, x8⟩ : AutoEdge)]), l8, z47, z48, z49, z50, z51, z52, z53, z54, z55, z56, z57)
    else
      some (l7, l8, z47, z48, z49, z50, z51, z52, z53, z54, z55, z56, z57)
def m_syntagmaref24_Moved (s1 : AutoState) (to1 : (List Int)) : Option AutoState :=
  (bif s1.arrow then
    (idx to1 s1.dom).bind fun x1 =>
    (idx to1 s1.cod).bind fun x2 =>
    some (s1.plus, s1.all, s1.int, s1.bool, s1.str, s1.arrow, s1.rec_, s1.tag, s1.vars, x1, x2, s1.fields, s1.tags)
  else
    some (s1.plus, s1.all, s1.int, s1.bool, s1.str, s1.arrow, s1.rec_, s1.tag, s1.vars, s1.dom, s1.cod, s1.fields, s1.tags) : Option (Bool × Bool × Bool × Bool × Bool × Bool × Bool × Bool × (List Int) × Int × Int × (List AutoEdge) × (List AutoEdge))).bind fun (z1, z2, z3, z4, z5, z6, z7, z8, z9, z10, z11, z12, z13) =>
  (m_syntagmaref24_Moved_l1 s1 to1 FU (0, ([] : List AutoEdge), ([] : List AutoEdge), z1, z2, z3, z4, z5, z6, z7, z8, z9, z10, z11) : Option ((List AutoEdge) × (List AutoEdge) × Bool × Bool × Bool × Bool × Bool × Bool × Bool × Bool × (List Int) × Int × Int)).bind fun (l1, l2, z14, z15, z16, z17, z18, z19, z20, z21, z22, z23, z24) =>
  (m_syntagmaref24_Moved_l2 s1 to1 FU (0, l1, l2, z14, z15, z16, z17, z18, z19, z20, z21, z22, z23, z24) : Option ((List AutoEdge) × (List AutoEdge) × Bool × Bool × Bool × Bool × Bool × Bool × Bool × Bool × (List Int) × Int × Int)).bind fun (l5, l6, z36, z37, z38, z39, z40, z41, z42, z43, z44, z45, z46) =>
  some (⟨z36, z37, z38, z39, z40, z41, z42, z43, z44, z45, z46, l6, l5⟩ : AutoState)
theorem w_syntagmaref24_Moved {s1 : AutoState} {to1 : (List Int)} {r_1 : AutoState} (hm : m_syntagmaref24_Moved s1 to1 = some r_1) : Fn0 Try.prog 98 [AutoState.d s1, .list 1 D.i64 to1] (AutoState.d r_1) := by
  unfold m_syntagmaref24_Moved at hm
  refine fn_intro Try.func98 rfl Try.ntmps98 rfl fun H0 fr w0 => ?_
  refine g_seq ?_
  refine g_region ?_
  refine go_p rfl rfl rfl (o_box rfl rfl) ?_
  refine go_op rfl rfl rfl (o_alloc_own Try.zeroValue132 (cs := [.bool false, .bool false, .bool false, .bool false, .bool false, .bool false, .bool false, .bool false, .list 1 D.i64 [], .i64 0, .i64 0, .list 2 AutoEdge.d [], .list 2 AutoEdge.d []]) rfl) ?_
  rintro _ _ ⟨b1, rfl, rfl⟩
  refine go_nil ?_
  refine g_seq ?_
  refine g_region ?_
  refine go_p rfl rfl rfl (o_load_agg Try.isAgg132 Try.sizeOf132 rfl rfl) ?_
  refine go_op rfl rfl rfl (o_alloc_own Try.zeroValue132 (cs := [.bool false, .bool false, .bool false, .bool false, .bool false, .bool false, .bool false, .bool false, .list 1 D.i64 [], .i64 0, .i64 0, .list 2 AutoEdge.d [], .list 2 AutoEdge.d []]) rfl) ?_
  rintro _ _ ⟨b2, rfl, rfl⟩
  refine go_u rfl rfl (o_store_box 0 Try.sizeOf132 rfl rfl rfl rfl rfl rfl rfl rfl (Nat.le_of_ble_eq_true rfl)) ?_
  rintro _ _ rfl
  refine go_ms (ms' := [box b2 132 [_, _, _, _, _, _, _, _, _, _, _, _, _], box b1 132 [_, _, _, _, _, _, _, _, _, _, _, _, _]]) rfl ?_
  refine go_nil ?_
  refine g_seq ?_
  refine g_seq ?_
  refine g_region ?_
  refine go_p rfl rfl rfl (o_fieldAddr fi_132_5 rfl rfl rfl) ?_
  refine go_p rfl rfl rfl (o_load Try.isAgg4 rfl rfl) ?_
  refine go_nil ?_
  obtain ⟨o_1, hj1, hm1⟩ := bind_some hm
  refine g_cut_m [(1, _), (2, _), (4, _), (5, _)] [(1, _)] (fun (st : (Bool × Bool × Bool × Bool × Bool × Bool × Bool × Bool × (List Int) × Int × Int × (List AutoEdge) × (List AutoEdge))) (hid : Unit) => match st, hid with | (z1, z2, z3, z4, z5, z6, z7, z8, z9, z10, z11, z12, z13), _ => []) (fun F (st : (Bool × Bool × Bool × Bool × Bool × Bool × Bool × Bool × (List Int) × Int × Int × (List AutoEdge) × (List AutoEdge))) (hid : Unit) => match st, hid with | (z1, z2, z3, z4, z5, z6, z7, z8, z9, z10, z11, z12, z13), _ => [box b2 132 [.bool z1, .bool z2, .bool z3, .bool z4, .bool z5, .bool z6, .bool z7, .bool z8, .list 1 D.i64 z9, .i64 z10, .i64 z11, .list 2 AutoEdge.d z12, .list 2 AutoEdge.d z13], (nthF F 0)]) (fun st => st = o_1) ⟨rfl, rfl, rfl, rfl, trivial⟩ ⟨rfl, trivial⟩ ?_ ?_
  · skip
    refine g_cond rfl (fun hc1 => ?_) (fun hc1 => ?_)
    · replace hj1 := cond_t hc1 hj1
      obtain ⟨x1, hx1, hj1⟩ := bind_some hj1
      obtain ⟨x2, hx2, hj1⟩ := bind_some hj1
      refine g_draw_c [11, 13] [5, 6, 7, 8, 9, 12] [] Try_mixed (by decide +kernel) (by decide +kernel) rfl ?_
      refine gde_p rfl rfl rfl rfl rfl rfl (o_move rfl) ?_
      refine gde_p rfl rfl rfl rfl rfl rfl (o_fieldAddr fi_132_9 rfl rfl rfl) ?_
      refine gde_p rfl rfl rfl rfl rfl rfl (o_load Try.isAgg3 rfl rfl) ?_
      refine gde_p rfl rfl rfl rfl rfl rfl (o_indexAddr_m Try.runUnderlying28 Try.sizeOf3 rfl rfl hx1) ?_
      refine gde_p rfl rfl rfl rfl rfl rfl (o_load Try.isAgg3 rfl rfl) ?_
      refine gde_p rfl rfl rfl rfl rfl rfl (o_move rfl) ?_
      refine gde_p rfl rfl rfl rfl rfl rfl (o_fieldAddr fi_132_10 rfl rfl rfl) ?_
      refine gde_p rfl rfl rfl rfl rfl rfl (o_load Try.isAgg3 rfl rfl) ?_
      refine gde_p rfl rfl rfl rfl rfl rfl (o_indexAddr_m Try.runUnderlying28 Try.sizeOf3 rfl rfl hx2) ?_
      refine gde_p rfl rfl rfl rfl rfl rfl (o_load Try.isAgg3 rfl rfl) ?_
      refine gde_p rfl rfl rfl rfl rfl rfl (o_fieldAddr_box fi_132_9 rfl) ?_
      refine gde_e rfl ?_
      refine gde_p rfl rfl rfl rfl rfl rfl (o_fieldAddr_box fi_132_10 rfl) ?_
      refine gde_e rfl ?_
      refine gde_nil ?_
      refine gde2_u rfl rfl rfl (o_store_box 0 Try.sizeOf3 rfl rfl rfl rfl rfl rfl rfl rfl (Nat.le_of_ble_eq_true rfl)) ?_
      rintro _ _ rfl
      refine ⟨(trivial : True), ?_⟩
      refine gde2_u rfl rfl rfl (o_store_box 0 Try.sizeOf3 rfl rfl rfl rfl rfl rfl rfl rfl (Nat.le_of_ble_eq_true rfl)) ?_
      rintro _ _ rfl
      refine ⟨(trivial : True), ?_⟩
      refine gde2_nil ?_
      exact ⟨_, (), some_eq hj1, trivial, ⟨rfl, rfl, rfl, rfl, trivial⟩, [], rfl⟩
    · replace hj1 := cond_f hc1 hj1
      refine g_skip ?_
      exact ⟨_, (), some_eq hj1, trivial, ⟨rfl, rfl, rfl, rfl, trivial⟩, [], rfl⟩
  · rintro ⟨z1, z2, z3, z4, z5, z6, z7, z8, z9, z10, z11, z12, z13⟩ _ hst
    subst hst
    refine k_norm (L' := [(1, _), (2, _), (4, _), (5, _)]) (ms' := [box b2 132 [.bool z1, .bool z2, .bool z3, .bool z4, .bool z5, .bool z6, .bool z7, .bool z8, .list 1 D.i64 z9, .i64 z10, .i64 z11, .list 2 AutoEdge.d z12, .list 2 AutoEdge.d z13], _]) rfl rfl ?_
    refine g_seq ?_
    refine g_region ?_
    refine go_p rfl rfl rfl (o_fieldAddr_box fi_132_11 rfl) ?_
    refine go_u rfl rfl (o_store_box 0 Try.sizeOf130 rfl rfl rfl rfl rfl rfl rfl rfl (Nat.le_of_ble_eq_true rfl)) ?_
    rintro _ _ rfl
    refine go_conv (refines_newrow (T := 137) (sz := 2) (f := AutoEdge.d)) ?_
    refine go_ms (ms' := [_, box b2 132 [_, _, _, _, _, _, _, _, _, _, _, _, _], box b1 132 [_, _, _, _, _, _, _, _, _, _, _, _, _]]) rfl ?_
    refine go_p rfl rfl rfl (o_fieldAddr_box fi_132_12 rfl) ?_
    refine go_u rfl rfl (o_store_box 1 Try.sizeOf130 rfl rfl rfl rfl rfl rfl rfl rfl (Nat.le_of_ble_eq_true rfl)) ?_
    rintro _ _ rfl
    refine go_conv (refines_newrow (T := 137) (sz := 2) (f := AutoEdge.d)) ?_
    refine go_ms (ms' := [_, _, box b2 132 [_, _, _, _, _, _, _, _, _, _, _, _, _], box b1 132 [_, _, _, _, _, _, _, _, _, _, _, _, _]]) rfl ?_
    refine go_nil ?_
    refine g_seq ?_
    refine g_seq ?_
    refine g_region ?_
    refine go_p rfl rfl rfl (o_assign rfl) ?_
    refine go_nil ?_
    obtain ⟨o_2, hj2, hm2⟩ := bind_some hm1
    refine g_cut_m [(1, _), (2, _), (4, _), (5, _)] [(3, _)] (fun (st : ((List AutoEdge) × (List AutoEdge) × Bool × Bool × Bool × Bool × Bool × Bool × Bool × Bool × (List Int) × Int × Int)) (hid : (Option Addr × Nat) × (Option Addr × Nat)) => match st, hid with | (l1, l2, z14, z15, z16, z17, z18, z19, z20, z21, z22, z23, z24), ((a_r2, cap_r2), (a_r1, cap_r1)) => []) (fun F (st : ((List AutoEdge) × (List AutoEdge) × Bool × Bool × Bool × Bool × Bool × Bool × Bool × Bool × (List Int) × Int × Int)) (hid : (Option Addr × Nat) × (Option Addr × Nat)) => match st, hid with | (l1, l2, z14, z15, z16, z17, z18, z19, z20, z21, z22, z23, z24), ((a_r2, cap_r2), (a_r1, cap_r1)) => [row a_r2 cap_r2 137 2 AutoEdge.d l1, row a_r1 cap_r1 137 2 AutoEdge.d l2, box b2 132 [.bool z14, .bool z15, .bool z16, .bool z17, .bool z18, .bool z19, .bool z20, .bool z21, .list 1 D.i64 z22, .i64 z23, .i64 z24, .v (.slice a_r1 l2.length cap_r1), .v (.slice a_r2 l1.length cap_r2)], (nthF F 0)]) (fun st => st = o_2) ⟨rfl, rfl, rfl, rfl, trivial⟩ ⟨rfl, trivial⟩ ?_ ?_
    · skip
      refine g_block ?_
      refine g_loop_m [(1, _), (2, _), (4, _), (5, _)] [(3, _)] (fun (st : (Int × (List AutoEdge) × (List AutoEdge) × Bool × Bool × Bool × Bool × Bool × Bool × Bool × Bool × (List Int) × Int × Int)) (hid : (Option Addr × Nat) × (Option Addr × Nat)) => match st, hid with | (i1, l3, l4, z25, z26, z27, z28, z29, z30, z31, z32, z33, z34, z35), ((a_r2, cap_r2), (a_r1, cap_r1)) => [(6, .i64 i1)]) (fun F (st : (Int × (List AutoEdge) × (List AutoEdge) × Bool × Bool × Bool × Bool × Bool × Bool × Bool × Bool × (List Int) × Int × Int)) (hid : (Option Addr × Nat) × (Option Addr × Nat)) => match st, hid with | (i1, l3, l4, z25, z26, z27, z28, z29, z30, z31, z32, z33, z34, z35), ((a_r2, cap_r2), (a_r1, cap_r1)) => [row a_r2 cap_r2 137 2 AutoEdge.d l3, row a_r1 cap_r1 137 2 AutoEdge.d l4, box b2 132 [.bool z25, .bool z26, .bool z27, .bool z28, .bool z29, .bool z30, .bool z31, .bool z32, .list 1 D.i64 z33, .i64 z34, .i64 z35, .v (.slice a_r1 l4.length cap_r1), .v (.slice a_r2 l3.length cap_r2)], (nthF F 0)]) ((_, _), (_, _)) hj2 (fun _ => rfl) ⟨rfl, rfl, rfl, rfl, trivial⟩ ⟨rfl, trivial⟩ ⟨rfl, trivial⟩ rfl ?_
      rintro n ⟨i1, l3, l4, z25, z26, z27, z28, z29, z30, z31, z32, z33, z34, z35⟩ ⟨⟨a_r2, cap_r2⟩, ⟨a_r1, cap_r1⟩⟩ hj2
      rw [m_syntagmaref24_Moved_l1] at hj2
      refine g_norm (L' := [(6, .i64 i1), (1, _), (2, _), (4, _), (5, _)]) (ms' := [row a_r2 cap_r2 137 2 AutoEdge.d l3, row a_r1 cap_r1 137 2 AutoEdge.d l4, box b2 132 [.bool z25, .bool z26, .bool z27, .bool z28, .bool z29, .bool z30, .bool z31, .bool z32, .list 1 D.i64 z33, .i64 z34, .i64 z35, .v (.slice a_r1 l4.length cap_r1), .v (.slice a_r2 l3.length cap_r2)], _]) rfl rfl ?_
      refine g_seq ?_
      refine g_seq ?_
      refine g_region ?_
      refine go_p rfl rfl rfl (o_move rfl) ?_
      refine go_p rfl rfl rfl (o_fieldAddr fi_132_11 rfl rfl rfl) ?_
      refine go_p rfl rfl rfl (o_load Try.isAgg130 rfl rfl) ?_
      refine go_p rfl rfl rfl (o_len Try.runUnderlying130 rfl) ?_
      refine go_p rfl rfl rfl (o_cmp rfl rfl rfl) ?_
      refine go_nil ?_
      refine g_cond rfl (fun hc2 => ?_) (fun hc2 => ?_)
      · replace hj2 := cond_t hc2 hj2
        refine g_skip ?_
        refine g_seq ?_
        refine g_block ?_
        obtain ⟨x3, hx3, hj2⟩ := bind_some hj2
        obtain ⟨x4, hx4, hj2⟩ := bind_some hj2
        obtain ⟨x5, hx5, hj2⟩ := bind_some hj2
        refine g_draw 19 Try_mixed (by decide +kernel) ?_
        refine gd_p rfl rfl rfl (o_fieldAddr_box fi_132_11 rfl) ?_
        refine gd_p rfl rfl rfl (o_load_box 2 Try.isAgg130 rfl rfl rfl rfl) ?_
        refine gd_p rfl rfl rfl (o_fieldAddr fi_132_11 rfl rfl rfl) ?_
        refine gd_p rfl rfl rfl (o_load Try.isAgg130 rfl rfl) ?_
        refine gd_p rfl rfl rfl (o_move rfl) ?_
        refine gd_p rfl rfl rfl (o_indexAddr_m Try.runUnderlying130 Try.sizeOf137 rfl rfl hx3) ?_
        refine gd_p rfl rfl rfl (o_fieldAddr fi_137_0 rfl rfl rfl) ?_
        refine gd_p rfl rfl rfl (o_load Try.isAgg9 rfl rfl) ?_
        refine gd_p rfl rfl rfl (o_move rfl) ?_
        refine gd_p rfl rfl rfl (o_fieldAddr fi_132_11 rfl rfl rfl) ?_
        refine gd_p rfl rfl rfl (o_load Try.isAgg130 rfl rfl) ?_
        refine gd_p rfl rfl rfl (o_move rfl) ?_
        refine gd_p rfl rfl rfl (o_indexAddr_m Try.runUnderlying130 Try.sizeOf137 rfl rfl hx4) ?_
        refine gd_p rfl rfl rfl (o_fieldAddr fi_137_1 rfl rfl rfl) ?_
        refine gd_p rfl rfl rfl (o_load Try.isAgg3 rfl rfl) ?_
        refine gd_p rfl rfl rfl (o_indexAddr_m Try.runUnderlying28 Try.sizeOf3 rfl rfl hx5) ?_
        refine gd_p rfl rfl rfl (o_load Try.isAgg3 rfl rfl) ?_
        refine gd_p rfl rfl rfl (o_build (zs := [.str [], .v (.int .i64 0)]) Try.runUnderlying137 Try.zeroValue137 (pl_137 _ Try.runUnderlying137) rfl rfl rfl rfl) ?_
        refine gd_p rfl rfl rfl (o_buildSlice (xs := [_]) (f := AutoEdge.d) (l := [(⟨x3.name, x5⟩ : AutoEdge)]) Try.runUnderlying130 Try.sizeOf137 Try.zeroValue137 rfl rfl rfl (fun _ => ⟨rfl, rfl, rfl⟩) rfl) ?_
        refine gd_nil ?_
        obtain ⟨hg6, hj2⟩ := grd_some hj2
        refine go_op rfl rfl rfl (o_append (a := _) 1 Try.underlying130 Try.type137 rfl rfl rfl rfl rfl rfl rfl (fun _ => rfl) (fun _ => rfl) hg6 (app_len hg6 rfl)) ?_
        rintro _ _ ⟨a_r1, cap_r1, rfl, rfl⟩
        refine go_ms (ms' := [_, _, box b2 132 [_, _, _, _, _, _, _, _, _, _, _, _, _], box b1 132 [_, _, _, _, _, _, _, _, _, _, _, _, _]]) rfl ?_
        refine go_p rfl rfl rfl (o_fieldAddr_box fi_132_11 rfl) ?_
        refine go_u rfl rfl (o_store_box 2 Try.sizeOf130 rfl rfl rfl rfl rfl rfl rfl rfl (Nat.le_of_ble_eq_true rfl)) ?_
        rintro _ _ rfl
        refine go_ms (ms' := [_, _, box b2 132 [_, _, _, _, _, _, _, _, _, _, _, _, _], box b1 132 [_, _, _, _, _, _, _, _, _, _, _, _, _]]) rfl ?_
        refine go_nil ?_
        refine g_region ?_
        refine go_p rfl rfl rfl (o_move rfl) ?_
        obtain ⟨hg7, hj2⟩ := grd_some hj2
        refine go_p rfl rfl rfl (o_add rfl rfl (i64_id hg7)) ?_
        refine go_p rfl rfl rfl (o_assign rfl) ?_
        refine go_nil ?_
        exact ⟨_, ((_, _), (_, _)), hj2, ⟨rfl, trivial⟩, ⟨rfl, rfl, rfl, rfl, trivial⟩, [], rfl⟩
      · replace hj2 := cond_f hc2 hj2
        refine g_exit ?_
        exact ⟨_, ((_, _), (_, _)), some_eq hj2, trivial, ⟨rfl, rfl, rfl, rfl, trivial⟩, [], rfl⟩
    · rintro ⟨l1, l2, z14, z15, z16, z17, z18, z19, z20, z21, z22, z23, z24⟩ ⟨⟨a_r2, cap_r2⟩, ⟨a_r1, cap_r1⟩⟩ hst
      subst hst
      refine k_norm (L' := [(1, _), (2, _), (4, _), (5, _)]) (ms' := [row a_r2 cap_r2 137 2 AutoEdge.d l1, row a_r1 cap_r1 137 2 AutoEdge.d l2, box b2 132 [.bool z14, .bool z15, .bool z16, .bool z17, .bool z18, .bool z19, .bool z20, .bool z21, .list 1 D.i64 z22, .i64 z23, .i64 z24, .v (.slice a_r1 l2.length cap_r1), .v (.slice a_r2 l1.length cap_r2)], _]) rfl rfl ?_
      refine g_seq ?_
      refine g_seq ?_
      refine g_region ?_
      refine go_p rfl rfl rfl (o_assign rfl) ?_
      refine go_nil ?_
      obtain ⟨o_3, hj3, hm3⟩ := bind_some hm2
      refine g_cut_m [(4, _), (5, _)] [(3, _)] (fun (st : ((List AutoEdge) × (List AutoEdge) × Bool × Bool × Bool × Bool × Bool × Bool × Bool × Bool × (List Int) × Int × Int)) (hid : (Option Addr × Nat) × (Option Addr × Nat)) => match st, hid with | (l5, l6, z36, z37, z38, z39, z40, z41, z42, z43, z44, z45, z46), ((a_r2, cap_r2), (a_r1, cap_r1)) => []) (fun F (st : ((List AutoEdge) × (List AutoEdge) × Bool × Bool × Bool × Bool × Bool × Bool × Bool × Bool × (List Int) × Int × Int)) (hid : (Option Addr × Nat) × (Option Addr × Nat)) => match st, hid with | (l5, l6, z36, z37, z38, z39, z40, z41, z42, z43, z44, z45, z46), ((a_r2, cap_r2), (a_r1, cap_r1)) => [row a_r2 cap_r2 137 2 AutoEdge.d l5, row a_r1 cap_r1 137 2 AutoEdge.d l6, box b2 132 [.bool z36, .bool z37, .bool z38, .bool z39, .bool z40, .bool z41, .bool z42, .bool z43, .list 1 D.i64 z44, .i64 z45, .i64 z46, .v (.slice a_r1 l6.length cap_r1), .v (.slice a_r2 l5.length cap_r2)], (nthF F 0)]) (fun st => st = o_3) ⟨rfl, rfl, trivial⟩ ⟨rfl, trivial⟩ ?_ ?_
      · skip
        refine g_block ?_
        refine g_loop_m [(1, _), (2, _), (4, _), (5, _)] [(3, _)] (fun (st : (Int × (List AutoEdge) × (List AutoEdge) × Bool × Bool × Bool × Bool × Bool × Bool × Bool × Bool × (List Int) × Int × Int)) (hid : (Option Addr × Nat) × (Option Addr × Nat)) => match st, hid with | (i2, l7, l8, z47, z48, z49, z50, z51, z52, z53, z54, z55, z56, z57), ((a_r2, cap_r2), (a_r1, cap_r1)) => [(7, .i64 i2)]) (fun F (st : (Int × (List AutoEdge) × (List AutoEdge) × Bool × Bool × Bool × Bool × Bool × Bool × Bool × Bool × (List Int) × Int × Int)) (hid : (Option Addr × Nat) × (Option Addr × Nat)) => match st, hid with | (i2, l7, l8, z47, z48, z49, z50, z51, z52, z53, z54, z55, z56, z57), ((a_r2, cap_r2), (a_r1, cap_r1)) => [row a_r2 cap_r2 137 2 AutoEdge.d l7, row a_r1 cap_r1 137 2 AutoEdge.d l8, box b2 132 [.bool z47, .bool z48, .bool z49, .bool z50, .bool z51, .bool z52, .bool z53, .bool z54, .list 1 D.i64 z55, .i64 z56, .i64 z57, .v (.slice a_r1 l8.length cap_r1), .v (.slice a_r2 l7.length cap_r2)], (nthF F 0)]) ((_, _), (_, _)) hj3 (fun _ => rfl) ⟨rfl, rfl, rfl, rfl, trivial⟩ ⟨rfl, trivial⟩ ⟨rfl, trivial⟩ rfl ?_
        rintro n ⟨i2, l7, l8, z47, z48, z49, z50, z51, z52, z53, z54, z55, z56, z57⟩ ⟨⟨a_r2, cap_r2⟩, ⟨a_r1, cap_r1⟩⟩ hj3
        rw [m_syntagmaref24_Moved_l2] at hj3
        refine g_norm (L' := [(7, .i64 i2), (1, _), (2, _), (4, _), (5, _)]) (ms' := [row a_r2 cap_r2 137 2 AutoEdge.d l7, row a_r1 cap_r1 137 2 AutoEdge.d l8, box b2 132 [.bool z47, .bool z48, .bool z49, .bool z50, .bool z51, .bool z52, .bool z53, .bool z54, .list 1 D.i64 z55, .i64 z56, .i64 z57, .v (.slice a_r1 l8.length cap_r1), .v (.slice a_r2 l7.length cap_r2)], _]) rfl rfl ?_
        refine g_seq ?_
        refine g_seq ?_
        refine g_region ?_
        refine go_p rfl rfl rfl (o_move rfl) ?_
        refine go_p rfl rfl rfl (o_fieldAddr fi_132_12 rfl rfl rfl) ?_
        refine go_p rfl rfl rfl (o_load Try.isAgg130 rfl rfl) ?_
        refine go_p rfl rfl rfl (o_len Try.runUnderlying130 rfl) ?_
        refine go_p rfl rfl rfl (o_cmp rfl rfl rfl) ?_
        refine go_nil ?_
        refine g_cond rfl (fun hc3 => ?_) (fun hc3 => ?_)
        · replace hj3 := cond_t hc3 hj3
          refine g_skip ?_
          refine g_seq ?_
          refine g_block ?_
          obtain ⟨x6, hx8, hj3⟩ := bind_some hj3
          obtain ⟨x7, hx9, hj3⟩ := bind_some hj3
          obtain ⟨x8, hx10, hj3⟩ := bind_some hj3
          refine g_draw 19 Try_mixed (by decide +kernel) ?_
          refine gd_p rfl rfl rfl (o_fieldAddr_box fi_132_12 rfl) ?_
          refine gd_p rfl rfl rfl (o_load_box 2 Try.isAgg130 rfl rfl rfl rfl) ?_
          refine gd_p rfl rfl rfl (o_fieldAddr fi_132_12 rfl rfl rfl) ?_
          refine gd_p rfl rfl rfl (o_load Try.isAgg130 rfl rfl) ?_
          refine gd_p rfl rfl rfl (o_move rfl) ?_
          refine gd_p rfl rfl rfl (o_indexAddr_m Try.runUnderlying130 Try.sizeOf137 rfl rfl hx8) ?_
          refine gd_p rfl rfl rfl (o_fieldAddr fi_137_0 rfl rfl rfl) ?_
          refine gd_p rfl rfl rfl (o_load Try.isAgg9 rfl rfl) ?_
          refine gd_p rfl rfl rfl (o_move rfl) ?_
          refine gd_p rfl rfl rfl (o_fieldAddr fi_132_12 rfl rfl rfl) ?_
          refine gd_p rfl rfl rfl (o_load Try.isAgg130 rfl rfl) ?_
          refine gd_p rfl rfl rfl (o_move rfl) ?_
          refine gd_p rfl rfl rfl (o_indexAddr_m Try.runUnderlying130 Try.sizeOf137 rfl rfl hx9) ?_
          refine gd_p rfl rfl rfl (o_fieldAddr fi_137_1 rfl rfl rfl) ?_
          refine gd_p rfl rfl rfl (o_load Try.isAgg3 rfl rfl) ?_
          refine gd_p rfl rfl rfl (o_indexAddr_m Try.runUnderlying28 Try.sizeOf3 rfl rfl hx10) ?_
          refine gd_p rfl rfl rfl (o_load Try.isAgg3 rfl rfl) ?_
          refine gd_p rfl rfl rfl (o_build (zs := [.str [], .v (.int .i64 0)]) Try.runUnderlying137 Try.zeroValue137 (pl_137 _ Try.runUnderlying137) rfl rfl rfl rfl) ?_
          refine gd_p rfl rfl rfl (o_buildSlice (xs := [_]) (f := AutoEdge.d) (l := [(⟨x6.name, x8⟩ : AutoEdge)]) Try.runUnderlying130 Try.sizeOf137 Try.zeroValue137 rfl rfl rfl (fun _ => ⟨rfl, rfl, rfl⟩) rfl) ?_
          refine gd_nil ?_
          obtain ⟨hg11, hj3⟩ := grd_some hj3
          refine go_op rfl rfl rfl (o_append (a := _) 0 Try.underlying130 Try.type137 rfl rfl rfl rfl rfl rfl rfl (fun _ => rfl) (fun _ => rfl) hg11 (app_len hg11 rfl)) ?_
          rintro _ _ ⟨a_r2, cap_r2, rfl, rfl⟩
          refine go_ms (ms' := [_, _, box b2 132 [_, _, _, _, _, _, _, _, _, _, _, _, _], box b1 132 [_, _, _, _, _, _, _, _, _, _, _, _, _]]) rfl ?_
          refine go_p rfl rfl rfl (o_fieldAddr_box fi_132_12 rfl) ?_
          refine go_u rfl rfl (o_store_box 2 Try.sizeOf130 rfl rfl rfl rfl rfl rfl rfl rfl (Nat.le_of_ble_eq_true rfl)) ?_
          rintro _ _ rfl
          refine go_ms (ms' := [_, _, box b2 132 [_, _, _, _, _, _, _, _, _, _, _, _, _], box b1 132 [_, _, _, _, _, _, _, _, _, _, _, _, _]]) rfl ?_
          refine go_nil ?_
          refine g_region ?_
          refine go_p rfl rfl rfl (o_move rfl) ?_
          obtain ⟨hg12, hj3⟩ := grd_some hj3
          refine go_p rfl rfl rfl (o_add rfl rfl (i64_id hg12)) ?_
          refine go_p rfl rfl rfl (o_assign rfl) ?_
          refine go_nil ?_
          exact ⟨_, ((_, _), (_, _)), hj3, ⟨rfl, trivial⟩, ⟨rfl, rfl, rfl, rfl, trivial⟩, [], rfl⟩
        · replace hj3 := cond_f hc3 hj3
          refine g_exit ?_
          exact ⟨_, ((_, _), (_, _)), some_eq hj3, trivial, ⟨rfl, rfl, trivial⟩, [], rfl⟩
      · rintro ⟨l5, l6, z36, z37, z38, z39, z40, z41, z42, z43, z44, z45, z46⟩ ⟨⟨a_r2, cap_r2⟩, ⟨a_r1, cap_r1⟩⟩ hst
        subst hst
        refine k_norm (L' := [(4, _), (5, _)]) (ms' := [row a_r2 cap_r2 137 2 AutoEdge.d l5, row a_r1 cap_r1 137 2 AutoEdge.d l6, box b2 132 [.bool z36, .bool z37, .bool z38, .bool z39, .bool z40, .bool z41, .bool z42, .bool z43, .list 1 D.i64 z44, .i64 z45, .i64 z46, .v (.slice a_r1 l6.length cap_r1), .v (.slice a_r2 l5.length cap_r2)], _]) rfl rfl ?_
        refine g_seq ?_
        refine g_region ?_
        refine go_p rfl rfl rfl (o_load_box_agg 2 Try.isAgg132 Try.sizeOf132 rfl rfl rfl rfl (Nat.le_of_ble_eq_true rfl)) ?_
        refine go_conv (peekAggE (i := 81) (q := 11) 1 rfl rfl rfl rfl rfl).refines ?_
        refine go_conv (peekAggE (i := 81) (q := 12) 0 rfl rfl rfl rfl rfl).refines ?_
        refine go_u rfl rfl (o_store_box 3 Try.sizeOf132 rfl rfl rfl rfl rfl rfl rfl rfl (Nat.le_of_ble_eq_true rfl)) ?_
        rintro _ _ rfl
        refine go_ms (ms' := [_, _, box b2 132 [_, _, _, _, _, _, _, _, _, _, _, _, _], box b1 132 [_, _, _, _, _, _, _, _, _, _, _, _, _]]) rfl ?_
        refine go_nil ?_
        refine g_ret ?_
        exact retK (ret_one' rfl (ret_cell 3 rfl rfl rfl Try.isAgg132 Try.sizeOf132 rfl) (perm_drop _)) (congrArg (fun (p : AutoState) => (AutoState.d p : D)) (some_eq hm3))
def m_syntagmaref24_Norm_l2 (x3 : (List Int)) : Nat → (Int × (List Int)) → Option (List Int)
  | 0, _ => none
  | n + 1, (k1, l4) =>
    bif (decide (k1 < (x3.length : Int))) then
      (idx x3 k1).bind fun x4 =>
      (m_syntagmabase_HasInt l4 x4).bind fun x5 =>
      bif (!x5) then
        (idx x3 k1).bind fun x6 =>
        grd ((l4.length + ([x6] : List _).length) * 8 ≤ 140737488355328) <|
        grd (InR (k1 + 1)) <|
        m_syntagmaref24_Norm_l2 x3 n ((k1 + 1), (l4 ++ [x6]))
      else
        grd (InR (k1 + 1)) <|
        m_syntagmaref24_Norm_l2 x3 n ((k1 + 1), l4)
    else
      some l4
def m_syntagmaref24_Norm_l1 (a1 : AutoAuto) : Nat → (Int × (List Int)) → Option (List Int)
  | 0, _ => none
  | n + 1, (i1, l2) =>
    bif (decide (i1 < (l2.length : Int))) then
      (idx l2 i1).bind fun x1 =>
      (idx a1.l x1).bind fun x2 =>
      (m_syntagmaref24_Next x2).bind fun x3 =>
      (m_syntagmaref24_Norm_l2 x3 FU (0, l2) : Option (List Int)).bind fun l3 =>
      grd (InR (i1 + 1)) <|
      m_syntagmaref24_Norm_l1 a1 n ((i1 + 1), l3)
    else
      some l2
def m_syntagmaref24_Norm_l3 (l1 : (List Int)) : Nat → (Int × (List Int)) → Option (List Int)
  | 0, _ => none
  | n + 1, (i2, l6) =>
    bif (decide (i2 < (l1.length : Int))) then
      (idx l1 i2).bind fun x7 =>
      (idx l6 x7).bind fun x8 =>
      grd (InR (i2 + 1)) <|
      m_syntagmaref24_Norm_l3 l1 n ((i2 + 1), (l6.set (x7).toNat i2))
    else
      some l6
def m_syntagmaref24_Norm_l4 (a1 : AutoAuto) (l1 : (List Int)) (l5 : (List Int)) : Nat → (Int × (List AutoState) × Int) → Option ((List AutoState) × Int)
  | 0, _ => none
  | n + 1, (i3, l8, z2) =>
    bif (decide (i3 < (l1.length : Int))) then
      (idx l1 i3).bind fun x9 =>
      (idx a1.l x9).bind fun x10 =>
      (m_syntagmaref24_Moved x10 l5).bind fun x11 =>
      grd ((l8.length + ([x11] : List _).length) * 96 ≤ 140737488355328) <|
      grd (InR (i3 + 1)) <|
      m_syntagmaref24_Norm_l4 a1 l1 l5 n ((i3 + 1), (l8 ++ [x11]), z2)
    else
      some (l8, z2)
def m_syntagmaref24_Norm (a1 : AutoAuto) : Option AutoAuto :=
  (m_syntagmaref24_Norm_l1 a1 FU (0, [a1.start]) : Option (List Int)).bind fun l1 =>
  grd (0 ≤ (a1.l.length : Int)) <|
  grd (((a1.l.length : Int)).toNat * 8 ≤ 140737488355328) <|
  (m_syntagmaref24_Norm_l3 l1 FU (0, (List.replicate ((a1.l.length : Int)).toNat (0 : Int))) : Option (List Int)).bind fun l5 =>
  (m_syntagmaref24_Norm_l4 a1 l1 l5 FU (0, ([] : List AutoState), 0) : Option ((List AutoState) × Int)).bind fun (l7, z1) =>
  some (⟨l7, z1⟩ : AutoAuto)
theorem w_syntagmaref24_Norm {a1 : AutoAuto} {r_1 : AutoAuto} (hm : m_syntagmaref24_Norm a1 = some r_1) : Fn0 Try.prog 53 [AutoAuto.d a1] (AutoAuto.d r_1) := by
  unfold m_syntagmaref24_Norm at hm
  refine fn_intro Try.func53 rfl Try.ntmps53 rfl fun H0 fr w0 => ?_
  refine g_seq ?_
  refine g_region ?_
  refine go_p rfl rfl rfl (o_box rfl rfl) ?_
  refine go_op rfl rfl rfl (o_alloc_own Try.zeroValue74 (cs := [.list 13 AutoState.d [], .i64 0]) rfl) ?_
  rintro _ _ ⟨b1, rfl, rfl⟩
  refine go_nil ?_
  refine g_seq ?_
  refine g_region ?_
  refine go_p rfl rfl rfl (o_fieldAddr fi_74_1 rfl rfl rfl) ?_
  refine go_p rfl rfl rfl (o_load Try.isAgg3 rfl rfl) ?_
  refine go_op rfl rfl rfl (o_buildSlice_row (xs := [_]) (f := D.i64) (l := [_]) Try.runUnderlying28 Try.sizeOf3 Try.zeroValue3 rfl rfl rfl (fun _ => ⟨rfl, rfl, rfl⟩) rfl (by simp [maxLen])) ?_
  rintro _ _ ⟨a_r1, rfl, rfl⟩
  refine go_p rfl rfl rfl (o_assign rfl) ?_
  refine go_nil ?_
  refine g_seq ?_
  refine g_seq ?_
  refine g_region ?_
  refine go_p rfl rfl rfl (o_assign rfl) ?_
  refine go_nil ?_
  obtain ⟨o_1, hj1, hm1⟩ := bind_some hm
  refine g_cut_m [(1, _), (2, _)] [(1, _)] (fun (st : (List Int)) (hid : (Option Addr × Nat)) => match st, hid with | l1, (a_r1, cap_r1) => [(3, .v (.slice a_r1 l1.length cap_r1))]) (fun F (st : (List Int)) (hid : (Option Addr × Nat)) => match st, hid with | l1, (a_r1, cap_r1) => [row a_r1 cap_r1 3 1 D.i64 l1, (nthF F 0)]) (fun st => st = o_1) ⟨rfl, rfl, trivial⟩ ⟨rfl, trivial⟩ ?_ ?_
  · skip
    refine g_block ?_
    refine g_loop_m [(1, _), (2, _)] [(1, _)] (fun (st : (Int × (List Int))) (hid : (Option Addr × Nat)) => match st, hid with | (i1, l2), (a_r1, cap_r1) => [(3, .v (.slice a_r1 l2.length cap_r1)), (4, .i64 i1)]) (fun F (st : (Int × (List Int))) (hid : (Option Addr × Nat)) => match st, hid with | (i1, l2), (a_r1, cap_r1) => [row a_r1 cap_r1 3 1 D.i64 l2, (nthF F 0)]) (_, _) hj1 (fun _ => rfl) ⟨rfl, rfl, trivial⟩ ⟨rfl, trivial⟩ ⟨rfl, rfl, trivial⟩ rfl ?_
    rintro n ⟨i1, l2⟩ ⟨a_r1, cap_r1⟩ hj1
    rw [m_syntagmaref24_Norm_l1] at hj1
    refine g_norm (L' := [(3, .v (.slice a_r1 l2.length cap_r1)), (4, .i64 i1), (1, _), (2, _)]) (ms' := [row a_r1 cap_r1 3 1 D.i64 l2, _]) rfl rfl ?_
    refine g_seq ?_
    refine g_seq ?_
    refine g_region ?_
    refine go_p rfl rfl rfl (o_move rfl) ?_
    refine go_p rfl rfl rfl (o_move rfl) ?_
    refine go_p rfl rfl rfl (.view (peekE (i := 15) 0 rfl rfl rfl) (o_len Try.runUnderlying28 rfl)) ?_
    refine go_p rfl rfl rfl (o_cmp rfl rfl rfl) ?_
    refine go_nil ?_
    refine g_cond rfl (fun hc1 => ?_) (fun hc1 => ?_)
    · replace hj1 := cond_t hc1 hj1
      refine g_skip ?_
      refine g_seq ?_
      refine g_block ?_
      refine g_seq ?_
      obtain ⟨x1, hx1, hj1⟩ := bind_some hj1
      obtain ⟨x2, hx2, hj1⟩ := bind_some hj1
      obtain ⟨x3, hx3, hj1⟩ := bind_some hj1
      refine g_draw 10 Try_mixed (by decide +kernel) ?_
      refine gd_p rfl rfl rfl (o_fieldAddr fi_74_0 rfl rfl rfl) ?_
      refine gd_p rfl rfl rfl (o_load Try.isAgg72 rfl rfl) ?_
      refine gd_p rfl rfl rfl (o_move rfl) ?_
      refine gd_p rfl rfl rfl (o_move rfl) ?_
      refine gd_p rfl rfl rfl (.view (peekE (i := 22) 0 rfl rfl rfl) (o_indexAddr_m Try.runUnderlying28 Try.sizeOf3 rfl rfl hx1)) ?_
      refine gd_p rfl rfl rfl (o_load Try.isAgg3 rfl rfl) ?_
      refine gd_p rfl rfl rfl (o_indexAddr_m Try.runUnderlying72 Try.sizeOf132 rfl rfl hx2) ?_
      refine gd_p rfl rfl rfl (o_load_agg Try.isAgg132 Try.sizeOf132 rfl rfl) ?_
      refine gd_p rfl rfl rfl (o_call0 Try.call96 rfl (w_syntagmaref24_Next hx3)) ?_
      refine gd_p rfl rfl rfl (o_assign rfl) ?_
      refine gd_nil ?_
      refine go_nil ?_
      refine g_seq ?_
      refine g_region ?_
      refine go_p rfl rfl rfl (o_assign rfl) ?_
      refine go_nil ?_
      obtain ⟨o_2, hj2, hm2⟩ := bind_some hj1
      refine g_cut_m [(1, _), (2, _), (4, _)] [(1, _)] (fun (st : (List Int)) (hid : (Option Addr × Nat)) => match st, hid with | l3, (a_r1, cap_r1) => [(3, .v (.slice a_r1 l3.length cap_r1))]) (fun F (st : (List Int)) (hid : (Option Addr × Nat)) => match st, hid with | l3, (a_r1, cap_r1) => [row a_r1 cap_r1 3 1 D.i64 l3, (nthF F 0)]) (fun st => st = o_2) ⟨rfl, rfl, rfl, trivial⟩ ⟨rfl, trivial⟩ ?_ ?_
      · skip
        refine g_block ?_
        refine g_loop_m [(1, _), (2, _), (4, _), (5, _)] [(1, _)] (fun (st : (Int × (List Int))) (hid : (Option Addr × Nat)) => match st, hid with | (k1, l4), (a_r1, cap_r1) => [(3, .v (.slice a_r1 l4.length cap_r1)), (6, .i64 k1)]) (fun F (st : (Int × (List Int))) (hid : (Option Addr × Nat)) => match st, hid with | (k1, l4), (a_r1, cap_r1) => [row a_r1 cap_r1 3 1 D.i64 l4, (nthF F 0)]) (_, _) hj2 (fun _ => rfl) ⟨rfl, rfl, rfl, rfl, trivial⟩ ⟨rfl, trivial⟩ ⟨rfl, rfl, trivial⟩ rfl ?_
        rintro n ⟨k1, l4⟩ ⟨a_r1, cap_r1⟩ hj2
        rw [m_syntagmaref24_Norm_l2] at hj2
        refine g_norm (L' := [(3, .v (.slice a_r1 l4.length cap_r1)), (6, .i64 k1), (1, _), (2, _), (4, _), (5, _)]) (ms' := [row a_r1 cap_r1 3 1 D.i64 l4, _]) rfl rfl ?_
        refine g_seq ?_
        refine g_seq ?_
        refine g_region ?_
        refine go_p rfl rfl rfl (o_move rfl) ?_
        refine go_p rfl rfl rfl (o_move rfl) ?_
        refine go_p rfl rfl rfl (o_len Try.runUnderlying28 rfl) ?_
        refine go_p rfl rfl rfl (o_cmp rfl rfl rfl) ?_
        refine go_nil ?_
        refine g_cond rfl (fun hc2 => ?_) (fun hc2 => ?_)
        · replace hj2 := cond_t hc2 hj2
          refine g_skip ?_
          refine g_seq ?_
          refine g_block ?_
          refine g_seq ?_
          refine g_region ?_
          refine go_p rfl rfl rfl (o_move rfl) ?_
          refine go_p rfl rfl rfl (o_move rfl) ?_
          refine go_p rfl rfl rfl (o_move rfl) ?_
          obtain ⟨x4, hx4, hj2⟩ := bind_some hj2
          refine go_p rfl rfl rfl (o_indexAddr_m Try.runUnderlying28 Try.sizeOf3 rfl rfl hx4) ?_
          refine go_p rfl rfl rfl (o_load Try.isAgg3 rfl rfl) ?_
          obtain ⟨x5, hx5, hj2⟩ := bind_some hj2
          refine go_p rfl rfl rfl (.view (peekE (i := 35) 0 rfl rfl rfl) (o_call0 Try.call97 rfl (w_syntagmabase_HasInt hx5))) ?_
          refine go_p rfl rfl rfl (o_not rfl) ?_
          refine go_nil ?_
          refine g_cond rfl (fun hc3 => ?_) (fun hc3 => ?_)
          · replace hj2 := cond_t hc3 hj2
            refine g_region ?_
            refine go_p rfl rfl rfl (o_move rfl) ?_
            refine go_p rfl rfl rfl (o_move rfl) ?_
            refine go_p rfl rfl rfl (o_move rfl) ?_
            obtain ⟨x6, hx6, hj2⟩ := bind_some hj2
            refine go_p rfl rfl rfl (o_indexAddr_m Try.runUnderlying28 Try.sizeOf3 rfl rfl hx6) ?_
            refine go_p rfl rfl rfl (o_load Try.isAgg3 rfl rfl) ?_
            refine go_p rfl rfl rfl (o_buildSlice (xs := [_]) (f := D.i64) (l := [_]) Try.runUnderlying28 Try.sizeOf3 Try.zeroValue3 rfl rfl rfl (fun _ => ⟨rfl, rfl, rfl⟩) rfl) ?_
            obtain ⟨hg7, hj2⟩ := grd_some hj2
            refine go_op rfl rfl rfl (o_append (a := _) 0 Try.underlying28 Try.type3 rfl rfl rfl rfl rfl rfl rfl (fun _ => rfl) (fun _ => rfl) hg7 (app_len hg7 rfl)) ?_
            rintro _ _ ⟨a_r1, cap_r1, rfl, rfl⟩
            refine go_ms (ms' := [_, box b1 74 [_, _]]) rfl ?_
            refine go_p rfl rfl rfl (o_assign rfl) ?_
            refine go_nil ?_
            refine g_region ?_
            refine go_p rfl rfl rfl (o_move rfl) ?_
            obtain ⟨hg8, hj2⟩ := grd_some hj2
            refine go_p rfl rfl rfl (o_add rfl rfl (i64_id hg8)) ?_
            refine go_p rfl rfl rfl (o_assign rfl) ?_
            refine go_nil ?_
            exact ⟨_, (_, _), hj2, ⟨rfl, rfl, trivial⟩, ⟨rfl, rfl, rfl, rfl, trivial⟩, [], rfl⟩
          · replace hj2 := cond_f hc3 hj2
            refine g_skip ?_
            refine g_region ?_
            refine go_p rfl rfl rfl (o_move rfl) ?_
            obtain ⟨hg9, hj2⟩ := grd_some hj2
            refine go_p rfl rfl rfl (o_add rfl rfl (i64_id hg9)) ?_
            refine go_p rfl rfl rfl (o_assign rfl) ?_
            refine go_nil ?_
            exact ⟨_, (_, _), hj2, ⟨rfl, rfl, trivial⟩, ⟨rfl, rfl, rfl, rfl, trivial⟩, [], rfl⟩
        · replace hj2 := cond_f hc2 hj2
          refine g_exit ?_
          exact ⟨_, (_, _), some_eq hj2, ⟨rfl, trivial⟩, ⟨rfl, rfl, rfl, trivial⟩, [], rfl⟩
      · rintro l3 ⟨a_r1, cap_r1⟩ hst
        subst hst
        refine k_norm (L' := [(3, .v (.slice a_r1 l3.length cap_r1)), (1, _), (2, _), (4, _)]) (ms' := [row a_r1 cap_r1 3 1 D.i64 l3, _]) rfl rfl ?_
        refine g_region ?_
        refine go_p rfl rfl rfl (o_move rfl) ?_
        obtain ⟨hg10, hm2⟩ := grd_some hm2
        refine go_p rfl rfl rfl (o_add rfl rfl (i64_id hg10)) ?_
        refine go_p rfl rfl rfl (o_assign rfl) ?_
        refine go_nil ?_
        exact ⟨_, (_, _), hm2, ⟨rfl, rfl, trivial⟩, ⟨rfl, rfl, trivial⟩, [], rfl⟩
    · replace hj1 := cond_f hc1 hj1
      refine g_exit ?_
      exact ⟨_, (_, _), some_eq hj1, ⟨rfl, trivial⟩, ⟨rfl, rfl, trivial⟩, [], rfl⟩
  · rintro l1 ⟨a_r1, cap_r1⟩ hst
    subst hst
    refine k_norm (L' := [(3, .v (.slice a_r1 l1.length cap_r1)), (1, _), (2, _)]) (ms' := [row a_r1 cap_r1 3 1 D.i64 l1, _]) rfl rfl ?_
    refine g_seq ?_
    refine g_region ?_
    refine go_p rfl rfl rfl (o_fieldAddr fi_74_0 rfl rfl rfl) ?_
    refine go_p rfl rfl rfl (o_load Try.isAgg72 rfl rfl) ?_
    refine go_p rfl rfl rfl (o_len Try.runUnderlying72 rfl) ?_
    obtain ⟨hg11, hm1⟩ := grd_some hm1
    obtain ⟨hg12, hm1⟩ := grd_some hm1
    refine go_op rfl rfl rfl (o_makeSlice (f := D.i64) (z0 := 0) Try.underlying28 Try.type3 rfl rfl rfl (Nat.le_of_ble_eq_true rfl) rfl rfl hg11 hg12 (Nat.le_of_ble_eq_true rfl)) ?_
    rintro _ _ ⟨a_r2, m_r2, cap_r2, rfl, rfl⟩
    refine go_p rfl rfl rfl (o_assign rfl) ?_
    refine go_nil ?_
    refine g_seq ?_
    refine g_seq ?_
    refine g_region ?_
    refine go_p rfl rfl rfl (o_assign rfl) ?_
    refine go_nil ?_
    obtain ⟨o_3, hj3, hm3⟩ := bind_some hm1
    refine g_cut_m [(1, _), (2, _), (3, _), (7, _)] [(1, _), (2, _)] (fun (st : (List Int)) (hid : Unit) => match st, hid with | l5, _ => []) (fun F (st : (List Int)) (hid : Unit) => match st, hid with | l5, _ => [arr a_r2 m_r2 cap_r2 3 1 D.i64 l5, (nthF F 0), (nthF F 1)]) (fun st => st = o_3) ⟨rfl, rfl, rfl, rfl, trivial⟩ ⟨rfl, rfl, trivial⟩ ?_ ?_
    · skip
      refine g_block ?_
      refine g_loop_m [(1, _), (2, _), (3, _), (7, _)] [(1, _), (2, _)] (fun (st : (Int × (List Int))) (hid : Unit) => match st, hid with | (i2, l6), _ => [(8, .i64 i2)]) (fun F (st : (Int × (List Int))) (hid : Unit) => match st, hid with | (i2, l6), _ => [arr a_r2 m_r2 cap_r2 3 1 D.i64 l6, (nthF F 0), (nthF F 1)]) () hj3 (fun _ => rfl) ⟨rfl, rfl, rfl, rfl, trivial⟩ ⟨rfl, rfl, trivial⟩ ⟨rfl, trivial⟩ rfl ?_
      rintro n ⟨i2, l6⟩ ⟨⟩ hj3
      rw [m_syntagmaref24_Norm_l3] at hj3
      refine g_norm (L' := [(8, .i64 i2), (1, _), (2, _), (3, _), (7, _)]) (ms' := [arr a_r2 m_r2 cap_r2 3 1 D.i64 l6, _, _]) rfl rfl ?_
      refine g_seq ?_
      refine g_seq ?_
      refine g_region ?_
      refine go_p rfl rfl rfl (o_move rfl) ?_
      refine go_p rfl rfl rfl (o_move rfl) ?_
      refine go_p rfl rfl rfl (.view (peekE (i := 54) 1 rfl rfl rfl) (o_len Try.runUnderlying28 rfl)) ?_
      refine go_p rfl rfl rfl (o_cmp rfl rfl rfl) ?_
      refine go_nil ?_
      refine g_cond rfl (fun hc4 => ?_) (fun hc4 => ?_)
      · replace hj3 := cond_t hc4 hj3
        refine g_skip ?_
        refine g_seq ?_
        refine g_block ?_
        refine g_region ?_
        refine go_p rfl rfl rfl (o_move rfl) ?_
        refine go_p rfl rfl rfl (o_move rfl) ?_
        refine go_p rfl rfl rfl (o_move rfl) ?_
        obtain ⟨x7, hx13, hj3⟩ := bind_some hj3
        refine go_p rfl rfl rfl (.view (peekE (i := 60) 1 rfl rfl rfl) (o_indexAddr_m Try.runUnderlying28 Try.sizeOf3 rfl rfl hx13)) ?_
        refine go_p rfl rfl rfl (o_load Try.isAgg3 rfl rfl) ?_
        refine go_p rfl rfl rfl (o_move rfl) ?_
        obtain ⟨x8, hx14, hj3⟩ := bind_some hj3
        refine go_p rfl rfl rfl (o_indexAddr_arr 0 Try.runUnderlying28 Try.sizeOf3 rfl rfl rfl hx14) ?_
        refine go_u rfl rfl (o_store_arr (off := 0) (z' := i2) 0 Try.sizeOf3 rfl rfl (idx_some hx14).2 rfl rfl rfl rfl rfl rfl (Nat.le_of_ble_eq_true rfl) rfl rfl) ?_
        rintro _ _ rfl
        refine go_ms (ms' := [_, _, box b1 74 [_, _]]) rfl ?_
        refine go_nil ?_
        refine g_region ?_
        refine go_p rfl rfl rfl (o_move rfl) ?_
        obtain ⟨hg15, hj3⟩ := grd_some hj3
        refine go_p rfl rfl rfl (o_add rfl rfl (i64_id hg15)) ?_
        refine go_p rfl rfl rfl (o_assign rfl) ?_
        refine go_nil ?_
        exact ⟨_, (), hj3, ⟨rfl, trivial⟩, ⟨rfl, rfl, rfl, rfl, trivial⟩, [], rfl⟩
      · replace hj3 := cond_f hc4 hj3
        refine g_exit ?_
        exact ⟨_, (), some_eq hj3, trivial, ⟨rfl, rfl, rfl, rfl, trivial⟩, [], rfl⟩
    · rintro l5 ⟨⟩ hst
      subst hst
      refine k_norm (L' := [(1, _), (2, _), (3, _), (7, _)]) (ms' := [arr a_r2 m_r2 cap_r2 3 1 D.i64 l5, _, _]) rfl rfl ?_
      refine g_seq ?_
      refine g_region ?_
      refine go_p rfl rfl rfl (o_build (zs := [.v (.slice none 0 0), .v (.int .i64 0)]) Try.runUnderlying74 Try.zeroValue74 (pl_74 _ Try.runUnderlying74) rfl rfl rfl rfl) ?_
      refine go_op rfl rfl rfl (o_alloc_own Try.zeroValue74 (cs := [.list 13 AutoState.d [], .i64 0]) rfl) ?_
      rintro _ _ ⟨b3, rfl, rfl⟩
      refine go_u rfl rfl (o_store_box 0 Try.sizeOf74 rfl rfl rfl rfl rfl rfl rfl rfl (Nat.le_of_ble_eq_true rfl)) ?_
      rintro _ _ rfl
      refine go_conv (refines_newrow (T := 132) (sz := 13) (f := AutoState.d)) ?_
      refine go_ms (ms' := [_, box b3 74 [_, _], _, _, box b1 74 [_, _]]) rfl ?_
      refine go_nil ?_
      refine g_seq ?_
      refine g_seq ?_
      refine g_region ?_
      refine go_p rfl rfl rfl (o_assign rfl) ?_
      refine go_nil ?_
      refine g_thaw 2 rfl rfl ?_
      rintro rfl
      obtain ⟨o_4, hj4, hm4⟩ := bind_some hm3
      refine g_cut_m [(2, _), (9, _)] [(2, _), (3, _), (4, _)] (fun (st : ((List AutoState) × Int)) (hid : (Option Addr × Nat)) => match st, hid with | (l7, z1), (a_r3, cap_r3) => []) (fun F (st : ((List AutoState) × Int)) (hid : (Option Addr × Nat)) => match st, hid with | (l7, z1), (a_r3, cap_r3) => [row a_r3 cap_r3 132 13 AutoState.d l7, box b3 74 [.v (.slice a_r3 l7.length cap_r3), .i64 z1], (nthF F 0), (nthF F 1), (nthF F 2)]) (fun st => st = o_4) ⟨rfl, rfl, trivial⟩ ⟨rfl, rfl, rfl, trivial⟩ ?_ ?_
      · skip
        refine g_block ?_
        refine g_loop_m [(1, _), (2, _), (3, _), (7, _), (9, _)] [(2, _), (3, _), (4, _)] (fun (st : (Int × (List AutoState) × Int)) (hid : (Option Addr × Nat)) => match st, hid with | (i3, l8, z2), (a_r3, cap_r3) => [(10, .i64 i3)]) (fun F (st : (Int × (List AutoState) × Int)) (hid : (Option Addr × Nat)) => match st, hid with | (i3, l8, z2), (a_r3, cap_r3) => [row a_r3 cap_r3 132 13 AutoState.d l8, box b3 74 [.v (.slice a_r3 l8.length cap_r3), .i64 z2], (nthF F 0), (nthF F 1), (nthF F 2)]) (_, _) hj4 (fun _ => rfl) ⟨rfl, rfl, rfl, rfl, rfl, trivial⟩ ⟨rfl, rfl, rfl, trivial⟩ ⟨rfl, trivial⟩ rfl ?_
        rintro n ⟨i3, l8, z2⟩ ⟨a_r3, cap_r3⟩ hj4
        rw [m_syntagmaref24_Norm_l4] at hj4
        refine g_norm (L' := [(10, .i64 i3), (1, _), (2, _), (3, _), (7, _), (9, _)]) (ms' := [row a_r3 cap_r3 132 13 AutoState.d l8, box b3 74 [.v (.slice a_r3 l8.length cap_r3), .i64 z2], _, _, _]) rfl rfl ?_
        refine g_seq ?_
        refine g_seq ?_
        refine g_region ?_
        refine go_p rfl rfl rfl (o_move rfl) ?_
        refine go_p rfl rfl rfl (o_move rfl) ?_
        refine go_p rfl rfl rfl (.view (peekE (i := 68) 3 rfl rfl rfl) (o_len Try.runUnderlying28 rfl)) ?_
        refine go_p rfl rfl rfl (o_cmp rfl rfl rfl) ?_
        refine go_nil ?_
        refine g_cond rfl (fun hc5 => ?_) (fun hc5 => ?_)
        · replace hj4 := cond_t hc5 hj4
          refine g_skip ?_
          refine g_seq ?_
          refine g_block ?_
          obtain ⟨x9, hx16, hj4⟩ := bind_some hj4
          obtain ⟨x10, hx17, hj4⟩ := bind_some hj4
          obtain ⟨x11, hx18, hj4⟩ := bind_some hj4
          refine g_draw 13 Try_mixed (by decide +kernel) ?_
          refine gd_p rfl rfl rfl (o_fieldAddr_box fi_74_0 rfl) ?_
          refine gd_p rfl rfl rfl (o_load_box 1 Try.isAgg72 rfl rfl rfl rfl) ?_
          refine gd_p rfl rfl rfl (o_fieldAddr fi_74_0 rfl rfl rfl) ?_
          refine gd_p rfl rfl rfl (o_load Try.isAgg72 rfl rfl) ?_
          refine gd_p rfl rfl rfl (o_move rfl) ?_
          refine gd_p rfl rfl rfl (o_move rfl) ?_
          refine gd_p rfl rfl rfl (.view (peekE (i := 77) 3 rfl rfl rfl) (o_indexAddr_m Try.runUnderlying28 Try.sizeOf3 rfl rfl hx16)) ?_
          refine gd_p rfl rfl rfl (o_load Try.isAgg3 rfl rfl) ?_
          refine gd_p rfl rfl rfl (o_indexAddr_m Try.runUnderlying72 Try.sizeOf132 rfl rfl hx17) ?_
          refine gd_p rfl rfl rfl (o_load_agg Try.isAgg132 Try.sizeOf132 rfl rfl) ?_
          refine gd_p rfl rfl rfl (o_move rfl) ?_
          refine gd_p rfl rfl rfl (.view (peekE (i := 83) 2 rfl rfl rfl) (o_call0 Try.call98 rfl (w_syntagmaref24_Moved hx18))) ?_
          refine gd_p rfl rfl rfl (o_buildSlice (xs := [_]) (f := AutoState.d) (l := [_]) Try.runUnderlying72 Try.sizeOf132 Try.zeroValue132 rfl rfl rfl (fun _ => ⟨rfl, rfl, rfl⟩) rfl) ?_
          refine gd_nil ?_
          obtain ⟨hg19, hj4⟩ := grd_some hj4
          refine go_op rfl rfl rfl (o_append (a := _) 0 Try.underlying72 Try.type132 rfl rfl rfl rfl rfl rfl rfl (fun _ => rfl) (fun _ => rfl) hg19 (app_len hg19 rfl)) ?_
          rintro _ _ ⟨a_r3, cap_r3, rfl, rfl⟩
          refine go_ms (ms' := [_, box b3 74 [_, _], _, _, box b1 74 [_, _]]) rfl ?_
          refine go_p rfl rfl rfl (o_fieldAddr_box fi_74_0 rfl) ?_
          refine go_u rfl rfl (o_store_box 1 Try.sizeOf72 rfl rfl rfl rfl rfl rfl rfl rfl (Nat.le_of_ble_eq_true rfl)) ?_
          rintro _ _ rfl
          refine go_ms (ms' := [_, box b3 74 [_, _], _, _, box b1 74 [_, _]]) rfl ?_
          refine go_nil ?_
          refine g_region ?_
          refine go_p rfl rfl rfl (o_move rfl) ?_
          obtain ⟨hg20, hj4⟩ := grd_some hj4
          refine go_p rfl rfl rfl (o_add rfl rfl (i64_id hg20)) ?_
          refine go_p rfl rfl rfl (o_assign rfl) ?_
          refine go_nil ?_
          exact ⟨_, (_, _), hj4, ⟨rfl, trivial⟩, ⟨rfl, rfl, rfl, rfl, rfl, trivial⟩, [], rfl⟩
        · replace hj4 := cond_f hc5 hj4
          refine g_exit ?_
          exact ⟨_, (_, _), some_eq hj4, trivial, ⟨rfl, rfl, trivial⟩, [], rfl⟩
      · rintro ⟨l7, z1⟩ ⟨a_r3, cap_r3⟩ hst
        subst hst
        refine k_norm (L' := [(2, _), (9, _)]) (ms' := [row a_r3 cap_r3 132 13 AutoState.d l7, box b3 74 [.v (.slice a_r3 l7.length cap_r3), .i64 z1], _, _, _]) rfl rfl ?_
        refine g_seq ?_
        refine g_region ?_
        refine go_p rfl rfl rfl (o_load_box_agg 1 Try.isAgg74 Try.sizeOf74 rfl rfl rfl rfl (Nat.le_of_ble_eq_true rfl)) ?_
        refine go_conv (peekAggE (i := 88) (q := 0) 0 rfl rfl rfl rfl rfl).refines ?_
        refine go_u rfl rfl (o_store_box 4 Try.sizeOf74 rfl rfl rfl rfl rfl rfl rfl rfl (Nat.le_of_ble_eq_true rfl)) ?_
        rintro _ _ rfl
        refine go_ms (ms' := [_, box b3 74 [_, _], _, _, box b1 74 [_, _]]) rfl ?_
        refine go_nil ?_
        refine g_ret ?_
        exact retK (ret_one' rfl (ret_cell 4 rfl rfl rfl Try.isAgg74 Try.sizeOf74 rfl) (perm_drop _)) (congrArg (fun (p : AutoAuto) => (AutoAuto.d p : D)) (some_eq hm4))
def m_syntagmaref15_Set_l2 (l1 : (List Int)) (i1 : Int) (l3 : (List Int)) : Nat → Int → Option Int
  | 0, _ => none
  | n + 1, k2 =>
    bif (decide (k2 < (l3.length : Int))) then ((idx l3 k2).bind fun x1 =>
    (idx l1 i1).bind fun x2 =>
    bif (decide (x1 < x2)) then
      grd (InR (k2 + 1)) <|
      m_syntagmaref15_Set_l2 l1 i1 l3 n (k2 + 1)
    else
      some k2) else (some k2)
def m_syntagmaref15_Set_l1 (l1 : (List Int)) : Nat → (Int × (List Int)) → Option (List Int)
  | 0, _ => none
  | n + 1, (i1, l3) =>
    bif (decide (i1 < (l1.length : Int))) then
      (m_syntagmaref15_Set_l2 l1 i1 l3 FU 0 : Option Int).bind fun k1 =>
      bif (decide (k1 < (l3.length : Int))) then ((idx l3 k1).bind fun x3 =>
      (idx l1 i1).bind fun x4 =>
      bif (decide (x3 = x4)) then
        grd (InR (i1 + 1)) <|
        m_syntagmaref15_Set_l1 l1 n ((i1 + 1), l3)
      else
        (sli l3 0 k1).bind fun l4 =>
        grd ((0 + l4.length) * 8 ≤ 140737488355328) <|
        (idx l1 i1).bind fun x5 =>
        grd ((([] ++ l4).length + ([x5] : List _).length) * 8 ≤ 140737488355328) <|
        (sli l3 k1 (l3.length : Int)).bind fun l5 =>
        grd (((([] ++ l4) ++ [x5]).length + l5.length) * 8 ≤ 140737488355328) <|
        grd (InR (i1 + 1)) <|
        m_syntagmaref15_Set_l1 l1 n ((i1 + 1), ((([] ++ l4) ++ [x5]) ++ l5))) else ((sli l3 0 k1).bind fun l6 =>
      grd ((0 + l6.length) * 8 ≤ 140737488355328) <|
      (idx l1 i1).bind fun x6 =>
      grd ((([] ++ l6).length + ([x6] : List _).length) * 8 ≤ 140737488355328) <|
      (sli l3 k1 (l3.length : Int)).bind fun l7 =>
      grd (((([] ++ l6) ++ [x6]).length + l7.length) * 8 ≤ 140737488355328) <|
      grd (InR (i1 + 1)) <|
      m_syntagmaref15_Set_l1 l1 n ((i1 + 1), ((([] ++ l6) ++ [x6]) ++ l7)))
    else
      some l3
def m_syntagmaref15_Set (l1 : (List Int)) : Option (List Int) :=
  (m_syntagmaref15_Set_l1 l1 FU (0, []) : Option (List Int)).bind fun l2 =>
  some l2
theorem w_syntagmaref15_Set {l1 : (List Int)} {r_1 : (List Int)} (hm : m_syntagmaref15_Set l1 = some r_1) : Fn0 Try.prog 99 [.list 1 D.i64 l1] (.list 1 D.i64 r_1) := by
  unfold m_syntagmaref15_Set at hm
  refine fn_intro Try.func99 rfl Try.ntmps99 rfl fun H0 fr w0 => ?_
  refine g_seq ?_
  refine g_region ?_
  refine go_p rfl rfl rfl (o_assign rfl) ?_
  refine go_conv (nilE (i := 2) (sz := 1) (f := D.i64) rfl).refines ?_
  refine go_nil ?_
  refine g_seq ?_
  refine g_region ?_
  refine go_op rfl rfl rfl (o_buildSlice_row (xs := []) (f := D.i64) (l := []) Try.runUnderlying28 Try.sizeOf3 Try.zeroValue3 rfl rfl rfl (fun _ => ⟨rfl, rfl, rfl⟩) rfl (by simp [maxLen])) ?_
  rintro _ _ ⟨a_r1, rfl, rfl⟩
  refine go_p rfl rfl rfl (o_assign rfl) ?_
  refine go_nil ?_
  refine g_seq ?_
  refine g_seq ?_
  refine g_region ?_
  refine go_p rfl rfl rfl (o_assign rfl) ?_
  refine go_nil ?_
  obtain ⟨o_1, hj1, hm1⟩ := bind_some hm
  refine g_cut_m [] [] (fun (st : (List Int)) (hid : (Option Addr × Nat)) => match st, hid with | l2, (a_r1, cap_r1) => [(3, .v (.slice a_r1 l2.length cap_r1))]) (fun F (st : (List Int)) (hid : (Option Addr × Nat)) => match st, hid with | l2, (a_r1, cap_r1) => [row a_r1 cap_r1 3 1 D.i64 l2]) (fun st => st = o_1) trivial trivial ?_ ?_
  · skip
    refine g_block ?_
    refine g_loop_m [(0, _)] [] (fun (st : (Int × (List Int))) (hid : (Option Addr × Nat)) => match st, hid with | (i1, l3), (a_r1, cap_r1) => [(3, .v (.slice a_r1 l3.length cap_r1)), (4, .i64 i1)]) (fun F (st : (Int × (List Int))) (hid : (Option Addr × Nat)) => match st, hid with | (i1, l3), (a_r1, cap_r1) => [row a_r1 cap_r1 3 1 D.i64 l3]) (_, _) hj1 (fun _ => rfl) ⟨rfl, trivial⟩ trivial ⟨rfl, rfl, trivial⟩ rfl ?_
    rintro n ⟨i1, l3⟩ ⟨a_r1, cap_r1⟩ hj1
    rw [m_syntagmaref15_Set_l1] at hj1
    refine g_norm (L' := [(3, .v (.slice a_r1 l3.length cap_r1)), (4, .i64 i1), (0, _)]) (ms' := [row a_r1 cap_r1 3 1 D.i64 l3]) rfl rfl ?_
    refine g_seq ?_
    refine g_seq ?_
    refine g_region ?_
    refine go_p rfl rfl rfl (o_move rfl) ?_
    refine go_p rfl rfl rfl (o_move rfl) ?_
    refine go_p rfl rfl rfl (o_len Try.runUnderlying28 rfl) ?_
    refine go_p rfl rfl rfl (o_cmp rfl rfl rfl) ?_
    refine go_nil ?_
    refine g_cond rfl (fun hc1 => ?_) (fun hc1 => ?_)
    · replace hj1 := cond_t hc1 hj1
      refine g_skip ?_
      refine g_seq ?_
      refine g_block ?_
      refine g_seq ?_
      refine g_region ?_
      refine go_p rfl rfl rfl (o_assign rfl) ?_
      refine go_nil ?_
      refine g_seq ?_
      obtain ⟨o_2, hj2, hm2⟩ := bind_some hj1
      refine g_cut_m [(0, _), (3, _), (4, _)] [(0, _)] (fun (st : Int) (hid : Unit) => match st, hid with | k1, _ => [(5, .i64 k1)]) (fun F (st : Int) (hid : Unit) => match st, hid with | k1, _ => [(nthF F 0)]) (fun st => st = o_2) ⟨rfl, rfl, rfl, trivial⟩ ⟨rfl, trivial⟩ ?_ ?_
      · skip
        refine g_block ?_
        refine g_loop_m [(0, _), (3, _), (4, _)] [(0, _)] (fun (st : Int) (hid : Unit) => match st, hid with | k2, _ => [(5, .i64 k2)]) (fun F (st : Int) (hid : Unit) => match st, hid with | k2, _ => [(nthF F 0)]) () hj2 (fun _ => rfl) ⟨rfl, rfl, rfl, trivial⟩ ⟨rfl, trivial⟩ ⟨rfl, trivial⟩ rfl ?_
        rintro n k2 _ hj2
        rw [m_syntagmaref15_Set_l2] at hj2
        refine g_norm (L' := [(5, .i64 k2), (0, _), (3, _), (4, _)]) (ms' := [_]) rfl rfl ?_
        refine g_seq ?_
        refine g_seq ?_
        rcases cond_split hj2 with ⟨hg_1, hj2⟩ | ⟨hg_1, hj2⟩
        ·
          skip
          obtain ⟨x1, hx1, hj2⟩ := bind_some hj2
          obtain ⟨x2, hx2, hj2⟩ := bind_some hj2
          refine g_draw 15 Try_mixed (by decide +kernel) ?_
          refine gd_p rfl rfl rfl (o_move rfl) ?_
          refine gd_p rfl rfl rfl (o_move rfl) ?_
          refine gd_p rfl rfl rfl (.view (peekE (i := 14) 0 rfl rfl rfl) (o_len Try.runUnderlying28 rfl)) ?_
          refine gd_p rfl rfl rfl (o_cmp rfl rfl rfl) ?_
          refine gd_p rfl rfl rfl (o_move rfl) ?_
          refine gd_want rfl rfl rfl hg_1 rfl rfl (o_move rfl) ?_
          refine gd_want rfl rfl rfl hg_1 rfl rfl (o_move rfl) ?_
          refine gd_want rfl rfl rfl hg_1 rfl rfl (.view (peekE (i := 18) 0 rfl rfl rfl) (o_indexAddr_m Try.runUnderlying28 Try.sizeOf3 rfl rfl hx1)) ?_
          refine gd_want rfl rfl rfl hg_1 rfl rfl (o_load Try.isAgg3 rfl rfl) ?_
          refine gd_want rfl rfl rfl hg_1 rfl rfl (o_move rfl) ?_
          refine gd_want rfl rfl rfl hg_1 rfl rfl (o_move rfl) ?_
          refine gd_want rfl rfl rfl hg_1 rfl rfl (o_indexAddr_m Try.runUnderlying28 Try.sizeOf3 rfl rfl hx2) ?_
          refine gd_want rfl rfl rfl hg_1 rfl rfl (o_load Try.isAgg3 rfl rfl) ?_
          refine gd_want rfl rfl rfl hg_1 rfl rfl (o_cmp rfl rfl rfl) ?_
          refine gd_p rfl rfl rfl (o_pickT rfl hg_1 rfl) ?_
          refine gd_nil ?_
          refine go_nil ?_
          refine g_cond rfl (fun hc2 => ?_) (fun hc2 => ?_)
          · replace hj2 := cond_t hc2 hj2
            refine g_skip ?_
            refine g_block ?_
            refine g_region ?_
            refine go_p rfl rfl rfl (o_move rfl) ?_
            obtain ⟨hg3, hj2⟩ := grd_some hj2
            refine go_p rfl rfl rfl (o_add rfl rfl (i64_id hg3)) ?_
            refine go_p rfl rfl rfl (o_assign rfl) ?_
            refine go_nil ?_
            exact ⟨_, (), hj2, ⟨rfl, trivial⟩, ⟨rfl, rfl, rfl, trivial⟩, [], rfl⟩
          · replace hj2 := cond_f hc2 hj2
            refine g_exit ?_
            exact ⟨_, (), some_eq hj2, ⟨rfl, trivial⟩, ⟨rfl, rfl, rfl, trivial⟩, [], rfl⟩
        ·
          skip
          refine g_draw 15 Try_mixed (by decide +kernel) ?_
          refine gd_p rfl rfl rfl (o_move rfl) ?_
          refine gd_p rfl rfl rfl (o_move rfl) ?_
          refine gd_p rfl rfl rfl (.view (peekE (i := 14) 0 rfl rfl rfl) (o_len Try.runUnderlying28 rfl)) ?_
          refine gd_p rfl rfl rfl (o_cmp rfl rfl rfl) ?_
          refine gd_p rfl rfl rfl (o_move rfl) ?_
          refine gd_skip rfl rfl rfl hg_1 rfl rfl ?_
          refine gd_skip rfl rfl rfl hg_1 rfl rfl ?_
          refine gd_skip rfl rfl rfl hg_1 rfl rfl ?_
          refine gd_skip rfl rfl rfl hg_1 rfl rfl ?_
          refine gd_skip rfl rfl rfl hg_1 rfl rfl ?_
          refine gd_skip rfl rfl rfl hg_1 rfl rfl ?_
          refine gd_skip rfl rfl rfl hg_1 rfl rfl ?_
          refine gd_skip rfl rfl rfl hg_1 rfl rfl ?_
          refine gd_skip rfl rfl rfl hg_1 rfl rfl ?_
          refine gd_p rfl rfl rfl (o_pickF rfl hg_1 rfl) ?_
          refine gd_nil ?_
          refine go_nil ?_
          refine g_cond_false rfl rfl ?_
          refine g_exit ?_
          exact ⟨_, (), some_eq hj2, ⟨rfl, trivial⟩, ⟨rfl, rfl, rfl, trivial⟩, [], rfl⟩
      · rintro k1 _ hst
        subst hst
        refine k_norm (L' := [(5, .i64 k1), (0, _), (3, _), (4, _)]) (ms' := [_]) rfl rfl ?_
        refine g_seq ?_
        refine g_seq ?_
        rcases cond_split hm2 with ⟨hg_2, hm2⟩ | ⟨hg_2, hm2⟩
        ·
          skip
          obtain ⟨x3, hx4, hm2⟩ := bind_some hm2
          obtain ⟨x4, hx5, hm2⟩ := bind_some hm2
          refine g_draw 15 Try_mixed (by decide +kernel) ?_
          refine gd_p rfl rfl rfl (o_move rfl) ?_
          refine gd_p rfl rfl rfl (o_move rfl) ?_
          refine gd_p rfl rfl rfl (.view (peekE (i := 31) 0 rfl rfl rfl) (o_len Try.runUnderlying28 rfl)) ?_
          refine gd_p rfl rfl rfl (o_cmp rfl rfl rfl) ?_
          refine gd_p rfl rfl rfl (o_move rfl) ?_
          refine gd_want rfl rfl rfl hg_2 rfl rfl (o_move rfl) ?_
          refine gd_want rfl rfl rfl hg_2 rfl rfl (o_move rfl) ?_
          refine gd_want rfl rfl rfl hg_2 rfl rfl (.view (peekE (i := 35) 0 rfl rfl rfl) (o_indexAddr_m Try.runUnderlying28 Try.sizeOf3 rfl rfl hx4)) ?_
          refine gd_want rfl rfl rfl hg_2 rfl rfl (o_load Try.isAgg3 rfl rfl) ?_
          refine gd_want rfl rfl rfl hg_2 rfl rfl (o_move rfl) ?_
          refine gd_want rfl rfl rfl hg_2 rfl rfl (o_move rfl) ?_
          refine gd_want rfl rfl rfl hg_2 rfl rfl (o_indexAddr_m Try.runUnderlying28 Try.sizeOf3 rfl rfl hx5) ?_
          refine gd_want rfl rfl rfl hg_2 rfl rfl (o_load Try.isAgg3 rfl rfl) ?_
          refine gd_want rfl rfl rfl hg_2 rfl rfl (o_cmp rfl rfl rfl) ?_
          refine gd_p rfl rfl rfl (o_pickT rfl hg_2 rfl) ?_
          refine gd_nil ?_
          refine go_nil ?_
          refine g_cond rfl (fun hc3 => ?_) (fun hc3 => ?_)
          · replace hm2 := cond_t hc3 hm2
            refine g_exit ?_
            refine g_region ?_
            refine go_p rfl rfl rfl (o_move rfl) ?_
            obtain ⟨hg6, hm2⟩ := grd_some hm2
            refine go_p rfl rfl rfl (o_add rfl rfl (i64_id hg6)) ?_
            refine go_p rfl rfl rfl (o_assign rfl) ?_
            refine go_nil ?_
            exact ⟨_, (_, _), hm2, ⟨rfl, rfl, trivial⟩, ⟨rfl, trivial⟩, [], rfl⟩
          · replace hm2 := cond_f hc3 hm2
            refine g_skip ?_
            obtain ⟨l4, hx7, hm2⟩ := bind_some hm2
            obtain ⟨hg8, hm2⟩ := grd_some hm2
            obtain ⟨x5, hx9, hm2⟩ := bind_some hm2
            obtain ⟨hg10, hm2⟩ := grd_some hm2
            obtain ⟨l5, hx11, hm2⟩ := bind_some hm2
            obtain ⟨hg12, hm2⟩ := grd_some hm2
            refine g_draw_c [0, 4, 10, 14, 15] [1, 2, 3, 5, 6, 7, 8, 9, 11, 12, 13] [3, 13] Try_mixed (by decide +kernel) (by decide +kernel) rfl ?_
            refine gde_e rfl ?_
            refine gde_p rfl rfl rfl rfl rfl rfl (o_move rfl) ?_
            refine gde_p rfl rfl rfl rfl rfl rfl (o_move rfl) ?_
            refine gde_f rfl rfl rfl rfl rfl (.view (peekE (i := 46) 0 rfl rfl rfl) (o_slice_m Try.runUnderlying28 Try.sizeOf3 rfl rfl ⟨_, rfl⟩ hx7)) ?_
            refine gde_e rfl ?_
            refine gde_p rfl rfl rfl rfl rfl rfl (o_move rfl) ?_
            refine gde_p rfl rfl rfl rfl rfl rfl (o_move rfl) ?_
            refine gde_p rfl rfl rfl rfl rfl rfl (o_indexAddr_m Try.runUnderlying28 Try.sizeOf3 rfl rfl hx9) ?_
            refine gde_p rfl rfl rfl rfl rfl rfl (o_load Try.isAgg3 rfl rfl) ?_
            refine gde_p rfl rfl rfl rfl rfl rfl (o_buildSlice (xs := [_]) (f := D.i64) (l := [_]) Try.runUnderlying28 Try.sizeOf3 Try.zeroValue3 rfl rfl rfl (fun _ => ⟨rfl, rfl, rfl⟩) rfl) ?_
            refine gde_e rfl ?_
            refine gde_p rfl rfl rfl rfl rfl rfl (o_move rfl) ?_
            refine gde_p rfl rfl rfl rfl rfl rfl (o_move rfl) ?_
            refine gde_f rfl rfl rfl rfl rfl (.view (peekE (i := 56) 0 rfl rfl rfl) (o_slice_m Try.runUnderlying28 Try.sizeOf3 rfl ⟨_, rfl⟩ rfl hx11)) ?_
            refine gde_e rfl ?_
            refine gde_e rfl ?_
            refine gde_nil ?_
            refine gde2_t rfl rfl rfl rfl (o_buildSlice_row (xs := []) (f := D.i64) (l := []) Try.runUnderlying28 Try.sizeOf3 Try.zeroValue3 rfl rfl rfl (fun _ => ⟨rfl, rfl, rfl⟩) rfl (by simp [maxLen])) ?_
            rintro _ _ ⟨a_r2, rfl, rfl⟩
            refine ⟨⟨⟨trivial, .view (peekE (i := 46) 1 rfl rfl rfl) (o_slice_m Try.runUnderlying28 Try.sizeOf3 rfl rfl ⟨_, rfl⟩ hx7)⟩, .view (peekE (i := 56) 1 rfl rfl rfl) (o_slice_m Try.runUnderlying28 Try.sizeOf3 rfl ⟨_, rfl⟩ rfl hx11)⟩, ?_⟩
            refine gde2_t rfl rfl rfl rfl (o_append (a := _) 0 Try.underlying28 Try.type3 rfl rfl rfl rfl rfl rfl rfl (fun _ => rfl) (fun _ => rfl) hg8 (app_len hg8 rfl)) ?_
            rintro _ _ ⟨a_r2, cap_r2, rfl, rfl⟩
            refine ⟨⟨⟨trivial, .view (peekE (i := 46) 1 rfl rfl rfl) (o_slice_m Try.runUnderlying28 Try.sizeOf3 rfl rfl ⟨_, rfl⟩ hx7)⟩, .view (peekE (i := 56) 1 rfl rfl rfl) (o_slice_m Try.runUnderlying28 Try.sizeOf3 rfl ⟨_, rfl⟩ rfl hx11)⟩, ?_⟩
            refine gde2_t rfl rfl rfl rfl (o_append (a := _) 0 Try.underlying28 Try.type3 rfl rfl rfl rfl rfl rfl rfl (fun _ => rfl) (fun _ => rfl) hg10 (app_len hg10 rfl)) ?_
            rintro _ _ ⟨a_r2, cap_r2, rfl, rfl⟩
            refine ⟨⟨⟨trivial, .view (peekE (i := 46) 1 rfl rfl rfl) (o_slice_m Try.runUnderlying28 Try.sizeOf3 rfl rfl ⟨_, rfl⟩ hx7)⟩, .view (peekE (i := 56) 1 rfl rfl rfl) (o_slice_m Try.runUnderlying28 Try.sizeOf3 rfl ⟨_, rfl⟩ rfl hx11)⟩, ?_⟩
            refine gde2_t rfl rfl rfl rfl (o_append (a := _) 0 Try.underlying28 Try.type3 rfl rfl rfl rfl rfl rfl rfl (fun _ => rfl) (fun _ => rfl) hg12 (app_len hg12 rfl)) ?_
            rintro _ _ ⟨a_r2, cap_r2, rfl, rfl⟩
            refine ⟨⟨⟨trivial, .view (peekE (i := 46) 1 rfl rfl rfl) (o_slice_m Try.runUnderlying28 Try.sizeOf3 rfl rfl ⟨_, rfl⟩ hx7)⟩, .view (peekE (i := 56) 1 rfl rfl rfl) (o_slice_m Try.runUnderlying28 Try.sizeOf3 rfl ⟨_, rfl⟩ rfl hx11)⟩, ?_⟩
            refine gde2_t rfl rfl rfl rfl (o_assign rfl) ?_
            rintro _ _ ⟨rfl, rfl⟩
            refine ⟨⟨⟨trivial, .view (peekE (i := 46) 1 rfl rfl rfl) (o_slice_m Try.runUnderlying28 Try.sizeOf3 rfl rfl ⟨_, rfl⟩ hx7)⟩, .view (peekE (i := 56) 1 rfl rfl rfl) (o_slice_m Try.runUnderlying28 Try.sizeOf3 rfl ⟨_, rfl⟩ rfl hx11)⟩, ?_⟩
            refine gde2_nil ?_
            refine g_conv (refines_shift 0 1 rfl rfl rfl rfl) ?_
            refine g_region ?_
            refine go_p rfl rfl rfl (o_move rfl) ?_
            obtain ⟨hg13, hm2⟩ := grd_some hm2
            refine go_p rfl rfl rfl (o_add rfl rfl (i64_id hg13)) ?_
            refine go_p rfl rfl rfl (o_assign rfl) ?_
            refine go_nil ?_
            exact ⟨_, (_, _), hm2, ⟨rfl, rfl, trivial⟩, ⟨rfl, trivial⟩, [], rfl⟩
        ·
          skip
          refine g_draw 15 Try_mixed (by decide +kernel) ?_
          refine gd_p rfl rfl rfl (o_move rfl) ?_
          refine gd_p rfl rfl rfl (o_move rfl) ?_
          refine gd_p rfl rfl rfl (.view (peekE (i := 31) 0 rfl rfl rfl) (o_len Try.runUnderlying28 rfl)) ?_
          refine gd_p rfl rfl rfl (o_cmp rfl rfl rfl) ?_
          refine gd_p rfl rfl rfl (o_move rfl) ?_
          refine gd_skip rfl rfl rfl hg_2 rfl rfl ?_
          refine gd_skip rfl rfl rfl hg_2 rfl rfl ?_
          refine gd_skip rfl rfl rfl hg_2 rfl rfl ?_
          refine gd_skip rfl rfl rfl hg_2 rfl rfl ?_
          refine gd_skip rfl rfl rfl hg_2 rfl rfl ?_
          refine gd_skip rfl rfl rfl hg_2 rfl rfl ?_
          refine gd_skip rfl rfl rfl hg_2 rfl rfl ?_
          refine gd_skip rfl rfl rfl hg_2 rfl rfl ?_
          refine gd_skip rfl rfl rfl hg_2 rfl rfl ?_
          refine gd_p rfl rfl rfl (o_pickF rfl hg_2 rfl) ?_
          refine gd_nil ?_
          refine go_nil ?_
          refine g_cond_false rfl rfl ?_
          refine g_skip ?_
          obtain ⟨l6, hx14, hm2⟩ := bind_some hm2
          obtain ⟨hg15, hm2⟩ := grd_some hm2
          obtain ⟨x6, hx16, hm2⟩ := bind_some hm2
          obtain ⟨hg17, hm2⟩ := grd_some hm2
          obtain ⟨l7, hx18, hm2⟩ := bind_some hm2
          obtain ⟨hg19, hm2⟩ := grd_some hm2
          refine g_draw_c [0, 4, 10, 14, 15] [1, 2, 3, 5, 6, 7, 8, 9, 11, 12, 13] [3, 13] Try_mixed (by decide +kernel) (by decide +kernel) rfl ?_
          refine gde_e rfl ?_
          refine gde_p rfl rfl rfl rfl rfl rfl (o_move rfl) ?_
          refine gde_p rfl rfl rfl rfl rfl rfl (o_move rfl) ?_
          refine gde_f rfl rfl rfl rfl rfl (.view (peekE (i := 46) 0 rfl rfl rfl) (o_slice_m Try.runUnderlying28 Try.sizeOf3 rfl rfl ⟨_, rfl⟩ hx14)) ?_
          refine gde_e rfl ?_
          refine gde_p rfl rfl rfl rfl rfl rfl (o_move rfl) ?_
          refine gde_p rfl rfl rfl rfl rfl rfl (o_move rfl) ?_
          refine gde_p rfl rfl rfl rfl rfl rfl (o_indexAddr_m Try.runUnderlying28 Try.sizeOf3 rfl rfl hx16) ?_
          refine gde_p rfl rfl rfl rfl rfl rfl (o_load Try.isAgg3 rfl rfl) ?_
          refine gde_p rfl rfl rfl rfl rfl rfl (o_buildSlice (xs := [_]) (f := D.i64) (l := [_]) Try.runUnderlying28 Try.sizeOf3 Try.zeroValue3 rfl rfl rfl (fun _ => ⟨rfl, rfl, rfl⟩) rfl) ?_
          refine gde_e rfl ?_
          refine gde_p rfl rfl rfl rfl rfl rfl (o_move rfl) ?_
          refine gde_p rfl rfl rfl rfl rfl rfl (o_move rfl) ?_
          refine gde_f rfl rfl rfl rfl rfl (.view (peekE (i := 56) 0 rfl rfl rfl) (o_slice_m Try.runUnderlying28 Try.sizeOf3 rfl ⟨_, rfl⟩ rfl hx18)) ?_
          refine gde_e rfl ?_
          refine gde_e rfl ?_
          refine gde_nil ?_
          refine gde2_t rfl rfl rfl rfl (o_buildSlice_row (xs := []) (f := D.i64) (l := []) Try.runUnderlying28 Try.sizeOf3 Try.zeroValue3 rfl rfl rfl (fun _ => ⟨rfl, rfl, rfl⟩) rfl (by simp [maxLen])) ?_
          rintro _ _ ⟨a_r3, rfl, rfl⟩
          refine ⟨⟨⟨trivial, .view (peekE (i := 46) 1 rfl rfl rfl) (o_slice_m Try.runUnderlying28 Try.sizeOf3 rfl rfl ⟨_, rfl⟩ hx14)⟩, .view (peekE (i := 56) 1 rfl rfl rfl) (o_slice_m Try.runUnderlying28 Try.sizeOf3 rfl ⟨_, rfl⟩ rfl hx18)⟩, ?_⟩
          refine gde2_t rfl rfl rfl rfl (o_append (a := _) 0 Try.underlying28 Try.type3 rfl rfl rfl rfl rfl rfl rfl (fun _ => rfl) (fun _ => rfl) hg15 (app_len hg15 rfl)) ?_
          rintro _ _ ⟨a_r3, cap_r3, rfl, rfl⟩
          refine ⟨⟨⟨trivial, .view (peekE (i := 46) 1 rfl rfl rfl) (o_slice_m Try.runUnderlying28 Try.sizeOf3 rfl rfl ⟨_, rfl⟩ hx14)⟩, .view (peekE (i := 56) 1 rfl rfl rfl) (o_slice_m Try.runUnderlying28 Try.sizeOf3 rfl ⟨_, rfl⟩ rfl hx18)⟩, ?_⟩
          refine gde2_t rfl rfl rfl rfl (o_append (a := _) 0 Try.underlying28 Try.type3 rfl rfl rfl rfl rfl rfl rfl (fun _ => rfl) (fun _ => rfl) hg17 (app_len hg17 rfl)) ?_
          rintro _ _ ⟨a_r3, cap_r3, rfl, rfl⟩
          refine ⟨⟨⟨trivial, .view (peekE (i := 46) 1 rfl rfl rfl) (o_slice_m Try.runUnderlying28 Try.sizeOf3 rfl rfl ⟨_, rfl⟩ hx14)⟩, .view (peekE (i := 56) 1 rfl rfl rfl) (o_slice_m Try.runUnderlying28 Try.sizeOf3 rfl ⟨_, rfl⟩ rfl hx18)⟩, ?_⟩
          refine gde2_t rfl rfl rfl rfl (o_append (a := _) 0 Try.underlying28 Try.type3 rfl rfl rfl rfl rfl rfl rfl (fun _ => rfl) (fun _ => rfl) hg19 (app_len hg19 rfl)) ?_
          rintro _ _ ⟨a_r3, cap_r3, rfl, rfl⟩
          refine ⟨⟨⟨trivial, .view (peekE (i := 46) 1 rfl rfl rfl) (o_slice_m Try.runUnderlying28 Try.sizeOf3 rfl rfl ⟨_, rfl⟩ hx14)⟩, .view (peekE (i := 56) 1 rfl rfl rfl) (o_slice_m Try.runUnderlying28 Try.sizeOf3 rfl ⟨_, rfl⟩ rfl hx18)⟩, ?_⟩
          refine gde2_t rfl rfl rfl rfl (o_assign rfl) ?_
          rintro _ _ ⟨rfl, rfl⟩
          refine ⟨⟨⟨trivial, .view (peekE (i := 46) 1 rfl rfl rfl) (o_slice_m Try.runUnderlying28 Try.sizeOf3 rfl rfl ⟨_, rfl⟩ hx14)⟩, .view (peekE (i := 56) 1 rfl rfl rfl) (o_slice_m Try.runUnderlying28 Try.sizeOf3 rfl ⟨_, rfl⟩ rfl hx18)⟩, ?_⟩
          refine gde2_nil ?_
          refine g_conv (refines_shift 0 1 rfl rfl rfl rfl) ?_
          refine g_region ?_
          refine go_p rfl rfl rfl (o_move rfl) ?_
          obtain ⟨hg20, hm2⟩ := grd_some hm2
          refine go_p rfl rfl rfl (o_add rfl rfl (i64_id hg20)) ?_
          refine go_p rfl rfl rfl (o_assign rfl) ?_
          refine go_nil ?_
          exact ⟨_, (_, _), hm2, ⟨rfl, rfl, trivial⟩, ⟨rfl, trivial⟩, [], rfl⟩
    · replace hj1 := cond_f hc1 hj1
      refine g_exit ?_
      exact ⟨_, (_, _), some_eq hj1, ⟨rfl, trivial⟩, trivial, [], rfl⟩
  · rintro l2 ⟨a_r1, cap_r1⟩ hst
    subst hst
    refine k_norm (L' := [(3, .v (.slice a_r1 l2.length cap_r1))]) (ms' := [row a_r1 cap_r1 3 1 D.i64 l2]) rfl rfl ?_
    refine g_seq ?_
    refine g_region ?_
    refine go_p rfl rfl rfl (o_move rfl) ?_
    refine go_p rfl rfl rfl (o_assign rfl) ?_
    refine go_nil ?_
    refine g_conv (peekE (i := 2) 0 rfl rfl rfl).refines ?_
    refine g_ret ?_
    exact retK (ret_one' rfl (ret_tmp rfl) (perm_drop _)) (congrArg (fun (p : (List Int)) => (.list 1 D.i64 p : D)) (some_eq hm1))
def m_syntagmaref28_All_l1 (a1 : AutoAuto) : Nat → (Int × (List Int)) → Option (List Int)
  | 0, _ => none
  | n + 1, (i1, l2) =>
    bif (decide (i1 < (a1.l.length : Int))) then
      (idx a1.l i1).bind fun x1 =>
      grd ((l2.length + x1.vars.length) * 8 ≤ 140737488355328) <|
      grd (InR (i1 + 1)) <|
      m_syntagmaref28_All_l1 a1 n ((i1 + 1), (l2 ++ x1.vars))
    else
      some l2
def m_syntagmaref28_All (a1 : AutoAuto) : Option (List Int) :=
  (m_syntagmaref28_All_l1 a1 FU (0, []) : Option (List Int)).bind fun l1 =>
  (m_syntagmaref15_Set l1).bind fun x2 =>
  some x2
theorem w_syntagmaref28_All {a1 : AutoAuto} {r_1 : (List Int)} (hm : m_syntagmaref28_All a1 = some r_1) : Fn0 Try.prog 54 [AutoAuto.d a1] (.list 1 D.i64 r_1) := by
  unfold m_syntagmaref28_All at hm
  refine fn_intro Try.func54 rfl Try.ntmps54 rfl fun H0 fr w0 => ?_
  refine g_seq ?_
  refine g_region ?_
  refine go_p rfl rfl rfl (o_box rfl rfl) ?_
  refine go_p rfl rfl rfl (o_assign rfl) ?_
  refine go_conv (nilE (i := 2) (sz := 1) (f := D.i64) rfl).refines ?_
  refine go_nil ?_
  refine g_seq ?_
  refine g_region ?_
  refine go_op rfl rfl rfl (o_buildSlice_row (xs := []) (f := D.i64) (l := []) Try.runUnderlying28 Try.sizeOf3 Try.zeroValue3 rfl rfl rfl (fun _ => ⟨rfl, rfl, rfl⟩) rfl (by simp [maxLen])) ?_
  rintro _ _ ⟨a_r1, rfl, rfl⟩
  refine go_p rfl rfl rfl (o_assign rfl) ?_
  refine go_nil ?_
  refine g_seq ?_
  refine g_seq ?_
  refine g_region ?_
  refine go_p rfl rfl rfl (o_assign rfl) ?_
  refine go_nil ?_
  obtain ⟨o_1, hj1, hm1⟩ := bind_some hm
  refine g_cut_m [] [] (fun (st : (List Int)) (hid : (Option Addr × Nat)) => match st, hid with | l1, (a_r1, cap_r1) => [(3, .v (.slice a_r1 l1.length cap_r1))]) (fun F (st : (List Int)) (hid : (Option Addr × Nat)) => match st, hid with | l1, (a_r1, cap_r1) => [row a_r1 cap_r1 3 1 D.i64 l1]) (fun st => st = o_1) trivial trivial ?_ ?_
  · skip
    refine g_block ?_
    refine g_loop_m [(1, _)] [] (fun (st : (Int × (List Int))) (hid : (Option Addr × Nat)) => match st, hid with | (i1, l2), (a_r1, cap_r1) => [(3, .v (.slice a_r1 l2.length cap_r1)), (4, .i64 i1)]) (fun F (st : (Int × (List Int))) (hid : (Option Addr × Nat)) => match st, hid with | (i1, l2), (a_r1, cap_r1) => [row a_r1 cap_r1 3 1 D.i64 l2]) (_, _) hj1 (fun _ => rfl) ⟨rfl, trivial⟩ trivial ⟨rfl, rfl, trivial⟩ rfl ?_
    rintro n ⟨i1, l2⟩ ⟨a_r1, cap_r1⟩ hj1
    rw [m_syntagmaref28_All_l1] at hj1
    refine g_norm (L' := [(3, .v (.slice a_r1 l2.length cap_r1)), (4, .i64 i1), (1, _)]) (ms' := [row a_r1 cap_r1 3 1 D.i64 l2]) rfl rfl ?_
    refine g_seq ?_
    refine g_seq ?_
    refine g_region ?_
    refine go_p rfl rfl rfl (o_move rfl) ?_
    refine go_p rfl rfl rfl (o_fieldAddr fi_74_0 rfl rfl rfl) ?_
    refine go_p rfl rfl rfl (o_load Try.isAgg72 rfl rfl) ?_
    refine go_p rfl rfl rfl (o_len Try.runUnderlying72 rfl) ?_
    refine go_p rfl rfl rfl (o_cmp rfl rfl rfl) ?_
    refine go_nil ?_
    refine g_cond rfl (fun hc1 => ?_) (fun hc1 => ?_)
    · replace hj1 := cond_t hc1 hj1
      refine g_skip ?_
      refine g_seq ?_
      refine g_block ?_
      refine g_region ?_
      refine go_p rfl rfl rfl (o_move rfl) ?_
      refine go_p rfl rfl rfl (o_fieldAddr fi_74_0 rfl rfl rfl) ?_
      refine go_p rfl rfl rfl (o_load Try.isAgg72 rfl rfl) ?_
      refine go_p rfl rfl rfl (o_move rfl) ?_
      obtain ⟨x1, hx1, hj1⟩ := bind_some hj1
      refine go_p rfl rfl rfl (o_indexAddr_m Try.runUnderlying72 Try.sizeOf132 rfl rfl hx1) ?_
      refine go_p rfl rfl rfl (o_fieldAddr fi_132_8 rfl rfl rfl) ?_
      refine go_p rfl rfl rfl (o_load Try.isAgg28 rfl rfl) ?_
      obtain ⟨hg2, hj1⟩ := grd_some hj1
      refine go_op rfl rfl rfl (o_append (a := _) 0 Try.underlying28 Try.type3 rfl rfl rfl rfl rfl rfl rfl (fun _ => rfl) (fun _ => rfl) hg2 (app_len hg2 rfl)) ?_
      rintro _ _ ⟨a_r1, cap_r1, rfl, rfl⟩
      refine go_ms (ms' := [_]) rfl ?_
      refine go_p rfl rfl rfl (o_assign rfl) ?_
      refine go_nil ?_
      refine g_region ?_
      refine go_p rfl rfl rfl (o_move rfl) ?_
      obtain ⟨hg3, hj1⟩ := grd_some hj1
      refine go_p rfl rfl rfl (o_add rfl rfl (i64_id hg3)) ?_
      refine go_p rfl rfl rfl (o_assign rfl) ?_
      refine go_nil ?_
      exact ⟨_, (_, _), hj1, ⟨rfl, rfl, trivial⟩, ⟨rfl, trivial⟩, [], rfl⟩
    · replace hj1 := cond_f hc1 hj1
      refine g_exit ?_
      exact ⟨_, (_, _), some_eq hj1, ⟨rfl, trivial⟩, trivial, [], rfl⟩
  · rintro l1 ⟨a_r1, cap_r1⟩ hst
    subst hst
    refine k_norm (L' := [(3, .v (.slice a_r1 l1.length cap_r1))]) (ms' := [row a_r1 cap_r1 3 1 D.i64 l1]) rfl rfl ?_
    refine g_seq ?_
    refine g_region ?_
    refine go_p rfl rfl rfl (o_move rfl) ?_
    obtain ⟨x2, hx4, hm1⟩ := bind_some hm1
    refine go_p rfl rfl rfl (.view (peekE (i := 21) 0 rfl rfl rfl) (o_call0 Try.call99 rfl (w_syntagmaref15_Set hx4))) ?_
    refine go_p rfl rfl rfl (o_assign rfl) ?_
    refine go_nil ?_
    refine g_ret ?_
    exact retK (ret_one' rfl (ret_tmp rfl) (perm_drop _)) (congrArg (fun (p : (List Int)) => (.list 1 D.i64 p : D)) (some_eq hm1))
def m_syntagmaref28_On_l1 (a1 : AutoAuto) (v1 : Int) (plus1 : Bool) : Nat → Int → Option (Out Bool Unit)
  | 0, _ => none
  | n + 1, i1 =>
    bif (decide (i1 < (a1.l.length : Int))) then
      (idx a1.l i1).bind fun x1 =>
      (bif (x1.plus == plus1) then ((idx a1.l i1).bind fun x2 =>
      (m_syntagmabase_HasInt x2.vars v1).bind fun x3 =>
      some x3) else (some false)).bind fun p1 =>
      bif p1 then
        some (Out.ret true)
      else
        grd (InR (i1 + 1)) <|
        m_syntagmaref28_On_l1 a1 v1 plus1 n (i1 + 1)
    else
      some (Out.go (()))
def m_syntagmaref28_On (a1 : AutoAuto) (v1 : Int) (plus1 : Bool) : Option Bool :=
  ((m_syntagmaref28_On_l1 a1 v1 plus1 FU 0 : Option (Out Bool Unit))).bind (fun oo => oo.on (fun r1 => some r1) (fun _ =>
  some false))
theorem w_syntagmaref28_On {a1 : AutoAuto} {v1 : Int} {plus1 : Bool} {r_1 : Bool} (hm : m_syntagmaref28_On a1 v1 plus1 = some r_1) : Fn0 Try.prog 55 [AutoAuto.d a1, .i64 v1, .bool plus1] (.bool r_1) := by
  unfold m_syntagmaref28_On at hm
  refine fn_intro Try.func55 rfl Try.ntmps55 rfl fun H0 fr w0 => ?_
  refine g_seq ?_
  refine g_region ?_
  refine go_p rfl rfl rfl (o_box rfl rfl) ?_
  refine go_p rfl rfl rfl (o_assign rfl) ?_
  refine go_nil ?_
  refine g_seq ?_
  refine g_seq ?_
  refine g_region ?_
  refine go_p rfl rfl rfl (o_assign rfl) ?_
  refine go_nil ?_
  obtain ⟨o_1, hj1, hm1⟩ := bind_some hm
  refine g_cut_m [] [] (fun (st : Unit) (hid : Unit) => match st, hid with | _, _ => []) (fun F (st : Unit) (hid : Unit) => match st, hid with | _, _ => []) (fun st => Out.go (st) = o_1) trivial trivial ?_ ?_
  · skip
    refine g_block ?_
    refine g_loop_m [(1, _), (2, _), (3, _)] [] (fun (st : Int) (hid : Unit) => match st, hid with | i1, _ => [(7, .i64 i1)]) (fun F (st : Int) (hid : Unit) => match st, hid with | i1, _ => []) () hj1 (fun _ => rfl) ⟨rfl, rfl, rfl, trivial⟩ trivial ⟨rfl, trivial⟩ rfl ?_
    rintro n i1 _ hj1
    rw [m_syntagmaref28_On_l1] at hj1
    refine g_norm (L' := [(7, .i64 i1), (1, _), (2, _), (3, _)]) (ms' := []) rfl rfl ?_
    refine g_seq ?_
    refine g_seq ?_
    refine g_region ?_
    refine go_p rfl rfl rfl (o_move rfl) ?_
    refine go_p rfl rfl rfl (o_fieldAddr fi_74_0 rfl rfl rfl) ?_
    refine go_p rfl rfl rfl (o_load Try.isAgg72 rfl rfl) ?_
    refine go_p rfl rfl rfl (o_len Try.runUnderlying72 rfl) ?_
    refine go_p rfl rfl rfl (o_cmp rfl rfl rfl) ?_
    refine go_nil ?_
    refine g_cond rfl (fun hc1 => ?_) (fun hc1 => ?_)
    · replace hj1 := cond_t hc1 hj1
      refine g_skip ?_
      refine g_seq ?_
      refine g_block ?_
      refine g_seq ?_
      refine g_region ?_
      refine go_p rfl rfl rfl (o_fieldAddr fi_74_0 rfl rfl rfl) ?_
      refine go_p rfl rfl rfl (o_load Try.isAgg72 rfl rfl) ?_
      refine go_p rfl rfl rfl (o_move rfl) ?_
      obtain ⟨x1, hx1, hj1⟩ := bind_some hj1
      refine go_p rfl rfl rfl (o_indexAddr_m Try.runUnderlying72 Try.sizeOf132 rfl rfl hx1) ?_
      refine go_p rfl rfl rfl (o_fieldAddr fi_132_0 rfl rfl rfl) ?_
      refine go_p rfl rfl rfl (o_load Try.isAgg4 rfl rfl) ?_
      refine go_p rfl rfl rfl (o_move rfl) ?_
      refine go_p rfl rfl rfl (o_cmpb Try.runUnderlying4 rfl rfl) ?_
      refine go_p rfl rfl rfl (o_move rfl) ?_
      obtain ⟨p1, hp_1, hj1⟩ := bind_some hj1
      refine go_two [(1, _), (2, _), (3, _), (7, _)] 9 32 p1 (t := 23) ⟨rfl, rfl, rfl, rfl, trivial⟩ rfl (fun hg_1 hk1 => ?_) (fun hg_1 hk1 => ?_) ?_
      · replace hp_1 := cond_t hg_1 hp_1
        refine go_wantp rfl rfl rfl hg_1 rfl rfl (o_fieldAddr fi_74_0 rfl rfl rfl) ?_
        refine go_wantp rfl rfl rfl hg_1 rfl rfl (o_load Try.isAgg72 rfl rfl) ?_
        refine go_wantp rfl rfl rfl hg_1 rfl rfl (o_move rfl) ?_
        obtain ⟨x2, hx2, hp_1⟩ := bind_some hp_1
        refine go_wantp rfl rfl rfl hg_1 rfl rfl (o_indexAddr_m Try.runUnderlying72 Try.sizeOf132 rfl rfl hx2) ?_
        refine go_wantp rfl rfl rfl hg_1 rfl rfl (o_fieldAddr fi_132_8 rfl rfl rfl) ?_
        refine go_wantp rfl rfl rfl hg_1 rfl rfl (o_load Try.isAgg28 rfl rfl) ?_
        refine go_wantp rfl rfl rfl hg_1 rfl rfl (o_move rfl) ?_
        obtain ⟨x3, hx3, hp_1⟩ := bind_some hp_1
        refine go_wantp rfl rfl rfl hg_1 rfl rfl (o_call0 Try.call97 rfl (w_syntagmabase_HasInt hx3)) ?_
        refine go_p rfl rfl rfl (o_pickT rfl hg_1 rfl) ?_
        exact go_meet hk1 (congrArg (fun b => some (D.bool b)) (some_eq hp_1)) ⟨rfl, rfl, rfl, rfl, trivial⟩
      · replace hp_1 := cond_f hg_1 hp_1
        refine go_skip rfl rfl rfl hg_1 rfl rfl ?_
        refine go_skip rfl rfl rfl hg_1 rfl rfl ?_
        refine go_skip rfl rfl rfl hg_1 rfl rfl ?_
        refine go_skip rfl rfl rfl hg_1 rfl rfl ?_
        refine go_skip rfl rfl rfl hg_1 rfl rfl ?_
        refine go_skip rfl rfl rfl hg_1 rfl rfl ?_
        refine go_skip rfl rfl rfl hg_1 rfl rfl ?_
        refine go_skip rfl rfl rfl hg_1 rfl rfl ?_
        refine go_p rfl rfl rfl (o_pickF rfl hg_1 rfl) ?_
        exact go_meet hk1 (congrArg (fun b => some (D.bool b)) (some_eq hp_1)) ⟨rfl, rfl, rfl, rfl, trivial⟩
      refine go_nil ?_
      refine g_cond rfl (fun hc2 => ?_) (fun hc2 => ?_)
      · replace hj1 := cond_t hc2 hj1
        refine g_seq ?_
        refine g_region ?_
        refine go_p rfl rfl rfl (o_assign rfl) ?_
        refine go_nil ?_
        refine g_ret ?_
        obtain rfl := some_eq hj1
        replace hm1 := on_ret hm1
        exact retK (ret_one' rfl (ret_tmp rfl) (perm_drop _)) (congrArg (fun (p : Bool) => (.bool p : D)) (some_eq hm1))
      · replace hj1 := cond_f hc2 hj1
        refine g_skip ?_
        refine g_region ?_
        refine go_p rfl rfl rfl (o_move rfl) ?_
        obtain ⟨hg4, hj1⟩ := grd_some hj1
        refine go_p rfl rfl rfl (o_add rfl rfl (i64_id hg4)) ?_
        refine go_p rfl rfl rfl (o_assign rfl) ?_
        refine go_nil ?_
        exact ⟨_, (), hj1, ⟨rfl, trivial⟩, ⟨rfl, rfl, rfl, trivial⟩, [], rfl⟩
    · replace hj1 := cond_f hc1 hj1
      refine g_exit ?_
      exact ⟨_, (), some_eq hj1, trivial, trivial, [], rfl⟩
  · rintro _ _ hst
    subst hst
    replace hm1 := on_go hm1
    refine k_norm (L' := []) (ms' := []) rfl rfl ?_
    refine g_seq ?_
    refine g_region ?_
    refine go_p rfl rfl rfl (o_assign rfl) ?_
    refine go_nil ?_
    refine g_ret ?_
    exact retK (ret_one' rfl (ret_tmp rfl) (perm_drop _)) (congrArg (fun (p : Bool) => (.bool p : D)) (some_eq hm1))
def m_syntagmabase_SameInts_l1 (a1 : (List Int)) (b1 : (List Int)) : Nat → Int → Option (Out Bool Unit)
  | 0, _ => none
  | n + 1, i1 =>
    bif (decide (i1 < (a1.length : Int))) then
      (idx a1 i1).bind fun x1 =>
      (idx b1 i1).bind fun x2 =>
      bif (!decide (x1 = x2)) then
        some (Out.ret false)
      else
        grd (InR (i1 + 1)) <|
        m_syntagmabase_SameInts_l1 a1 b1 n (i1 + 1)
    else
      some (Out.go (()))
def m_syntagmabase_SameInts (a1 : (List Int)) (b1 : (List Int)) : Option Bool :=
  bif (!decide ((a1.length : Int) = (b1.length : Int))) then
    some false
  else
    ((m_syntagmabase_SameInts_l1 a1 b1 FU 0 : Option (Out Bool Unit))).bind (fun oo => oo.on (fun r1 => some r1) (fun _ =>
    some true))
theorem w_syntagmabase_SameInts {a1 : (List Int)} {b1 : (List Int)} {r_1 : Bool} (hm : m_syntagmabase_SameInts a1 b1 = some r_1) : Fn0 Try.prog 18 [.list 1 D.i64 a1, .list 1 D.i64 b1] (.bool r_1) := by
  unfold m_syntagmabase_SameInts at hm
  refine fn_intro Try.func18 rfl Try.ntmps18 rfl fun H0 fr w0 => ?_
  refine g_seq ?_
  refine g_region ?_
  refine go_p rfl rfl rfl (o_assign rfl) ?_
  refine go_nil ?_
  refine g_seq ?_
  refine g_seq ?_
  refine g_region ?_
  refine go_p rfl rfl rfl (o_move rfl) ?_
  refine go_p rfl rfl rfl (o_len Try.runUnderlying28 rfl) ?_
  refine go_p rfl rfl rfl (o_move rfl) ?_
  refine go_p rfl rfl rfl (o_len Try.runUnderlying28 rfl) ?_
  refine go_p rfl rfl rfl (o_cmp rfl rfl rfl) ?_
  refine go_nil ?_
  refine g_cond rfl (fun hc1 => ?_) (fun hc1 => ?_)
  · replace hm := cond_t hc1 hm
    refine g_seq ?_
    refine g_region ?_
    refine go_p rfl rfl rfl (o_assign rfl) ?_
    refine go_nil ?_
    refine g_ret ?_
    exact retK (ret_one' rfl (ret_tmp rfl) (perm_drop _)) (congrArg (fun (p : Bool) => (.bool p : D)) (some_eq hm))
  · replace hm := cond_f hc1 hm
    refine g_skip ?_
    refine g_seq ?_
    refine g_seq ?_
    refine g_region ?_
    refine go_p rfl rfl rfl (o_assign rfl) ?_
    refine go_nil ?_
    obtain ⟨o_1, hj1, hm1⟩ := bind_some hm
    refine g_cut_m [] [] (fun (st : Unit) (hid : Unit) => match st, hid with | _, _ => []) (fun F (st : Unit) (hid : Unit) => match st, hid with | _, _ => []) (fun st => Out.go (st) = o_1) trivial trivial ?_ ?_
    · skip
      refine g_block ?_
      refine g_loop_m [(0, _), (1, _)] [] (fun (st : Int) (hid : Unit) => match st, hid with | i1, _ => [(5, .i64 i1)]) (fun F (st : Int) (hid : Unit) => match st, hid with | i1, _ => []) () hj1 (fun _ => rfl) ⟨rfl, rfl, trivial⟩ trivial ⟨rfl, trivial⟩ rfl ?_
      rintro n i1 _ hj1
      rw [m_syntagmabase_SameInts_l1] at hj1
      refine g_norm (L' := [(5, .i64 i1), (0, _), (1, _)]) (ms' := []) rfl rfl ?_
      refine g_seq ?_
      refine g_seq ?_
      refine g_region ?_
      refine go_p rfl rfl rfl (o_move rfl) ?_
      refine go_p rfl rfl rfl (o_move rfl) ?_
      refine go_p rfl rfl rfl (o_len Try.runUnderlying28 rfl) ?_
      refine go_p rfl rfl rfl (o_cmp rfl rfl rfl) ?_
      refine go_nil ?_
      refine g_cond rfl (fun hc2 => ?_) (fun hc2 => ?_)
      · replace hj1 := cond_t hc2 hj1
        refine g_skip ?_
        refine g_seq ?_
        refine g_block ?_
        refine g_seq ?_
        obtain ⟨x1, hx1, hj1⟩ := bind_some hj1
        obtain ⟨x2, hx2, hj1⟩ := bind_some hj1
        refine g_draw 9 Try_mixed (by decide +kernel) ?_
        refine gd_p rfl rfl rfl (o_move rfl) ?_
        refine gd_p rfl rfl rfl (o_move rfl) ?_
        refine gd_p rfl rfl rfl (o_indexAddr_m Try.runUnderlying28 Try.sizeOf3 rfl rfl hx1) ?_
        refine gd_p rfl rfl rfl (o_load Try.isAgg3 rfl rfl) ?_
        refine gd_p rfl rfl rfl (o_move rfl) ?_
        refine gd_p rfl rfl rfl (o_move rfl) ?_
        refine gd_p rfl rfl rfl (o_indexAddr_m Try.runUnderlying28 Try.sizeOf3 rfl rfl hx2) ?_
        refine gd_p rfl rfl rfl (o_load Try.isAgg3 rfl rfl) ?_
        refine gd_p rfl rfl rfl (o_cmp rfl rfl rfl) ?_
        refine gd_nil ?_
        refine go_nil ?_
        refine g_cond rfl (fun hc3 => ?_) (fun hc3 => ?_)
        · replace hj1 := cond_t hc3 hj1
          refine g_seq ?_
          refine g_region ?_
          refine go_p rfl rfl rfl (o_assign rfl) ?_
          refine go_nil ?_
          refine g_ret ?_
          obtain rfl := some_eq hj1
          replace hm1 := on_ret hm1
          exact retK (ret_one' rfl (ret_tmp rfl) (perm_drop _)) (congrArg (fun (p : Bool) => (.bool p : D)) (some_eq hm1))
        · replace hj1 := cond_f hc3 hj1
          refine g_skip ?_
          refine g_region ?_
          refine go_p rfl rfl rfl (o_move rfl) ?_
          obtain ⟨hg3, hj1⟩ := grd_some hj1
          refine go_p rfl rfl rfl (o_add rfl rfl (i64_id hg3)) ?_
          refine go_p rfl rfl rfl (o_assign rfl) ?_
          refine go_nil ?_
          exact ⟨_, (), hj1, ⟨rfl, trivial⟩, ⟨rfl, rfl, trivial⟩, [], rfl⟩
      · replace hj1 := cond_f hc2 hj1
        refine g_exit ?_
        exact ⟨_, (), some_eq hj1, trivial, trivial, [], rfl⟩
    · rintro _ _ hst
      subst hst
      replace hm1 := on_go hm1
      refine k_norm (L' := []) (ms' := []) rfl rfl ?_
      refine g_seq ?_
      refine g_region ?_
      refine go_p rfl rfl rfl (o_assign rfl) ?_
      refine go_nil ?_
      refine g_ret ?_
      exact retK (ret_one' rfl (ret_tmp rfl) (perm_drop _)) (congrArg (fun (p : Bool) => (.bool p : D)) (some_eq hm1))
def AutoEdge.eqv (x y : AutoEdge) : Bool := ((x.name == y.name) && ((x.to_ == y.to_) && true))
theorem eqf_137 : ∀ fs : Array Field, Try.prog.underlying 137 = some (.struct fs) → EqFields Try.prog fs.toList 0 [.str, .int] := by
  intro fs h
  have := h.symm.trans Try.underlying137
  simp only [Option.some.injEq, TypeDesc.struct.injEq] at this
  subst this
  exact ⟨by decide, rfl, Try.isAgg9, Try.underlying9, ⟨by decide, rfl, Try.isAgg3, ⟨_, Try.underlying3⟩, trivial⟩⟩
def m_syntagmaref24_sameEdges_l1 (a1 : (List AutoEdge)) (b1 : (List AutoEdge)) : Nat → Int → Option (Out Bool Unit)
  | 0, _ => none
  | n + 1, i1 =>
    bif (decide (i1 < (a1.length : Int))) then
      (idx a1 i1).bind fun x1 =>
      (idx b1 i1).bind fun x2 =>
      bif (!(AutoEdge.eqv x1 x2)) then
        some (Out.ret false)
      else
        grd (InR (i1 + 1)) <|
        m_syntagmaref24_sameEdges_l1 a1 b1 n (i1 + 1)
    else
      some (Out.go (()))
def m_syntagmaref24_sameEdges (a1 : (List AutoEdge)) (b1 : (List AutoEdge)) : Option Bool :=
  bif (!decide ((a1.length : Int) = (b1.length : Int))) then
    some false
  else
    ((m_syntagmaref24_sameEdges_l1 a1 b1 FU 0 : Option (Out Bool Unit))).bind (fun oo => oo.on (fun r1 => some r1) (fun _ =>
    some true))
end Go.Proofs.Ytafphfokopkhdaa
