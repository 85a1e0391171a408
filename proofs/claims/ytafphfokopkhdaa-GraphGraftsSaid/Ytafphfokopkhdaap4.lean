/- Part 4 of the proof: a program logic, what the functions compute, and what these answer; no condition. -/
import Derived.Test.Ytafphfokopkhdaap3
import Derived.Shelf.Sort.Plain
import Derived.Ground.Names2Prog
import Derived.Shelf.Slices.CompactI
import Derived.Shelf.Slices.In.SortNone
import Derived.Test.YtafphfokopkhdaaProg
set_option linter.unusedVariables false
set_option linter.unusedSimpArgs false
set_option maxRecDepth 100000
set_option maxHeartbeats 2000000
namespace Go.Proofs.Ytafphfokopkhdaa
open Go.V
theorem w_graph_Ground {t1 : ApiType} {r_1 : Bool} (hm : m_graph_Ground t1 = some r_1) : Fn0 Try.prog 35 [ApiType.d t1] (.bool r_1) := by
  unfold m_graph_Ground at hm
  refine fn_intro Try.func35 rfl Try.ntmps35 rfl fun H0 fr w0 => ?_
  refine g_seq ?_
  refine g_region ?_
  refine go_p rfl rfl rfl (o_box rfl rfl) ?_
  refine go_p rfl rfl rfl (o_assign rfl) ?_
  refine go_nil ?_
  refine g_seq ?_
  refine g_region ?_
  refine go_p rfl rfl rfl (o_load_agg Try.isAgg53 Try.sizeOf53 rfl rfl) ?_
  obtain ⟨x1, hx1, hm⟩ := bind_some hm
  refine go_p rfl rfl rfl (o_call0 Try.call31 rfl (w_graph_May hx1)) ?_
  refine go_p rfl rfl rfl (o_cmp rfl rfl rfl) ?_
  refine go_p rfl rfl rfl (o_move rfl) ?_
  obtain ⟨p1, hp_1, hm⟩ := bind_some hm
  refine go_two [] 5 11 p1 (t := 6) trivial rfl (fun hg_1 hk1 => ?_) (fun hg_1 hk1 => ?_) ?_
  · replace hp_1 := cond_t hg_1 hp_1
    refine go_wantp rfl rfl rfl hg_1 rfl rfl (o_load_agg Try.isAgg53 Try.sizeOf53 rfl rfl) ?_
    obtain ⟨x2, hx2, hp_1⟩ := bind_some hp_1
    refine go_wantp rfl rfl rfl hg_1 rfl rfl (o_call0 Try.call34 rfl (w_graph_Vars hx2)) ?_
    refine go_wantp rfl rfl rfl hg_1 rfl rfl (o_len Try.runUnderlying28 rfl) ?_
    refine go_wantp rfl rfl rfl hg_1 rfl rfl (o_cmp rfl rfl rfl) ?_
    refine go_p rfl rfl rfl (o_pickT rfl hg_1 rfl) ?_
    exact go_meet hk1 (congrArg (fun b => some (D.bool b)) (some_eq hp_1)) trivial
  · replace hp_1 := cond_f hg_1 hp_1
    refine go_skip rfl rfl rfl hg_1 rfl rfl ?_
    refine go_skip rfl rfl rfl hg_1 rfl rfl ?_
    refine go_skip rfl rfl rfl hg_1 rfl rfl ?_
    refine go_skip rfl rfl rfl hg_1 rfl rfl ?_
    refine go_p rfl rfl rfl (o_pickF rfl hg_1 rfl) ?_
    exact go_meet hk1 (congrArg (fun b => some (D.bool b)) (some_eq hp_1)) trivial
  refine go_p rfl rfl rfl (o_assign rfl) ?_
  refine go_nil ?_
  refine g_ret ?_
  exact retK (ret_one' rfl (ret_tmp rfl) (perm_drop _)) (congrArg (fun (p : Bool) => (.bool p : D)) (some_eq hm))
def m_graph_moved_l1 (to1 : (Int → Option Int)) (z4 : (List ApiTField)) : Nat → (Int × (List ApiTField) × Int × Int × Int) → Option ((List ApiTField) × Int × Int × Int)
  | 0, _ => none
  | n + 1, (x4, l2, z8, z9, z10) =>
    bif (decide (x4 < (z4.length : Int))) then
      (idx l2 x4).bind fun x5 =>
      (to1 x5.at_).bind fun x6 =>
      (idx l2 x4).bind fun x7 =>
      grd (InR (x4 + 1)) <|
      m_graph_moved_l1 to1 z4 n ((x4 + 1), (l2.set (x4).toNat (⟨x7.name, x6⟩ : ApiTField)), z8, z9, z10)
    else
      some (l2, z8, z9, z10)
def m_graph_moved (n1 : ApiTNode) (to1 : (Int → Option Int)) : Option ApiTNode :=
  (m_graph_pair n1.kind).bind fun x1 =>
  (bif x1 then
    (to1 n1.a).bind fun x2 =>
    (to1 n1.b).bind fun x3 =>
    some (n1.kind, x2, x3, n1.l)
  else
    some (n1.kind, n1.a, n1.b, n1.l) : Option (Int × Int × Int × (List ApiTField))).bind fun (z1, z2, z3, z4) =>
  grd (z4.length * 24 ≤ 140737488355328) <|
  (m_graph_moved_l1 to1 z4 FU (0, z4, z1, z2, z3) : Option ((List ApiTField) × Int × Int × Int)).bind fun (l1, z5, z6, z7) =>
  some (⟨z5, z6, z7, l1⟩ : ApiTNode)
theorem w_graph_moved {n1 : ApiTNode} {to1 : (Int → Option Int)} {r_1 : ApiTNode} {tl_0 : List Asrt} {fv_to1 : D} (hfto1 : FunOk1T Try.prog fv_to1 D.i64 D.i64 tl_0 to1) (hm : m_graph_moved n1 to1 = some r_1) : FnT Try.prog 84 [ApiTNode.d n1, fv_to1] tl_0 (ApiTNode.d r_1) := by
  unfold m_graph_moved at hm
  refine fn_intro Try.func84 rfl Try.ntmps84 rfl fun H0 fr w0 => ?_
  refine g_seq ?_
  refine g_region ?_
  refine go_op rfl rfl rfl (o_box_own rfl rfl rfl) ?_
  rintro _ _ ⟨b1, rfl, rfl⟩
  refine go_op rfl rfl rfl (o_alloc_own Try.zeroValue56 (cs := [.i64 0, .i64 0, .i64 0, .list 2 ApiTField.d []]) rfl) ?_
  rintro _ _ ⟨b2, rfl, rfl⟩
  refine go_nil ?_
  refine g_seq ?_
  refine g_seq ?_
  refine g_region ?_
  refine go_p rfl rfl rfl (o_fieldAddr_box fi_56_0 rfl) ?_
  refine go_p rfl rfl rfl (o_load_box 1 Try.isAgg3 rfl rfl rfl rfl) ?_
  obtain ⟨x1, hx1, hm⟩ := bind_some hm
  refine go_p rfl rfl rfl (o_call0 Try.call77 rfl (w_graph_pair hx1)) ?_
  refine go_nil ?_
  obtain ⟨o_1, hj1, hm1⟩ := bind_some hm
  refine g_cut_m [(1, _), (2, _), (4, _)] [(0, _)] (fun (st : (Int × Int × Int × (List ApiTField))) (hid : Unit) => match st, hid with | (z1, z2, z3, z4), _ => []) (fun F (st : (Int × Int × Int × (List ApiTField))) (hid : Unit) => match st, hid with | (z1, z2, z3, z4), _ => [(nthF F 0), box b1 56 [.i64 z1, .i64 z2, .i64 z3, .list 2 ApiTField.d z4]] ++ tl_0) (fun st => st = o_1) ⟨rfl, rfl, rfl, trivial⟩ ⟨rfl, trivial⟩ ?_ ?_
  · skip
    refine g_cond rfl (fun hc1 => ?_) (fun hc1 => ?_)
    · replace hj1 := cond_t hc1 hj1
      obtain ⟨x2, hx2, hj1⟩ := bind_some hj1
      obtain ⟨x3, hx3, hj1⟩ := bind_some hj1
      refine g_draw 9 Try_mixed (by decide +kernel) ?_
      refine gd_p rfl rfl rfl (o_move rfl) ?_
      refine gd_p rfl rfl rfl (o_fieldAddr_box fi_56_1 rfl) ?_
      refine gd_p rfl rfl rfl (o_load_box 1 Try.isAgg3 rfl rfl rfl rfl) ?_
      refine gd_p rfl rfl rfl (o_callv_t (tl := tl_0) [_, _] rfl rfl rfl (hfto1 _ _ hx2)) ?_
      refine gd_p rfl rfl rfl (o_move rfl) ?_
      refine gd_p rfl rfl rfl (o_fieldAddr_box fi_56_2 rfl) ?_
      refine gd_p rfl rfl rfl (o_load_box 1 Try.isAgg3 rfl rfl rfl rfl) ?_
      refine gd_p rfl rfl rfl (o_callv_t (tl := tl_0) [_, _] rfl rfl rfl (hfto1 _ _ hx3)) ?_
      refine gd_p rfl rfl rfl (o_fieldAddr_box fi_56_1 rfl) ?_
      refine gd_nil ?_
      refine go_u rfl rfl (o_store_box 1 Try.sizeOf3 rfl rfl rfl rfl rfl rfl rfl rfl (Nat.le_of_ble_eq_true rfl)) ?_
      rintro _ _ rfl
      refine go_ms (ms' := [box b2 56 [_, _, _, _], box b1 56 [_, _, _, _]] ++ tl_0) rfl ?_
      refine go_p rfl rfl rfl (o_fieldAddr_box fi_56_2 rfl) ?_
      refine go_u rfl rfl (o_store_box 1 Try.sizeOf3 rfl rfl rfl rfl rfl rfl rfl rfl (Nat.le_of_ble_eq_true rfl)) ?_
      rintro _ _ rfl
      refine go_ms (ms' := [box b2 56 [_, _, _, _], box b1 56 [_, _, _, _]] ++ tl_0) rfl ?_
      refine go_nil ?_
      exact ⟨_, (), some_eq hj1, trivial, ⟨rfl, rfl, rfl, trivial⟩, [], rfl⟩
    · replace hj1 := cond_f hc1 hj1
      refine g_skip ?_
      exact ⟨_, (), some_eq hj1, trivial, ⟨rfl, rfl, rfl, trivial⟩, [], rfl⟩
  · rintro ⟨z1, z2, z3, z4⟩ _ hst
    subst hst
    refine k_norm (L' := [(1, _), (2, _), (4, _)]) (ms' := [_, box b1 56 [.i64 z1, .i64 z2, .i64 z3, .list 2 ApiTField.d z4]] ++ tl_0) rfl rfl ?_
    refine g_seq ?_
    refine g_region ?_
    refine go_p rfl rfl rfl (o_fieldAddr_box fi_56_3 rfl) ?_
    refine go_p rfl rfl rfl (o_load_box 1 Try.isAgg54 rfl rfl rfl rfl) ?_
    obtain ⟨hg4, hm1⟩ := grd_some hm1
    refine go_op rfl rfl rfl (o_call (ms₁ := []) Try.call106 rfl (List.Perm.refl _) (w_Clone_106 hg4)) ?_
    rintro _ _ ⟨_, ⟨a_r1, cap_r1, rfl, rfl⟩, rfl⟩
    generalize hm_r1 : z4.length = m_r1
    clear hm_r1
    refine go_p rfl rfl rfl (o_fieldAddr_box fi_56_3 rfl) ?_
    refine go_u rfl rfl (o_store_box 2 Try.sizeOf54 rfl rfl rfl rfl rfl rfl rfl rfl (Nat.le_of_ble_eq_true rfl)) ?_
    rintro _ _ rfl
    refine go_ms (ms' := [_, box b2 56 [_, _, _, _], box b1 56 [_, _, _, _]] ++ tl_0) rfl ?_
    refine go_nil ?_
    refine g_seq ?_
    refine g_seq ?_
    refine g_region ?_
    refine go_p rfl rfl rfl (o_fieldAddr_box fi_56_3 rfl) ?_
    refine go_p rfl rfl rfl (o_load_box 2 Try.isAgg54 rfl rfl rfl rfl) ?_
    refine go_p rfl rfl rfl (o_len_arr 0 Try.runUnderlying54 rfl rfl) ?_
    refine go_p rfl rfl rfl (o_move rfl) ?_
    refine go_nil ?_
    obtain ⟨o_2, hj2, hm2⟩ := bind_some hm1
    refine g_cut_m [(2, _), (4, _)] [(1, _)] (fun (st : ((List ApiTField) × Int × Int × Int)) (hid : Unit) => match st, hid with | (l1, z5, z6, z7), _ => []) (fun F (st : ((List ApiTField) × Int × Int × Int)) (hid : Unit) => match st, hid with | (l1, z5, z6, z7), _ => [arr a_r1 m_r1 cap_r1 100 2 ApiTField.d l1, (nthF F 0), box b1 56 [.i64 z5, .i64 z6, .i64 z7, .v (.slice a_r1 m_r1 cap_r1)]] ++ tl_0) (fun st => st = o_2) ⟨rfl, rfl, trivial⟩ ⟨rfl, trivial⟩ ?_ ?_
    · skip
      refine g_block ?_
      refine g_loop_m [(1, _), (2, _), (4, _), (25, _)] [(1, _)] (fun (st : (Int × (List ApiTField) × Int × Int × Int)) (hid : Unit) => match st, hid with | (x4, l2, z8, z9, z10), _ => [(26, .i64 x4)]) (fun F (st : (Int × (List ApiTField) × Int × Int × Int)) (hid : Unit) => match st, hid with | (x4, l2, z8, z9, z10), _ => [arr a_r1 m_r1 cap_r1 100 2 ApiTField.d l2, (nthF F 0), box b1 56 [.i64 z8, .i64 z9, .i64 z10, .v (.slice a_r1 m_r1 cap_r1)]] ++ tl_0) () hj2 (fun _ => rfl) ⟨rfl, rfl, rfl, rfl, trivial⟩ ⟨rfl, trivial⟩ ⟨rfl, trivial⟩ rfl ?_
      rintro n ⟨x4, l2, z8, z9, z10⟩ ⟨⟩ hj2
      rw [m_graph_moved_l1] at hj2
      refine g_norm (L' := [(26, .i64 x4), (1, _), (2, _), (4, _), (25, _)]) (ms' := [arr a_r1 m_r1 cap_r1 100 2 ApiTField.d l2, _, box b1 56 [.i64 z8, .i64 z9, .i64 z10, .v (.slice a_r1 m_r1 cap_r1)]] ++ tl_0) rfl rfl ?_
      refine g_seq ?_
      refine g_region ?_
      refine go_p rfl rfl rfl (o_cmp rfl rfl rfl) ?_
      refine go_nil ?_
      refine g_seq ?_
      refine g_cond rfl (fun hc2 => ?_) (fun hc2 => ?_)
      · replace hj2 := cond_t hc2 hj2
        refine g_skip ?_
        refine g_seq ?_
        refine g_block ?_
        refine g_seq ?_
        refine g_region ?_
        refine go_p rfl rfl rfl (o_move rfl) ?_
        refine go_p rfl rfl rfl (o_assign rfl) ?_
        refine go_nil ?_
        obtain ⟨x5, hx5, hj2⟩ := bind_some hj2
        obtain ⟨x6, hx6, hj2⟩ := bind_some hj2
        obtain ⟨x7, hx7, hj2⟩ := bind_some hj2
        refine g_draw 13 Try_mixed (by decide +kernel) ?_
        refine gd_p rfl rfl rfl (o_fieldAddr_box fi_56_3 rfl) ?_
        refine gd_p rfl rfl rfl (o_load_box 2 Try.isAgg54 rfl rfl rfl rfl) ?_
        refine gd_p rfl rfl rfl (o_move rfl) ?_
        refine gd_p rfl rfl rfl (o_move rfl) ?_
        refine gd_p rfl rfl rfl (o_fieldAddr_box fi_56_3 rfl) ?_
        refine gd_p rfl rfl rfl (o_load_box 2 Try.isAgg54 rfl rfl rfl rfl) ?_
        refine gd_p rfl rfl rfl (o_move rfl) ?_
        refine gd_p rfl rfl rfl (o_indexAddr_arr 0 Try.runUnderlying54 Try.sizeOf100 rfl rfl rfl hx5) ?_
        refine gd_p rfl rfl rfl (o_fieldAddr_apt (b := 0) 0 fi_100_1 rfl rfl (idx_some hx5).2) ?_
        refine gd_p rfl rfl rfl (o_load_arr (off := 1) 0 Try.isAgg3 rfl rfl (idx_some hx5).2 rfl rfl rfl) ?_
        refine gd_p rfl rfl rfl (o_callv_t (tl := tl_0) [_, _, _] rfl rfl rfl (hfto1 _ _ hx6)) ?_
        refine gd_p rfl rfl rfl (o_indexAddr_arr 0 Try.runUnderlying54 Try.sizeOf100 rfl rfl rfl hx7) ?_
        refine gd_p rfl rfl rfl (o_fieldAddr_apt (b := 0) 0 fi_100_1 rfl rfl (idx_some hx7).2) ?_
        refine gd_nil ?_
        refine go_u rfl rfl (o_store_arr (off := 1) (z' := (⟨x7.name, x6⟩ : ApiTField)) 0 Try.sizeOf3 rfl rfl (idx_some hx7).2 rfl rfl rfl rfl rfl rfl (Nat.le_of_ble_eq_true rfl) rfl rfl) ?_
        rintro _ _ rfl
        refine go_ms (ms' := [_, box b2 56 [_, _, _, _], box b1 56 [_, _, _, _]] ++ tl_0) rfl ?_
        refine go_nil ?_
        refine g_region ?_
        obtain ⟨hg8, hj2⟩ := grd_some hj2
        refine go_p rfl rfl rfl (o_add rfl rfl (i64_id hg8)) ?_
        refine go_p rfl rfl rfl (o_move rfl) ?_
        refine go_nil ?_
        exact ⟨_, (), hj2, ⟨rfl, trivial⟩, ⟨rfl, rfl, rfl, rfl, trivial⟩, [], rfl⟩
      · replace hj2 := cond_f hc2 hj2
        refine g_exit ?_
        exact ⟨_, (), some_eq hj2, trivial, ⟨rfl, rfl, trivial⟩, [], rfl⟩
    · rintro ⟨l1, z5, z6, z7⟩ ⟨⟩ hst
      subst hst
      refine k_norm (L' := [(2, _), (4, _)]) (ms' := [arr a_r1 m_r1 cap_r1 100 2 ApiTField.d l1, _, box b1 56 [.i64 z5, .i64 z6, .i64 z7, .v (.slice a_r1 m_r1 cap_r1)]] ++ tl_0) rfl rfl ?_
      refine g_seq ?_
      refine g_region ?_
      refine go_thaw 0 rfl rfl ?_
      rintro rfl
      refine go_p rfl rfl rfl (o_load_box_agg 2 Try.isAgg56 Try.sizeOf56 rfl rfl rfl rfl (Nat.le_of_ble_eq_true rfl)) ?_
      refine go_conv (peekAggE (i := 43) (q := 3) 0 rfl rfl rfl rfl rfl).refines ?_
      refine go_u rfl rfl (o_store_box 1 Try.sizeOf56 rfl rfl rfl rfl rfl rfl rfl rfl (Nat.le_of_ble_eq_true rfl)) ?_
      rintro _ _ rfl
      refine go_ms (ms' := [_, box b2 56 [_, _, _, _], box b1 56 [_, _, _, _]] ++ tl_0) rfl ?_
      refine go_nil ?_
      refine g_ret ?_
      exact retK (ret_one' (ms' := tl_0) (drop := [_, _, _]) rfl (ret_cell 1 rfl rfl rfl Try.isAgg56 Try.sizeOf56 rfl) (List.Perm.refl _)) ⟨congrArg (fun (p : ApiTNode) => (ApiTNode.d p : D)) (some_eq hm2), rfl⟩
def m_graph_norm_1 (k1 : Int) (z1 : (List (Int × Int))) : Option Int :=
  some ((mget z1 k1).getD (0 : Int))
theorem w_graph_norm_1 {k1 : Int} {z1 : (List (Int × Int))} {r_1 : Int} {b_q1 : Nat} (hm : m_graph_norm_1 k1 z1 = some r_1) : FnT Try.prog 123 [.i64 k1, .ref (.v (.map (some b_q1)))] [mp b_q1 kI64 D.i64 z1] (.i64 r_1) := by
  unfold m_graph_norm_1 at hm
  refine fn_intro Try.func123 rfl Try.ntmps123 rfl fun H0 fr w0 => ?_
  refine g_seq ?_
  refine g_region ?_
  refine go_p rfl rfl rfl (o_assign rfl) ?_
  refine go_nil ?_
  refine g_seq ?_
  refine g_region ?_
  refine go_p rfl rfl rfl (o_load Try.isAgg139 rfl rfl) ?_
  refine go_p rfl rfl rfl (o_move rfl) ?_
  refine go_p rfl rfl rfl (o_lookup (z0 := (0 : Int)) 0 Try.runUnderlying139 (keyI64 Try.underlying3) Try.zeroValue3 (fun _ => conc_v.2 rfl) rfl rfl rfl) ?_
  refine go_p rfl rfl rfl (o_assign rfl) ?_
  refine go_nil ?_
  refine g_ret ?_
  exact retK (ret_one' (ms' := [_]) (drop := []) rfl (ret_tmp rfl) (List.Perm.refl _)) ⟨congrArg (fun (p : Int) => (.i64 p : D)) (some_eq hm), rfl⟩
def m_graph_norm_r1  : List Int → ((List Int) × (List (Int × Int))) → Option ((List Int) × (List (Int × Int)))
  | [], (l2, mm2) =>
    some (l2, mm2)
  | x1 :: rr, (l2, mm2) =>
    grd ((l2.length + ([x1] : List _).length) * 8 ≤ 140737488355328) <|
    m_graph_norm_r1 rr ((l2 ++ [x1]), (mset mm2 x1 (l2.length : Int)))
def m_graph_norm_l2 (t1 : ApiType) (l1 : (List Int)) (mm1 : (List (Int × Int))) : Nat → (Int × (List ApiTNode) × Int) → Option ((List ApiTNode) × Int)
  | 0, _ => none
  | n + 1, (x2, l4, z2) =>
    bif (decide (x2 < (l1.length : Int))) then
      (idx l1 x2).bind fun x3 =>
      (idx t1.l x3).bind fun x4 =>
      (m_graph_moved x4 (fun y0 => m_graph_norm_1 y0 mm1)).bind fun x5 =>
      grd ((l4.length + ([x5] : List _).length) * 48 ≤ 140737488355328) <|
      grd (InR (x2 + 1)) <|
      m_graph_norm_l2 t1 l1 mm1 n ((x2 + 1), (l4 ++ [x5]), z2)
    else
      some (l4, z2)
def m_graph_norm (t1 : ApiType) (root1 : Int) : Option ApiType :=
  ((m_below t1 root1).bind fun xs1 =>
  m_graph_norm_r1 xs1 ([], ([] : List (Int × Int))) : Option ((List Int) × (List (Int × Int)))).bind fun (l1, mm1) =>
  (m_graph_norm_l2 t1 l1 mm1 FU (0, [], 0) : Option ((List ApiTNode) × Int)).bind fun (l3, z1) =>
  some (⟨l3, z1⟩ : ApiType)
theorem w_graph_norm {t1 : ApiType} {root1 : Int} {r_1 : ApiType} (hm : m_graph_norm t1 root1 = some r_1) : Fn0 Try.prog 86 [ApiType.d t1, .i64 root1] (ApiType.d r_1) := by
  unfold m_graph_norm at hm
  refine fn_intro Try.func86 rfl Try.ntmps86 rfl fun H0 fr w0 => ?_
  refine g_seq ?_
  refine g_region ?_
  refine go_p rfl rfl rfl (o_box rfl rfl) ?_
  refine go_op rfl rfl rfl (o_alloc_own Try.zeroValue53 (cs := [.list 4 ApiTNode.d [], .i64 0]) rfl) ?_
  rintro _ _ ⟨b1, rfl, rfl⟩
  refine go_nil ?_
  refine g_seq ?_
  refine g_region ?_
  refine go_op rfl rfl rfl (o_makeMap (fk := kI64) (fv := D.i64)) ?_
  rintro _ _ ⟨b2, rfl, rfl⟩
  refine go_op rfl rfl rfl (o_alloc_own Try.zeroValue139 (cs := [.v (.map none)]) rfl) ?_
  rintro _ _ ⟨b3, rfl, rfl⟩
  refine go_u rfl rfl (o_store_box 0 Try.sizeOf139 rfl rfl rfl rfl rfl rfl rfl rfl (Nat.le_of_ble_eq_true rfl)) ?_
  rintro _ _ rfl
  refine go_ms (ms' := [box b3 139 [_], _, box b1 53 [_, _]]) rfl ?_
  refine go_conv (refines_freeze (d := .v (.map (some b2))) 0 5 rfl rfl rfl rfl) ?_
  refine go_nil ?_
  refine g_seq ?_
  refine g_region ?_
  refine go_op rfl rfl rfl (o_alloc_own Try.zeroValue28 (cs := [.v (.slice none 0 0)]) rfl) ?_
  rintro _ _ ⟨b4, rfl, rfl⟩
  refine go_conv (refines_newrow (T := 3) (sz := 1) (f := D.i64)) ?_
  refine go_nil ?_
  refine g_seq ?_
  refine g_seq ?_
  refine g_region ?_
  refine go_p rfl rfl rfl (o_load_agg Try.isAgg53 Try.sizeOf53 rfl rfl) ?_
  refine go_p rfl rfl rfl (o_move rfl) ?_
  refine go_p rfl rfl rfl (o_call0 Try.call79 rfl w_below) ?_
  refine go_nil ?_
  obtain ⟨o_1, hj1, hm1⟩ := bind_some hm
  refine g_cut_m [(2, _), (4, _), (5, _), (6, _)] [(3, _)] (fun (st : ((List Int) × (List (Int × Int)))) (hid : (Option Addr × Nat)) => match st, hid with | (l1, mm1), (a_r1, cap_r1) => []) (fun F (st : ((List Int) × (List (Int × Int)))) (hid : (Option Addr × Nat)) => match st, hid with | (l1, mm1), (a_r1, cap_r1) => [row a_r1 cap_r1 3 1 D.i64 l1, box b4 28 [.v (.slice a_r1 l1.length cap_r1)], mp b2 kI64 D.i64 mm1, (nthF F 0)]) (fun st => st = o_1) ⟨rfl, rfl, rfl, rfl, trivial⟩ ⟨rfl, trivial⟩ ?_ ?_
  · skip
    refine g_block ?_
    obtain ⟨xs1, hx1, hj1⟩ := bind_some hj1
    refine g_range_m (fun (p : Int) => [.i64 p]) [(3, _)] (fun F (st : ((List Int) × (List (Int × Int)))) (hid : (Option Addr × Nat)) => match st, hid with | (l2, mm2), (a_r1, cap_r1) => [row a_r1 cap_r1 3 1 D.i64 l2, box b4 28 [.v (.slice a_r1 l2.length cap_r1)], mp b2 kI64 D.i64 mm2, (nthF F 0)]) (_, _) hj1 ⟨rfl, trivial⟩ rfl rfl Try.call118 (it_below hx1) (fun _ => rfl) rfl ?_ ?_
    · rintro H0r frr ror w0r hrr x1 rr ⟨l2, mm2⟩ ⟨a_r1, cap_r1⟩ hj1
      rw [m_graph_norm_r1] at hj1
      refine g_norm (ms' := [row a_r1 cap_r1 3 1 D.i64 l2, box b4 28 [.v (.slice a_r1 l2.length cap_r1)], mp b2 kI64 D.i64 mm2, _]) rfl rfl ?_
      refine g_region ?_
      refine go_p rfl rfl rfl (o_assign rfl) ?_
      refine go_nil ?_
      intro H0r frr ror w0r hrr
      refine g_block ?_
      refine g_seq ?_
      refine g_region ?_
      refine go_p rfl rfl rfl (o_load Try.isAgg139 rfl rfl) ?_
      refine go_p rfl rfl rfl (o_move rfl) ?_
      refine go_p rfl rfl rfl (o_load_box 1 Try.isAgg28 rfl rfl rfl rfl) ?_
      refine go_p rfl rfl rfl (.view (peekE (i := 18) 0 rfl rfl rfl) (o_len Try.runUnderlying28 rfl)) ?_
      refine go_u rfl rfl (o_mapUpdate (v := (l2.length : Int)) 2 Try.runUnderlying139 (keyI64 Try.underlying3) rfl rfl rfl rfl) ?_
      rintro _ _ rfl
      refine go_nil ?_
      refine g_region ?_
      refine go_p rfl rfl rfl (o_load_box 1 Try.isAgg28 rfl rfl rfl rfl) ?_
      refine go_p rfl rfl rfl (o_move rfl) ?_
      refine go_p rfl rfl rfl (o_buildSlice (xs := [_]) (f := D.i64) (l := [_]) Try.runUnderlying28 Try.sizeOf3 Try.zeroValue3 rfl rfl rfl (fun _ => ⟨rfl, rfl, rfl⟩) rfl) ?_
      obtain ⟨hg2, hj1⟩ := grd_some hj1
      refine go_op rfl rfl rfl (o_append (a := _) 0 Try.underlying28 Try.type3 rfl rfl rfl rfl rfl rfl rfl (fun _ => rfl) (fun _ => rfl) hg2 (app_len hg2 rfl)) ?_
      rintro _ _ ⟨a_r1, cap_r1, rfl, rfl⟩
      refine go_ms (ms' := [_, box b4 28 [_], _, box b1 53 [_, _]]) rfl ?_
      refine go_u rfl rfl (o_store_box 1 Try.sizeOf28 rfl rfl rfl rfl rfl rfl rfl rfl (Nat.le_of_ble_eq_true rfl)) ?_
      rintro _ _ rfl
      refine go_ms (ms' := [_, box b4 28 [_], _, box b1 53 [_, _]]) rfl ?_
      refine go_nil ?_
      exact ⟨_, (_, _), hj1, [], rfl⟩
    · rintro ⟨l2, mm2⟩ ⟨a_r1, cap_r1⟩ hj1
      rw [m_graph_norm_r1] at hj1
      refine k_norm (ms' := [row a_r1 cap_r1 3 1 D.i64 l2, box b4 28 [.v (.slice a_r1 l2.length cap_r1)], mp b2 kI64 D.i64 mm2, _]) rfl rfl ?_
      exact ⟨_, (_, _), some_eq hj1, trivial, ⟨rfl, rfl, rfl, rfl, trivial⟩, [], rfl⟩
  · rintro ⟨l1, mm1⟩ ⟨a_r1, cap_r1⟩ hst
    subst hst
    refine k_norm (L' := [(2, _), (4, _), (5, _), (6, _)]) (ms' := [row a_r1 cap_r1 3 1 D.i64 l1, box b4 28 [.v (.slice a_r1 l1.length cap_r1)], mp b2 kI64 D.i64 mm1, _]) rfl rfl ?_
    refine g_seq ?_
    refine g_region ?_
    refine go_op rfl rfl rfl (o_alloc_own Try.zeroValue53 (cs := [.v (.slice none 0 0), .i64 0]) rfl) ?_
    rintro _ _ ⟨b6, rfl, rfl⟩
    refine go_conv (refines_newrow (T := 56) (sz := 4) (f := ApiTNode.d)) ?_
    refine go_nil ?_
    refine g_seq ?_
    refine g_seq ?_
    refine g_region ?_
    refine go_p rfl rfl rfl (o_load_box 3 Try.isAgg28 rfl rfl rfl rfl) ?_
    refine go_p rfl rfl rfl (.view (peekE (i := 24) 2 rfl rfl rfl) (o_len Try.runUnderlying28 rfl)) ?_
    refine go_p rfl rfl rfl (o_move rfl) ?_
    refine go_nil ?_
    obtain ⟨o_2, hj2, hm2⟩ := bind_some hm1
    refine g_cut_m [(4, _), (8, _)] [(2, _), (3, _), (4, _), (5, _)] (fun (st : ((List ApiTNode) × Int)) (hid : (Option Addr × Nat)) => match st, hid with | (l3, z1), (a_r2, cap_r2) => []) (fun F (st : ((List ApiTNode) × Int)) (hid : (Option Addr × Nat)) => match st, hid with | (l3, z1), (a_r2, cap_r2) => [row a_r2 cap_r2 56 4 ApiTNode.d l3, box b6 53 [.v (.slice a_r2 l3.length cap_r2), .i64 z1], (nthF F 0), (nthF F 1), (nthF F 2), (nthF F 3)]) (fun st => st = o_2) ⟨rfl, rfl, trivial⟩ ⟨rfl, rfl, rfl, rfl, trivial⟩ ?_ ?_
    · skip
      refine g_block ?_
      refine g_loop_m [(2, _), (4, _), (5, _), (8, _), (24, _), (25, _)] [(2, _), (3, _), (4, _), (5, _)] (fun (st : (Int × (List ApiTNode) × Int)) (hid : (Option Addr × Nat)) => match st, hid with | (x2, l4, z2), (a_r2, cap_r2) => [(26, .i64 x2)]) (fun F (st : (Int × (List ApiTNode) × Int)) (hid : (Option Addr × Nat)) => match st, hid with | (x2, l4, z2), (a_r2, cap_r2) => [row a_r2 cap_r2 56 4 ApiTNode.d l4, box b6 53 [.v (.slice a_r2 l4.length cap_r2), .i64 z2], (nthF F 0), (nthF F 1), (nthF F 2), (nthF F 3)]) (_, _) hj2 (fun _ => rfl) ⟨rfl, rfl, rfl, rfl, rfl, rfl, trivial⟩ ⟨rfl, rfl, rfl, rfl, trivial⟩ ⟨rfl, trivial⟩ rfl ?_
      rintro n ⟨x2, l4, z2⟩ ⟨a_r2, cap_r2⟩ hj2
      rw [m_graph_norm_l2] at hj2
      refine g_norm (L' := [(26, .i64 x2), (2, _), (4, _), (5, _), (8, _), (24, _), (25, _)]) (ms' := [row a_r2 cap_r2 56 4 ApiTNode.d l4, box b6 53 [.v (.slice a_r2 l4.length cap_r2), .i64 z2], _, _, _, _]) rfl rfl ?_
      refine g_seq ?_
      refine g_region ?_
      refine go_p rfl rfl rfl (o_cmp rfl rfl rfl) ?_
      refine go_nil ?_
      refine g_seq ?_
      refine g_cond rfl (fun hc1 => ?_) (fun hc1 => ?_)
      · replace hj2 := cond_t hc1 hj2
        refine g_skip ?_
        refine g_seq ?_
        refine g_block ?_
        refine g_seq ?_
        refine g_region ?_
        obtain ⟨x3, hx3, hj2⟩ := bind_some hj2
        refine go_p rfl rfl rfl (.view (peekE (i := 24) 2 rfl rfl rfl) (o_indexAddr_m Try.runUnderlying28 Try.sizeOf3 rfl rfl hx3)) ?_
        refine go_p rfl rfl rfl (o_load Try.isAgg3 rfl rfl) ?_
        refine go_p rfl rfl rfl (o_assign rfl) ?_
        refine go_nil ?_
        obtain ⟨x4, hx4, hj2⟩ := bind_some hj2
        obtain ⟨x5, hx5, hj2⟩ := bind_some hj2
        refine g_draw 10 Try_mixed (by decide +kernel) ?_
        refine gd_p rfl rfl rfl (o_fieldAddr_box fi_53_0 rfl) ?_
        refine gd_p rfl rfl rfl (o_load_box 1 Try.isAgg51 rfl rfl rfl rfl) ?_
        refine gd_p rfl rfl rfl (o_fieldAddr fi_53_0 rfl rfl rfl) ?_
        refine gd_p rfl rfl rfl (o_load Try.isAgg51 rfl rfl) ?_
        refine gd_p rfl rfl rfl (o_move rfl) ?_
        refine gd_p rfl rfl rfl (o_indexAddr_m Try.runUnderlying51 Try.sizeOf56 rfl rfl hx4) ?_
        refine gd_p rfl rfl rfl (o_load_agg Try.isAgg56 Try.sizeOf56 rfl rfl) ?_
        refine gd_p rfl rfl rfl (o_makeFunc rfl rfl) ?_
        refine gd_p rfl rfl rfl (o_call_t [4] Try.call84 rfl rfl (getL_c rfl getL_n) (w_graph_moved (fun _ _ h => fv_clo Try.call123 (w_graph_norm_1 h)) hx5)) ?_
        refine gd_p rfl rfl rfl (o_buildSlice (xs := [_]) (f := ApiTNode.d) (l := [_]) Try.runUnderlying51 Try.sizeOf56 Try.zeroValue56 rfl rfl rfl (fun _ => ⟨rfl, rfl, rfl⟩) rfl) ?_
        refine gd_nil ?_
        obtain ⟨hg6, hj2⟩ := grd_some hj2
        refine go_op rfl rfl rfl (o_append (a := _) 0 Try.underlying51 Try.type56 rfl rfl rfl rfl rfl rfl rfl (fun _ => rfl) (fun _ => rfl) hg6 (app_len hg6 rfl)) ?_
        rintro _ _ ⟨a_r2, cap_r2, rfl, rfl⟩
        refine go_ms (ms' := [_, box b6 53 [_, _], _, box b4 28 [_], _, box b1 53 [_, _]]) rfl ?_
        refine go_p rfl rfl rfl (o_fieldAddr_box fi_53_0 rfl) ?_
        refine go_u rfl rfl (o_store_box 1 Try.sizeOf51 rfl rfl rfl rfl rfl rfl rfl rfl (Nat.le_of_ble_eq_true rfl)) ?_
        rintro _ _ rfl
        refine go_ms (ms' := [_, box b6 53 [_, _], _, box b4 28 [_], _, box b1 53 [_, _]]) rfl ?_
        refine go_nil ?_
        refine g_region ?_
        obtain ⟨hg7, hj2⟩ := grd_some hj2
        refine go_p rfl rfl rfl (o_add rfl rfl (i64_id hg7)) ?_
        refine go_p rfl rfl rfl (o_move rfl) ?_
        refine go_nil ?_
        exact ⟨_, (_, _), hj2, ⟨rfl, trivial⟩, ⟨rfl, rfl, rfl, rfl, rfl, rfl, trivial⟩, [], rfl⟩
      · replace hj2 := cond_f hc1 hj2
        refine g_exit ?_
        exact ⟨_, (_, _), some_eq hj2, trivial, ⟨rfl, rfl, trivial⟩, [], rfl⟩
    · rintro ⟨l3, z1⟩ ⟨a_r2, cap_r2⟩ hst
      subst hst
      refine k_norm (L' := [(4, _), (8, _)]) (ms' := [row a_r2 cap_r2 56 4 ApiTNode.d l3, box b6 53 [.v (.slice a_r2 l3.length cap_r2), .i64 z1], _, _, _, _]) rfl rfl ?_
      refine g_seq ?_
      refine g_region ?_
      refine go_p rfl rfl rfl (o_load_box_agg 1 Try.isAgg53 Try.sizeOf53 rfl rfl rfl rfl (Nat.le_of_ble_eq_true rfl)) ?_
      refine go_conv (peekAggE (i := 43) (q := 0) 0 rfl rfl rfl rfl rfl).refines ?_
      refine go_u rfl rfl (o_store_box 5 Try.sizeOf53 rfl rfl rfl rfl rfl rfl rfl rfl (Nat.le_of_ble_eq_true rfl)) ?_
      rintro _ _ rfl
      refine go_ms (ms' := [_, box b6 53 [_, _], _, box b4 28 [_], _, box b1 53 [_, _]]) rfl ?_
      refine go_nil ?_
      refine g_ret ?_
      exact retK (ret_one' rfl (ret_cell 5 rfl rfl rfl Try.isAgg53 Try.sizeOf53 rfl) (perm_drop _)) (congrArg (fun (p : ApiType) => (ApiType.d p : D)) (some_eq hm2))
def m_graph_Norm (t1 : ApiType) : Option (ApiType × Int) :=
  (m_graph_May t1).bind fun x1 =>
  bif (!decide (x1 = 0)) then
    some ((⟨([] : List ApiTNode), 0⟩ : ApiType), x1)
  else
    (m_graph_norm t1 t1.root).bind fun x2 =>
    some ((⟨x2.l, x2.root⟩ : ApiType), 0)
theorem w_graph_Norm {t1 : ApiType} {r_1 : ApiType} {r_2 : Int} (hm : m_graph_Norm t1 = some (r_1, r_2)) : Fn0 Try.prog 41 [ApiType.d t1] (.tup [ApiType.d r_1, .i64 r_2]) := by
  unfold m_graph_Norm at hm
  refine fn_intro Try.func41 rfl Try.ntmps41 rfl fun H0 fr w0 => ?_
  refine g_seq ?_
  refine g_region ?_
  refine go_p rfl rfl rfl (o_box rfl rfl) ?_
  refine go_op rfl rfl rfl (o_alloc_own Try.zeroValue53 (cs := [.list 4 ApiTNode.d [], .i64 0]) rfl) ?_
  rintro _ _ ⟨b1, rfl, rfl⟩
  refine go_p rfl rfl rfl (o_assign rfl) ?_
  refine go_nil ?_
  refine g_seq ?_
  refine g_seq ?_
  refine g_region ?_
  refine go_p rfl rfl rfl (o_load_agg Try.isAgg53 Try.sizeOf53 rfl rfl) ?_
  obtain ⟨x1, hx1, hm⟩ := bind_some hm
  refine go_p rfl rfl rfl (o_call0 Try.call31 rfl (w_graph_May hx1)) ?_
  refine go_p rfl rfl rfl (o_assign rfl) ?_
  refine go_nil ?_
  refine g_seq ?_
  refine g_region ?_
  refine go_p rfl rfl rfl (o_move rfl) ?_
  refine go_p rfl rfl rfl (o_cmp rfl rfl rfl) ?_
  refine go_nil ?_
  refine g_cond rfl (fun hc1 => ?_) (fun hc1 => ?_)
  · replace hm := cond_t hc1 hm
    refine g_seq ?_
    refine g_region ?_
    refine go_p rfl rfl rfl (o_build (zs := [.list 4 ApiTNode.d [], .v (.int .i64 0)]) Try.runUnderlying53 Try.zeroValue53 (pl_53 _ Try.runUnderlying53) rfl rfl rfl rfl) ?_
    refine go_p rfl rfl rfl (o_move rfl) ?_
    refine go_u rfl rfl (o_store_box 0 Try.sizeOf53 rfl rfl rfl rfl rfl rfl rfl rfl (Nat.le_of_ble_eq_true rfl)) ?_
    rintro _ _ rfl
    refine go_ms (ms' := [box b1 53 [_, _]]) rfl ?_
    refine go_p rfl rfl rfl (o_assign rfl) ?_
    refine go_nil ?_
    refine g_ret ?_
    exact retK (ret_many (ds := [_, _]) rfl (by decide) ⟨ret_cell 0 rfl rfl rfl Try.isAgg53 Try.sizeOf53 rfl, ⟨ret_tmp rfl, rfl⟩⟩ (perm_drop _)) (congrArg (fun (p : (ApiType × Int)) => D.tup [ApiType.d p.1, .i64 p.2]) (some_eq hm))
  · replace hm := cond_f hc1 hm
    refine g_skip ?_
    refine g_seq ?_
    refine g_region ?_
    refine go_p rfl rfl rfl (o_load_agg Try.isAgg53 Try.sizeOf53 rfl rfl) ?_
    refine go_p rfl rfl rfl (o_fieldAddr fi_53_1 rfl rfl rfl) ?_
    refine go_p rfl rfl rfl (o_load Try.isAgg3 rfl rfl) ?_
    obtain ⟨x2, hx2, hm⟩ := bind_some hm
    refine go_p rfl rfl rfl (o_call0 Try.call86 rfl (w_graph_norm hx2)) ?_
    refine go_u rfl rfl (o_store_box 0 Try.sizeOf53 rfl rfl rfl rfl rfl rfl rfl rfl (Nat.le_of_ble_eq_true rfl)) ?_
    rintro _ _ rfl
    refine go_ms (ms' := [box b1 53 [_, _]]) rfl ?_
    refine go_p rfl rfl rfl (o_assign rfl) ?_
    refine go_nil ?_
    refine g_ret ?_
    exact retK (ret_many (ds := [_, _]) rfl (by decide) ⟨ret_cell 0 rfl rfl rfl Try.isAgg53 Try.sizeOf53 rfl, ⟨ret_tmp rfl, rfl⟩⟩ (perm_drop _)) (congrArg (fun (p : (ApiType × Int)) => D.tup [ApiType.d p.1, .i64 p.2]) (some_eq hm))
theorem pl_56 : ∀ fs, (∀ w, (underlying 56).run Try.prog w = .ok (.struct fs) w) → placesOf Try.prog fs [(0, 1), (1, 1), (2, 1), (3, 1)] := by
  intro fs h w
  have := (h w).symm.trans (Try.runUnderlying56 w)
  simp only [Result.ok.injEq, TypeDesc.struct.injEq, and_true] at this
  subst this
  simp [Try.sizeOf3, Try.sizeOf54, Sem.run]
def m_syntagmalaw13_round  : Option ApiType :=
  some (⟨[(⟨3, 0, 0, ([] : List ApiTField)⟩ : ApiTNode), (⟨6, 0, 1, ([] : List ApiTField)⟩ : ApiTNode)], 1⟩ : ApiType)
theorem w_syntagmalaw13_round  {r_1 : ApiType} (hm : m_syntagmalaw13_round = some r_1) : Fn0 Try.prog 82 [] (ApiType.d r_1) := by
  unfold m_syntagmalaw13_round at hm
  refine fn_intro Try.func82 rfl Try.ntmps82 rfl fun H0 fr w0 => ?_
  refine g_seq ?_
  refine g_region ?_
  refine go_op rfl rfl rfl (o_alloc_own Try.zeroValue53 (cs := [.list 4 ApiTNode.d [], .i64 0]) rfl) ?_
  rintro _ _ ⟨b1, rfl, rfl⟩
  refine go_nil ?_
  refine g_seq ?_
  refine g_region ?_
  refine go_p rfl rfl rfl (o_build (zs := [.v (.int .i64 0), .v (.int .i64 0), .v (.int .i64 0), .list 2 ApiTField.d []]) Try.runUnderlying56 Try.zeroValue56 (pl_56 _ Try.runUnderlying56) rfl rfl rfl rfl) ?_
  refine go_p rfl rfl rfl (o_build (zs := [.v (.int .i64 0), .v (.int .i64 0), .v (.int .i64 0), .list 2 ApiTField.d []]) Try.runUnderlying56 Try.zeroValue56 (pl_56 _ Try.runUnderlying56) rfl rfl rfl rfl) ?_
  refine go_p rfl rfl rfl (o_buildSlice (xs := [_, _]) (f := ApiTNode.d) (l := [(⟨3, 0, 0, ([] : List ApiTField)⟩ : ApiTNode), (⟨6, 0, 1, ([] : List ApiTField)⟩ : ApiTNode)]) Try.runUnderlying51 Try.sizeOf56 Try.zeroValue56 rfl rfl rfl (fun _ => ⟨rfl, rfl, rfl⟩) rfl) ?_
  refine go_p rfl rfl rfl (o_build (zs := [.list 4 ApiTNode.d [], .v (.int .i64 0)]) Try.runUnderlying53 Try.zeroValue53 (pl_53 _ Try.runUnderlying53) rfl rfl rfl rfl) ?_
  refine go_u rfl rfl (o_store_box 0 Try.sizeOf53 rfl rfl rfl rfl rfl rfl rfl rfl (Nat.le_of_ble_eq_true rfl)) ?_
  rintro _ _ rfl
  refine go_ms (ms' := [box b1 53 [_, _]]) rfl ?_
  refine go_nil ?_
  refine g_ret ?_
  exact retK (ret_one' rfl (ret_cell 0 rfl rfl rfl Try.isAgg53 Try.sizeOf53 rfl) (perm_drop _)) (congrArg (fun (p : ApiType) => (ApiType.d p : D)) (some_eq hm))
def m_syntagmalaw13_works  : Option Bool :=
  (m_syntagmalaw13_round).bind fun x1 =>
  (m_graph_Norm x1).bind fun (x2, x3) =>
  (m_syntagmalaw13_round).bind fun x4 =>
  (m_graph_May x4).bind fun x5 =>
  (bif (((decide (x5 = 0)) && (decide (x3 = 0))) && (decide ((x2.l.length : Int) = 2))) then ((idx x2.l 0).bind fun x6 =>
  some (decide (x6.kind = 6))) else (some false)).bind fun p1 =>
  (bif p1 then ((idx x2.l 0).bind fun x7 =>
  some (decide (x7.b = 0))) else (some false)).bind fun p2 =>
  (bif p2 then ((m_graph_Ground (⟨x2.l, x2.root⟩ : ApiType)).bind fun x8 =>
  some x8) else (some false)).bind fun p3 =>
  some p3
theorem w_syntagmalaw13_works  {r_1 : Bool} (hm : m_syntagmalaw13_works = some r_1) : Fn0 Try.prog 36 [] (.bool r_1) := by
  unfold m_syntagmalaw13_works at hm
  refine fn_intro Try.func36 rfl Try.ntmps36 rfl fun H0 fr w0 => ?_
  refine g_seq ?_
  refine g_region ?_
  refine go_p rfl rfl rfl (o_assign rfl) ?_
  refine go_nil ?_
  refine g_seq ?_
  refine g_region ?_
  obtain ⟨x1, hx1, hm⟩ := bind_some hm
  refine go_p rfl rfl rfl (o_call0 Try.call82 rfl (w_syntagmalaw13_round hx1)) ?_
  obtain ⟨⟨x2, x3⟩, hx2, hm⟩ := bind_some hm
  refine go_p rfl rfl rfl (o_call0 Try.call41 rfl (w_graph_Norm hx2)) ?_
  refine go_p rfl rfl rfl (o_move rfl) ?_
  refine go_p rfl rfl rfl (o_extract rfl rfl) ?_
  refine go_p rfl rfl rfl (o_extract rfl rfl) ?_
  refine go_op rfl rfl rfl (o_alloc_own Try.zeroValue53 (cs := [.list 4 ApiTNode.d [], .i64 0]) rfl) ?_
  rintro _ _ ⟨b1, rfl, rfl⟩
  refine go_u rfl rfl (o_store_box 0 Try.sizeOf53 rfl rfl rfl rfl rfl rfl rfl rfl (Nat.le_of_ble_eq_true rfl)) ?_
  rintro _ _ rfl
  refine go_ms (ms' := [box b1 53 [_, _]]) rfl ?_
  refine go_p rfl rfl rfl (o_assign rfl) ?_
  refine go_nil ?_
  refine g_seq ?_
  refine g_region ?_
  obtain ⟨x4, hx3, hm⟩ := bind_some hm
  refine go_p rfl rfl rfl (o_call0 Try.call82 rfl (w_syntagmalaw13_round hx3)) ?_
  obtain ⟨x5, hx4, hm⟩ := bind_some hm
  refine go_p rfl rfl rfl (o_call0 Try.call31 rfl (w_graph_May hx4)) ?_
  refine go_p rfl rfl rfl (o_cmp rfl rfl rfl) ?_
  refine go_p rfl rfl rfl (o_move rfl) ?_
  apply go_and [(1, _)] 3 14 (t := 11) ⟨rfl, trivial⟩ rfl
  · intro hg_1 hk1
    refine go_wantp rfl rfl rfl hg_1 rfl rfl (o_move rfl) ?_
    refine go_wantp rfl rfl rfl hg_1 rfl rfl (o_cmp rfl rfl rfl) ?_
    refine go_p rfl rfl rfl (o_pickT rfl hg_1 rfl) ?_
    exact go_meet hk1 (rfl) ⟨rfl, trivial⟩
  · intro hg_1 hk1
    refine go_skip rfl rfl rfl hg_1 rfl rfl ?_
    refine go_skip rfl rfl rfl hg_1 rfl rfl ?_
    refine go_p rfl rfl rfl (o_pickF rfl hg_1 rfl) ?_
    exact go_meet hk1 (rfl) ⟨rfl, trivial⟩
  refine go_p rfl rfl rfl (o_move rfl) ?_
  apply go_and [(1, _)] 5 20 (t := 15) ⟨rfl, trivial⟩ rfl
  · intro hg_2 hk2
    refine go_wantp rfl rfl rfl hg_2 rfl rfl (o_fieldAddr_box fi_53_0 rfl) ?_
    refine go_wantp rfl rfl rfl hg_2 rfl rfl (o_load_box 0 Try.isAgg51 rfl rfl rfl rfl) ?_
    refine go_wantp rfl rfl rfl hg_2 rfl rfl (o_len Try.runUnderlying51 rfl) ?_
    refine go_wantp rfl rfl rfl hg_2 rfl rfl (o_cmp rfl rfl rfl) ?_
    refine go_p rfl rfl rfl (o_pickT rfl hg_2 rfl) ?_
    exact go_meet hk2 (rfl) ⟨rfl, trivial⟩
  · intro hg_2 hk2
    refine go_skip rfl rfl rfl hg_2 rfl rfl ?_
    refine go_skip rfl rfl rfl hg_2 rfl rfl ?_
    refine go_skip rfl rfl rfl hg_2 rfl rfl ?_
    refine go_skip rfl rfl rfl hg_2 rfl rfl ?_
    refine go_p rfl rfl rfl (o_pickF rfl hg_2 rfl) ?_
    exact go_meet hk2 (rfl) ⟨rfl, trivial⟩
  refine go_p rfl rfl rfl (o_move rfl) ?_
  obtain ⟨p1, hp_3, hm⟩ := bind_some hm
  refine go_two [(1, _)] 7 28 p1 (t := 21) ⟨rfl, trivial⟩ rfl (fun hg_3 hk3 => ?_) (fun hg_3 hk3 => ?_) ?_
  · replace hp_3 := cond_t hg_3 hp_3
    refine go_wantp rfl rfl rfl hg_3 rfl rfl (o_fieldAddr_box fi_53_0 rfl) ?_
    refine go_wantp rfl rfl rfl hg_3 rfl rfl (o_load_box 0 Try.isAgg51 rfl rfl rfl rfl) ?_
    obtain ⟨x6, hx5, hp_3⟩ := bind_some hp_3
    refine go_wantp rfl rfl rfl hg_3 rfl rfl (o_indexAddr_m Try.runUnderlying51 Try.sizeOf56 rfl rfl hx5) ?_
    refine go_wantp rfl rfl rfl hg_3 rfl rfl (o_fieldAddr fi_56_0 rfl rfl rfl) ?_
    refine go_wantp rfl rfl rfl hg_3 rfl rfl (o_load Try.isAgg3 rfl rfl) ?_
    refine go_wantp rfl rfl rfl hg_3 rfl rfl (o_cmp rfl rfl rfl) ?_
    refine go_p rfl rfl rfl (o_pickT rfl hg_3 rfl) ?_
    exact go_meet hk3 (congrArg (fun b => some (D.bool b)) (some_eq hp_3)) ⟨rfl, trivial⟩
  · replace hp_3 := cond_f hg_3 hp_3
    refine go_skip rfl rfl rfl hg_3 rfl rfl ?_
    refine go_skip rfl rfl rfl hg_3 rfl rfl ?_
    refine go_skip rfl rfl rfl hg_3 rfl rfl ?_
    refine go_skip rfl rfl rfl hg_3 rfl rfl ?_
    refine go_skip rfl rfl rfl hg_3 rfl rfl ?_
    refine go_skip rfl rfl rfl hg_3 rfl rfl ?_
    refine go_p rfl rfl rfl (o_pickF rfl hg_3 rfl) ?_
    exact go_meet hk3 (congrArg (fun b => some (D.bool b)) (some_eq hp_3)) ⟨rfl, trivial⟩
  refine go_p rfl rfl rfl (o_move rfl) ?_
  obtain ⟨p2, hp_4, hm⟩ := bind_some hm
  refine go_two [(1, _)] 7 36 p2 (t := 29) ⟨rfl, trivial⟩ rfl (fun hg_4 hk4 => ?_) (fun hg_4 hk4 => ?_) ?_
  · replace hp_4 := cond_t hg_4 hp_4
    refine go_wantp rfl rfl rfl hg_4 rfl rfl (o_fieldAddr_box fi_53_0 rfl) ?_
    refine go_wantp rfl rfl rfl hg_4 rfl rfl (o_load_box 0 Try.isAgg51 rfl rfl rfl rfl) ?_
    obtain ⟨x7, hx6, hp_4⟩ := bind_some hp_4
    refine go_wantp rfl rfl rfl hg_4 rfl rfl (o_indexAddr_m Try.runUnderlying51 Try.sizeOf56 rfl rfl hx6) ?_
    refine go_wantp rfl rfl rfl hg_4 rfl rfl (o_fieldAddr fi_56_2 rfl rfl rfl) ?_
    refine go_wantp rfl rfl rfl hg_4 rfl rfl (o_load Try.isAgg3 rfl rfl) ?_
    refine go_wantp rfl rfl rfl hg_4 rfl rfl (o_cmp rfl rfl rfl) ?_
    refine go_p rfl rfl rfl (o_pickT rfl hg_4 rfl) ?_
    exact go_meet hk4 (congrArg (fun b => some (D.bool b)) (some_eq hp_4)) ⟨rfl, trivial⟩
  · replace hp_4 := cond_f hg_4 hp_4
    refine go_skip rfl rfl rfl hg_4 rfl rfl ?_
    refine go_skip rfl rfl rfl hg_4 rfl rfl ?_
    refine go_skip rfl rfl rfl hg_4 rfl rfl ?_
    refine go_skip rfl rfl rfl hg_4 rfl rfl ?_
    refine go_skip rfl rfl rfl hg_4 rfl rfl ?_
    refine go_skip rfl rfl rfl hg_4 rfl rfl ?_
    refine go_p rfl rfl rfl (o_pickF rfl hg_4 rfl) ?_
    exact go_meet hk4 (congrArg (fun b => some (D.bool b)) (some_eq hp_4)) ⟨rfl, trivial⟩
  refine go_p rfl rfl rfl (o_move rfl) ?_
  obtain ⟨p3, hp_5, hm⟩ := bind_some hm
  refine go_two [] 3 40 p3 (t := 37) trivial rfl (fun hg_5 hk5 => ?_) (fun hg_5 hk5 => ?_) ?_
  · replace hp_5 := cond_t hg_5 hp_5
    refine go_wantp rfl rfl rfl hg_5 rfl rfl (o_load_box_agg 0 Try.isAgg53 Try.sizeOf53 rfl rfl rfl rfl (Nat.le_of_ble_eq_true rfl)) ?_
    obtain ⟨x8, hx7, hp_5⟩ := bind_some hp_5
    refine go_wantp rfl rfl rfl hg_5 rfl rfl (o_call0 Try.call35 rfl (w_graph_Ground hx7)) ?_
    refine go_p rfl rfl rfl (o_pickT rfl hg_5 rfl) ?_
    exact go_meet hk5 (congrArg (fun b => some (D.bool b)) (some_eq hp_5)) trivial
  · replace hp_5 := cond_f hg_5 hp_5
    refine go_skip rfl rfl rfl hg_5 rfl rfl ?_
    refine go_skip rfl rfl rfl hg_5 rfl rfl ?_
    refine go_p rfl rfl rfl (o_pickF rfl hg_5 rfl) ?_
    exact go_meet hk5 (congrArg (fun b => some (D.bool b)) (some_eq hp_5)) trivial
  refine go_p rfl rfl rfl (o_assign rfl) ?_
  refine go_nil ?_
  refine g_ret ?_
  exact retK (ret_one' rfl (ret_tmp rfl) (perm_drop _)) (congrArg (fun (p : Bool) => (.bool p : D)) (some_eq hm))
def m_graph_Leaf (kind1 : Int) : Option ApiType :=
  some (⟨[(⟨kind1, 0, 0, ([] : List ApiTField)⟩ : ApiTNode)], 0⟩ : ApiType)
theorem w_graph_Leaf {kind1 : Int} {r_1 : ApiType} (hm : m_graph_Leaf kind1 = some r_1) : Fn0 Try.prog 37 [.i64 kind1] (ApiType.d r_1) := by
  unfold m_graph_Leaf at hm
  refine fn_intro Try.func37 rfl Try.ntmps37 rfl fun H0 fr w0 => ?_
  refine g_seq ?_
  refine g_region ?_
  refine go_op rfl rfl rfl (o_alloc_own Try.zeroValue53 (cs := [.list 4 ApiTNode.d [], .i64 0]) rfl) ?_
  rintro _ _ ⟨b1, rfl, rfl⟩
  refine go_nil ?_
  refine g_seq ?_
  refine g_region ?_
  refine go_p rfl rfl rfl (o_move rfl) ?_
  refine go_p rfl rfl rfl (o_build (zs := [.v (.int .i64 0), .v (.int .i64 0), .v (.int .i64 0), .list 2 ApiTField.d []]) Try.runUnderlying56 Try.zeroValue56 (pl_56 _ Try.runUnderlying56) rfl rfl rfl rfl) ?_
  refine go_p rfl rfl rfl (o_buildSlice (xs := [_]) (f := ApiTNode.d) (l := [(⟨kind1, 0, 0, ([] : List ApiTField)⟩ : ApiTNode)]) Try.runUnderlying51 Try.sizeOf56 Try.zeroValue56 rfl rfl rfl (fun _ => ⟨rfl, rfl, rfl⟩) rfl) ?_
  refine go_p rfl rfl rfl (o_build (zs := [.list 4 ApiTNode.d [], .v (.int .i64 0)]) Try.runUnderlying53 Try.zeroValue53 (pl_53 _ Try.runUnderlying53) rfl rfl rfl rfl) ?_
  refine go_u rfl rfl (o_store_box 0 Try.sizeOf53 rfl rfl rfl rfl rfl rfl rfl rfl (Nat.le_of_ble_eq_true rfl)) ?_
  rintro _ _ rfl
  refine go_ms (ms' := [box b1 53 [_, _]]) rfl ?_
  refine go_nil ?_
  refine g_ret ?_
  exact retK (ret_one' rfl (ret_cell 0 rfl rfl rfl Try.isAgg53 Try.sizeOf53 rfl) (perm_drop _)) (congrArg (fun (p : ApiType) => (ApiType.d p : D)) (some_eq hm))
def m_graph_Graft_1 (k1 : Int) (c1 : Int) : Option Int :=
  grd (InR (k1 + c1)) <|
  some (k1 + c1)
theorem w_graph_Graft_1 {k1 : Int} {c1 : Int} {r_1 : Int} (hm : m_graph_Graft_1 k1 c1 = some r_1) : Fn0 Try.prog 85 [.i64 k1, .ref (.i64 c1)] (.i64 r_1) := by
  unfold m_graph_Graft_1 at hm
  refine fn_intro Try.func85 rfl Try.ntmps85 rfl fun H0 fr w0 => ?_
  refine g_seq ?_
  refine g_region ?_
  refine go_p rfl rfl rfl (o_assign rfl) ?_
  refine go_nil ?_
  refine g_seq ?_
  refine g_region ?_
  refine go_p rfl rfl rfl (o_move rfl) ?_
  refine go_p rfl rfl rfl (o_load Try.isAgg3 rfl rfl) ?_
  obtain ⟨hg1, hm⟩ := grd_some hm
  refine go_p rfl rfl rfl (o_add rfl rfl (i64_id hg1)) ?_
  refine go_p rfl rfl rfl (o_assign rfl) ?_
  refine go_nil ?_
  refine g_ret ?_
  exact retK (ret_one' rfl (ret_tmp rfl) (perm_drop _)) (congrArg (fun (p : Int) => (.i64 p : D)) (some_eq hm))
def m_graph_Graft_l1 (a1 : ApiType) (b1 : ApiType) : Nat → (Int × Int × (List ApiTNode)) → Option (Int × (List ApiTNode))
  | 0, _ => none
  | n + 1, (x1, z2, l2) =>
    bif (decide (x1 < (b1.l.length : Int))) then
      (idx b1.l x1).bind fun x2 =>
      (m_graph_moved (⟨x2.kind, x2.a, x2.b, x2.l⟩ : ApiTNode) (fun y0 => m_graph_Graft_1 y0 (a1.l.length : Int))).bind fun x3 =>
      grd ((l2.length + ([x3] : List _).length) * 48 ≤ 140737488355328) <|
      grd (InR (x1 + 1)) <|
      m_graph_Graft_l1 a1 b1 n ((x1 + 1), z2, (l2 ++ [x3]))
    else
      some (z2, l2)
def m_graph_Graft (a1 : ApiType) (b1 : ApiType) : Option (ApiType × Int) :=
  grd (a1.l.length * 48 ≤ 140737488355328) <|
  (m_graph_Graft_l1 a1 b1 FU (0, a1.root, a1.l) : Option (Int × (List ApiTNode))).bind fun (z1, l1) =>
  some ((⟨l1, z1⟩ : ApiType), (a1.l.length : Int))
theorem w_graph_Graft {a1 : ApiType} {b1 : ApiType} {r_1 : ApiType} {r_2 : Int} (hm : m_graph_Graft a1 b1 = some (r_1, r_2)) : Fn0 Try.prog 38 [ApiType.d a1, ApiType.d b1] (.tup [ApiType.d r_1, .i64 r_2]) := by
  unfold m_graph_Graft at hm
  refine fn_intro Try.func38 rfl Try.ntmps38 rfl fun H0 fr w0 => ?_
  refine g_seq ?_
  refine g_region ?_
  refine go_p rfl rfl rfl (o_box rfl rfl) ?_
  refine go_p rfl rfl rfl (o_box rfl rfl) ?_
  refine go_op rfl rfl rfl (o_alloc_own Try.zeroValue53 (cs := [.list 4 ApiTNode.d [], .i64 0]) rfl) ?_
  rintro _ _ ⟨b1, rfl, rfl⟩
  refine go_p rfl rfl rfl (o_assign rfl) ?_
  refine go_nil ?_
  refine g_seq ?_
  refine g_region ?_
  refine go_p rfl rfl rfl (o_fieldAddr fi_53_0 rfl rfl rfl) ?_
  refine go_p rfl rfl rfl (o_load Try.isAgg51 rfl rfl) ?_
  refine go_p rfl rfl rfl (o_len Try.runUnderlying51 rfl) ?_
  refine go_op rfl rfl rfl (o_alloc_own Try.zeroValue3 (cs := [.i64 0]) rfl) ?_
  rintro _ _ ⟨b2, rfl, rfl⟩
  refine go_u rfl rfl (o_store_box 0 Try.sizeOf3 rfl rfl rfl rfl rfl rfl rfl rfl (Nat.le_of_ble_eq_true rfl)) ?_
  rintro _ _ rfl
  refine go_ms (ms' := [box b2 3 [_], box b1 53 [_, _]]) rfl ?_
  refine go_conv (refines_freeze (d := .i64 (a1.l.length : Int)) 0 6 rfl rfl rfl rfl) ?_
  refine go_nil ?_
  refine g_seq ?_
  obtain ⟨hg1, hm⟩ := grd_some hm
  refine g_draw_x [2, 5] [7] [3, 4] [6] [] Try_mixed (by decide +kernel) (by decide +kernel) rfl ?_
  refine gdx_p rfl rfl rfl rfl rfl rfl (o_fieldAddr fi_53_0 rfl rfl rfl) ?_
  refine gdx_p rfl rfl rfl rfl rfl rfl (o_load Try.isAgg51 rfl rfl) ?_
  refine gdx_e rfl ?_
  refine gdx_p rfl rfl rfl rfl rfl rfl (o_fieldAddr fi_53_1 rfl rfl rfl) ?_
  refine gdx_p rfl rfl rfl rfl rfl rfl (o_load Try.isAgg3 rfl rfl) ?_
  refine gdx_e rfl ?_
  refine gdx_fresh (R0 := fun d A => ∃ b, d = .v (.pointer (some ⟨b, 0, none⟩)) ∧ A = box b 53 [.list 4 ApiTNode.d [], .i64 0]) rfl rfl rfl rfl (OpT.mono (o_alloc_own Try.zeroValue53 (cs := [.list 4 ApiTNode.d [], .i64 0]) rfl) (by rintro d ms' ⟨b, rfl, rfl⟩; exact ⟨_, ⟨b, rfl, rfl⟩, rfl⟩)) ?_
  refine gdx_e rfl ?_
  refine gdx_nil ?_
  refine gf_t rfl rfl rfl rfl (o_call (ms₁ := []) Try.call83 rfl (List.Perm.refl _) (w_Clone_83 hg1)) ?_
  rintro _ _ ⟨_, ⟨a_r1, cap_r1, rfl, rfl⟩, rfl⟩
  generalize hm_r1 : a1.l.length = m_r1
  clear hm_r1
  refine ⟨(trivial : True), ?_⟩
  refine gf_t rfl rfl rfl rfl (o_build (zs := [.list 4 ApiTNode.d [], .v (.int .i64 0)]) Try.runUnderlying53 Try.zeroValue53 (pl_53 _ Try.runUnderlying53) rfl rfl rfl rfl) ?_
  rintro _ _ ⟨rfl, rfl⟩
  refine ⟨(trivial : True), ?_⟩
  refine gf_nil [(6, 7)] rfl ?_
  rintro _ _ ⟨b3, rfl, rfl⟩
  show _ ∧ _
  refine ⟨(trivial : True), ?_⟩
  refine gde2_u rfl rfl rfl (o_store_box 0 Try.sizeOf53 rfl rfl rfl rfl rfl rfl rfl rfl (Nat.le_of_ble_eq_true rfl)) ?_
  rintro _ _ rfl
  refine ⟨(trivial : True), ?_⟩
  refine gde2_nil ?_
  refine g_seq ?_
  refine g_seq ?_
  refine g_region ?_
  refine go_p rfl rfl rfl (o_fieldAddr fi_53_0 rfl rfl rfl) ?_
  refine go_p rfl rfl rfl (o_load Try.isAgg51 rfl rfl) ?_
  refine go_p rfl rfl rfl (o_len Try.runUnderlying51 rfl) ?_
  refine go_p rfl rfl rfl (o_move rfl) ?_
  refine go_nil ?_
  refine g_thaw 1 rfl rfl ?_
  rintro rfl
  obtain ⟨o_1, hj1, hm1⟩ := bind_some hm
  refine g_cut_m [(4, _), (6, _), (7, _)] [(2, _)] (fun (st : (Int × (List ApiTNode))) (hid : (Option Addr × Nat)) => match st, hid with | (z1, l1), (a_r1, cap_r1) => []) (fun F (st : (Int × (List ApiTNode))) (hid : (Option Addr × Nat)) => match st, hid with | (z1, l1), (a_r1, cap_r1) => [box b3 53 [.v (.slice a_r1 l1.length cap_r1), .i64 z1], row a_r1 cap_r1 56 4 ApiTNode.d l1, (nthF F 0)]) (fun st => st = o_1) ⟨rfl, rfl, rfl, trivial⟩ ⟨rfl, trivial⟩ ?_ ?_
  · skip
    refine g_block ?_
    refine g_loop_m [(4, _), (6, _), (7, _), (20, _), (21, _)] [(2, _)] (fun (st : (Int × Int × (List ApiTNode))) (hid : (Option Addr × Nat)) => match st, hid with | (x1, z2, l2), (a_r1, cap_r1) => [(22, .i64 x1)]) (fun F (st : (Int × Int × (List ApiTNode))) (hid : (Option Addr × Nat)) => match st, hid with | (x1, z2, l2), (a_r1, cap_r1) => [box b3 53 [.v (.slice a_r1 l2.length cap_r1), .i64 z2], row a_r1 cap_r1 56 4 ApiTNode.d l2, (nthF F 0)]) (_, _) hj1 (fun _ => rfl) ⟨rfl, rfl, rfl, rfl, rfl, trivial⟩ ⟨rfl, trivial⟩ ⟨rfl, trivial⟩ rfl ?_
    rintro n ⟨x1, z2, l2⟩ ⟨a_r1, cap_r1⟩ hj1
    rw [m_graph_Graft_l1] at hj1
    refine g_norm (L' := [(22, .i64 x1), (4, _), (6, _), (7, _), (20, _), (21, _)]) (ms' := [box b3 53 [.v (.slice a_r1 l2.length cap_r1), .i64 z2], row a_r1 cap_r1 56 4 ApiTNode.d l2, _]) rfl rfl ?_
    refine g_seq ?_
    refine g_region ?_
    refine go_p rfl rfl rfl (o_cmp rfl rfl rfl) ?_
    refine go_nil ?_
    refine g_seq ?_
    refine g_cond rfl (fun hc1 => ?_) (fun hc1 => ?_)
    · replace hj1 := cond_t hc1 hj1
      refine g_skip ?_
      refine g_seq ?_
      refine g_block ?_
      refine g_seq ?_
      refine g_region ?_
      obtain ⟨x2, hx2, hj1⟩ := bind_some hj1
      refine go_p rfl rfl rfl (o_indexAddr_m Try.runUnderlying51 Try.sizeOf56 rfl rfl hx2) ?_
      refine go_p rfl rfl rfl (o_load_agg Try.isAgg56 Try.sizeOf56 rfl rfl) ?_
      refine go_op rfl rfl rfl (o_alloc_own Try.zeroValue56 (cs := [.i64 0, .i64 0, .i64 0, .list 2 ApiTField.d []]) rfl) ?_
      rintro _ _ ⟨b4, rfl, rfl⟩
      refine go_u rfl rfl (o_store_box 0 Try.sizeOf56 rfl rfl rfl rfl rfl rfl rfl rfl (Nat.le_of_ble_eq_true rfl)) ?_
      rintro _ _ rfl
      refine go_ms (ms' := [box b4 56 [_, _, _, _], box b3 53 [_, _], _, box b1 53 [_, _]]) rfl ?_
      refine go_nil ?_
      obtain ⟨x3, hx3, hj1⟩ := bind_some hj1
      refine g_draw 6 Try_mixed (by decide +kernel) ?_
      refine gd_p rfl rfl rfl (o_fieldAddr_box fi_53_0 rfl) ?_
      refine gd_p rfl rfl rfl (o_load_box 1 Try.isAgg51 rfl rfl rfl rfl) ?_
      refine gd_p rfl rfl rfl (o_load_box_agg 0 Try.isAgg56 Try.sizeOf56 rfl rfl rfl rfl (Nat.le_of_ble_eq_true rfl)) ?_
      refine gd_p rfl rfl rfl (o_makeFunc rfl rfl) ?_
      refine gd_p rfl rfl rfl (o_call_t [] Try.call84 rfl rfl getL_n (w_graph_moved (fun _ _ h => fv_nil (fv_clo Try.call85 (w_graph_Graft_1 h))) hx3)) ?_
      refine gd_p rfl rfl rfl (o_buildSlice (xs := [_]) (f := ApiTNode.d) (l := [_]) Try.runUnderlying51 Try.sizeOf56 Try.zeroValue56 rfl rfl rfl (fun _ => ⟨rfl, rfl, rfl⟩) rfl) ?_
      refine gd_nil ?_
      obtain ⟨hg4, hj1⟩ := grd_some hj1
      refine go_op rfl rfl rfl (o_append (a := _) 2 Try.underlying51 Try.type56 rfl rfl rfl rfl rfl rfl rfl (fun _ => rfl) (fun _ => rfl) hg4 (app_len hg4 rfl)) ?_
      rintro _ _ ⟨a_r1, cap_r1, rfl, rfl⟩
      refine go_ms (ms' := [box b4 56 [_, _, _, _], box b3 53 [_, _], _, box b1 53 [_, _]]) rfl ?_
      refine go_p rfl rfl rfl (o_fieldAddr_box fi_53_0 rfl) ?_
      refine go_u rfl rfl (o_store_box 1 Try.sizeOf51 rfl rfl rfl rfl rfl rfl rfl rfl (Nat.le_of_ble_eq_true rfl)) ?_
      rintro _ _ rfl
      refine go_ms (ms' := [box b4 56 [_, _, _, _], box b3 53 [_, _], _, box b1 53 [_, _]]) rfl ?_
      refine go_nil ?_
      refine g_region ?_
      obtain ⟨hg5, hj1⟩ := grd_some hj1
      refine go_p rfl rfl rfl (o_add rfl rfl (i64_id hg5)) ?_
      refine go_p rfl rfl rfl (o_move rfl) ?_
      refine go_nil ?_
      exact ⟨_, (_, _), hj1, ⟨rfl, trivial⟩, ⟨rfl, rfl, rfl, rfl, rfl, trivial⟩, [_], rfl⟩
    · replace hj1 := cond_f hc1 hj1
      refine g_exit ?_
      exact ⟨_, (_, _), some_eq hj1, trivial, ⟨rfl, rfl, rfl, trivial⟩, [], rfl⟩
  · rintro ⟨z1, l1⟩ ⟨a_r1, cap_r1⟩ hst
    subst hst
    refine k_norm (L' := [(4, _), (6, _), (7, _)]) (ms' := [box b3 53 [.v (.slice a_r1 l1.length cap_r1), .i64 z1], row a_r1 cap_r1 56 4 ApiTNode.d l1, _]) rfl rfl ?_
    refine g_seq ?_
    refine g_conv (refines_cellrow 0 0 1 rfl rfl rfl rfl rfl rfl) ?_
    refine g_draw_c [2] [1, 3] [] Try_mixed (by decide +kernel) (by decide +kernel) rfl ?_
    refine gde_p rfl rfl rfl rfl rfl rfl (o_load_box_agg 0 Try.isAgg53 Try.sizeOf53 rfl rfl rfl rfl (Nat.le_of_ble_eq_true rfl)) ?_
    refine gde_p rfl rfl rfl rfl rfl rfl (o_load Try.isAgg3 rfl rfl) ?_
    refine gde_e rfl ?_
    refine gde_p rfl rfl rfl rfl rfl rfl (o_assign rfl) ?_
    refine gde_nil ?_
    refine gde2_u rfl rfl rfl (o_store_box 2 Try.sizeOf53 rfl rfl rfl rfl rfl rfl rfl rfl (Nat.le_of_ble_eq_true rfl)) ?_
    rintro _ _ rfl
    refine ⟨(trivial : True), ?_⟩
    refine gde2_nil ?_
    refine g_ret ?_
    exact retK (ret_many (ds := [_, _]) rfl (by decide) ⟨ret_cell 2 rfl rfl rfl Try.isAgg53 Try.sizeOf53 rfl, ⟨ret_tmp rfl, rfl⟩⟩ (perm_drop _)) (congrArg (fun (p : (ApiType × Int)) => D.tup [ApiType.d p.1, .i64 p.2]) (some_eq hm1))
theorem pl_100 : ∀ fs, (∀ w, (underlying 100).run Try.prog w = .ok (.struct fs) w) → placesOf Try.prog fs [(0, 1), (1, 1)] := by
  intro fs h w
  have := (h w).symm.trans (Try.runUnderlying100 w)
  simp only [Result.ok.injEq, TypeDesc.struct.injEq, and_true] at this
  subst this
  simp [Try.sizeOf3, Try.sizeOf9, Sem.run]
def m_syntagmaref13_Graft_l2 (a1 : ApiType) (z6 : (List ApiTField)) : Nat → (Int × (List ApiTField)) → Option (List ApiTField)
  | 0, _ => none
  | n + 1, (k1, l4) =>
    bif (decide (k1 < (z6.length : Int))) then
      (idx z6 k1).bind fun x2 =>
      (idx z6 k1).bind fun x3 =>
      grd (InR (x3.at_ + (a1.l.length : Int))) <|
      grd ((l4.length + ([(⟨x2.name, (x3.at_ + (a1.l.length : Int))⟩ : ApiTField)] : List _).length) * 24 ≤ 140737488355328) <|
      grd (InR (k1 + 1)) <|
      m_syntagmaref13_Graft_l2 a1 z6 n ((k1 + 1), (l4 ++ [(⟨x2.name, (x3.at_ + (a1.l.length : Int))⟩ : ApiTField)]))
    else
      some l4
def m_syntagmaref13_Graft_l1 (a1 : ApiType) (b1 : ApiType) : Nat → (Int × Int × (List ApiTNode)) → Option (Int × (List ApiTNode))
  | 0, _ => none
  | n + 1, (i1, z2, l2) =>
    bif (decide (i1 < (b1.l.length : Int))) then
      (idx b1.l i1).bind fun x1 =>
      (bif (((decide (x1.kind = 6)) || (decide (x1.kind = 9))) || (decide (x1.kind = 10))) then
        grd (InR (x1.a + (a1.l.length : Int))) <|
        grd (InR (x1.b + (a1.l.length : Int))) <|
        some (x1.kind, (x1.a + (a1.l.length : Int)), (x1.b + (a1.l.length : Int)), x1.l)
      else
        some (x1.kind, x1.a, x1.b, x1.l) : Option (Int × Int × Int × (List ApiTField))).bind fun (z3, z4, z5, z6) =>
      (m_syntagmaref13_Graft_l2 a1 z6 FU (0, []) : Option (List ApiTField)).bind fun l3 =>
      grd ((l2.length + ([(⟨z3, z4, z5, l3⟩ : ApiTNode)] : List _).length) * 48 ≤ 140737488355328) <|
      grd (InR (i1 + 1)) <|
      m_syntagmaref13_Graft_l1 a1 b1 n ((i1 + 1), z2, (l2 ++ [(⟨z3, z4, z5, l3⟩ : ApiTNode)]))
    else
      some (z2, l2)
def m_syntagmaref13_Graft (a1 : ApiType) (b1 : ApiType) : Option (ApiType × Int) :=
  grd ((0 + a1.l.length) * 48 ≤ 140737488355328) <|
  (m_syntagmaref13_Graft_l1 a1 b1 FU (0, a1.root, ([] ++ a1.l)) : Option (Int × (List ApiTNode))).bind fun (z1, l1) =>
  some ((⟨l1, z1⟩ : ApiType), (a1.l.length : Int))
theorem w_syntagmaref13_Graft {a1 : ApiType} {b1 : ApiType} {r_1 : ApiType} {r_2 : Int} (hm : m_syntagmaref13_Graft a1 b1 = some (r_1, r_2)) : Fn0 Try.prog 39 [ApiType.d a1, ApiType.d b1] (.tup [ApiType.d r_1, .i64 r_2]) := by
  unfold m_syntagmaref13_Graft at hm
  refine fn_intro Try.func39 rfl Try.ntmps39 rfl fun H0 fr w0 => ?_
  refine g_seq ?_
  refine g_region ?_
  refine go_p rfl rfl rfl (o_box rfl rfl) ?_
  refine go_p rfl rfl rfl (o_box rfl rfl) ?_
  refine go_op rfl rfl rfl (o_alloc_own Try.zeroValue53 (cs := [.list 4 ApiTNode.d [], .i64 0]) rfl) ?_
  rintro _ _ ⟨b1, rfl, rfl⟩
  refine go_p rfl rfl rfl (o_assign rfl) ?_
  refine go_nil ?_
  refine g_seq ?_
  obtain ⟨hg1, hm⟩ := grd_some hm
  refine g_draw_x [0, 3, 6] [8] [1, 2, 4, 5] [7] [] Try_mixed (by decide +kernel) (by decide +kernel) rfl ?_
  refine gdx_e rfl ?_
  refine gdx_p rfl rfl rfl rfl rfl rfl (o_fieldAddr fi_53_0 rfl rfl rfl) ?_
  refine gdx_p rfl rfl rfl rfl rfl rfl (o_load Try.isAgg51 rfl rfl) ?_
  refine gdx_e rfl ?_
  refine gdx_p rfl rfl rfl rfl rfl rfl (o_fieldAddr fi_53_1 rfl rfl rfl) ?_
  refine gdx_p rfl rfl rfl rfl rfl rfl (o_load Try.isAgg3 rfl rfl) ?_
  refine gdx_e rfl ?_
  refine gdx_fresh (R0 := fun d A => ∃ b, d = .v (.pointer (some ⟨b, 0, none⟩)) ∧ A = box b 53 [.list 4 ApiTNode.d [], .i64 0]) rfl rfl rfl rfl (OpT.mono (o_alloc_own Try.zeroValue53 (cs := [.list 4 ApiTNode.d [], .i64 0]) rfl) (by rintro d ms' ⟨b, rfl, rfl⟩; exact ⟨_, ⟨b, rfl, rfl⟩, rfl⟩)) ?_
  refine gdx_e rfl ?_
  refine gdx_nil ?_
  refine gf_t rfl rfl rfl rfl (o_buildSlice_row (xs := []) (f := ApiTNode.d) (l := []) Try.runUnderlying51 Try.sizeOf56 Try.zeroValue56 rfl rfl rfl (fun _ => ⟨rfl, rfl, rfl⟩) rfl (by simp [maxLen])) ?_
  rintro _ _ ⟨a_r1, rfl, rfl⟩
  refine ⟨(trivial : True), ?_⟩
  refine gf_t rfl rfl rfl rfl (o_append (a := _) 0 Try.underlying51 Try.type56 rfl rfl rfl rfl rfl rfl rfl (fun _ => rfl) (fun _ => rfl) hg1 (app_len hg1 rfl)) ?_
  rintro _ _ ⟨a_r1, cap_r1, rfl, rfl⟩
  refine ⟨(trivial : True), ?_⟩
  refine gf_t rfl rfl rfl rfl (o_build (zs := [.list 4 ApiTNode.d [], .v (.int .i64 0)]) Try.runUnderlying53 Try.zeroValue53 (pl_53 _ Try.runUnderlying53) rfl rfl rfl rfl) ?_
  rintro _ _ ⟨rfl, rfl⟩
  refine ⟨(trivial : True), ?_⟩
  refine gf_nil [(7, 6)] rfl ?_
  rintro _ _ ⟨b3, rfl, rfl⟩
  show _ ∧ _
  refine ⟨(trivial : True), ?_⟩
  refine gde2_u rfl rfl rfl (o_store_box 0 Try.sizeOf53 rfl rfl rfl rfl rfl rfl rfl rfl (Nat.le_of_ble_eq_true rfl)) ?_
  rintro _ _ rfl
  refine ⟨(trivial : True), ?_⟩
  refine gde2_nil ?_
  refine g_seq ?_
  refine g_region ?_
  refine go_p rfl rfl rfl (o_fieldAddr fi_53_0 rfl rfl rfl) ?_
  refine go_p rfl rfl rfl (o_load Try.isAgg51 rfl rfl) ?_
  refine go_p rfl rfl rfl (o_len Try.runUnderlying51 rfl) ?_
  refine go_p rfl rfl rfl (o_assign rfl) ?_
  refine go_nil ?_
  refine g_seq ?_
  refine g_seq ?_
  refine g_region ?_
  refine go_p rfl rfl rfl (o_assign rfl) ?_
  refine go_nil ?_
  obtain ⟨o_1, hj1, hm1⟩ := bind_some hm
  refine g_cut_m [(4, _), (6, _), (7, _)] [(2, _)] (fun (st : (Int × (List ApiTNode))) (hid : (Option Addr × Nat)) => match st, hid with | (z1, l1), (a_r1, cap_r1) => []) (fun F (st : (Int × (List ApiTNode))) (hid : (Option Addr × Nat)) => match st, hid with | (z1, l1), (a_r1, cap_r1) => [box b3 53 [.v (.slice a_r1 l1.length cap_r1), .i64 z1], row a_r1 cap_r1 56 4 ApiTNode.d l1, (nthF F 0)]) (fun st => st = o_1) ⟨rfl, rfl, rfl, trivial⟩ ⟨rfl, trivial⟩ ?_ ?_
  · skip
    refine g_block ?_
    refine g_loop_m [(3, _), (4, _), (6, _), (7, _)] [(2, _)] (fun (st : (Int × Int × (List ApiTNode))) (hid : (Option Addr × Nat)) => match st, hid with | (i1, z2, l2), (a_r1, cap_r1) => [(8, .i64 i1)]) (fun F (st : (Int × Int × (List ApiTNode))) (hid : (Option Addr × Nat)) => match st, hid with | (i1, z2, l2), (a_r1, cap_r1) => [box b3 53 [.v (.slice a_r1 l2.length cap_r1), .i64 z2], row a_r1 cap_r1 56 4 ApiTNode.d l2, (nthF F 0)]) (_, _) hj1 (fun _ => rfl) ⟨rfl, rfl, rfl, rfl, trivial⟩ ⟨rfl, trivial⟩ ⟨rfl, trivial⟩ rfl ?_
    rintro n ⟨i1, z2, l2⟩ ⟨a_r1, cap_r1⟩ hj1
    rw [m_syntagmaref13_Graft_l1] at hj1
    refine g_norm (L' := [(8, .i64 i1), (3, _), (4, _), (6, _), (7, _)]) (ms' := [box b3 53 [.v (.slice a_r1 l2.length cap_r1), .i64 z2], row a_r1 cap_r1 56 4 ApiTNode.d l2, _]) rfl rfl ?_
    refine g_seq ?_
    refine g_seq ?_
    refine g_region ?_
    refine go_p rfl rfl rfl (o_move rfl) ?_
    refine go_p rfl rfl rfl (o_fieldAddr fi_53_0 rfl rfl rfl) ?_
    refine go_p rfl rfl rfl (o_load Try.isAgg51 rfl rfl) ?_
    refine go_p rfl rfl rfl (o_len Try.runUnderlying51 rfl) ?_
    refine go_p rfl rfl rfl (o_cmp rfl rfl rfl) ?_
    refine go_nil ?_
    refine g_cond rfl (fun hc1 => ?_) (fun hc1 => ?_)
    · replace hj1 := cond_t hc1 hj1
      refine g_skip ?_
      refine g_seq ?_
      refine g_block ?_
      refine g_seq ?_
      refine g_region ?_
      refine go_p rfl rfl rfl (o_fieldAddr fi_53_0 rfl rfl rfl) ?_
      refine go_p rfl rfl rfl (o_load Try.isAgg51 rfl rfl) ?_
      refine go_p rfl rfl rfl (o_move rfl) ?_
      obtain ⟨x1, hx2, hj1⟩ := bind_some hj1
      refine go_p rfl rfl rfl (o_indexAddr_m Try.runUnderlying51 Try.sizeOf56 rfl rfl hx2) ?_
      refine go_p rfl rfl rfl (o_load_agg Try.isAgg56 Try.sizeOf56 rfl rfl) ?_
      refine go_op rfl rfl rfl (o_alloc_own Try.zeroValue56 (cs := [.i64 0, .i64 0, .i64 0, .list 2 ApiTField.d []]) rfl) ?_
      rintro _ _ ⟨b4, rfl, rfl⟩
      refine go_u rfl rfl (o_store_box 0 Try.sizeOf56 rfl rfl rfl rfl rfl rfl rfl rfl (Nat.le_of_ble_eq_true rfl)) ?_
      rintro _ _ rfl
      refine go_ms (ms' := [box b4 56 [_, _, _, _], box b3 53 [_, _], _, box b1 53 [_, _]]) rfl ?_
      refine go_nil ?_
      refine g_seq ?_
      refine g_seq ?_
      refine g_region ?_
      refine go_p rfl rfl rfl (o_fieldAddr_box fi_56_0 rfl) ?_
      refine go_p rfl rfl rfl (o_load_box 0 Try.isAgg3 rfl rfl rfl rfl) ?_
      refine go_p rfl rfl rfl (o_cmp rfl rfl rfl) ?_
      refine go_p rfl rfl rfl (o_move rfl) ?_
      apply go_or [(3, _), (4, _), (6, _), (7, _), (8, _), (9, _)] 4 41 (t := 37) ⟨rfl, rfl, rfl, rfl, rfl, rfl, trivial⟩ rfl
      · intro hg_1 hk1
        refine go_wantp rfl rfl rfl hg_1 rfl rfl (o_fieldAddr_box fi_56_0 rfl) ?_
        refine go_wantp rfl rfl rfl hg_1 rfl rfl (o_load_box 0 Try.isAgg3 rfl rfl rfl rfl) ?_
        refine go_wantp rfl rfl rfl hg_1 rfl rfl (o_cmp rfl rfl rfl) ?_
        refine go_p rfl rfl rfl (o_pickF rfl hg_1 rfl) ?_
        exact go_meet hk1 (rfl) ⟨rfl, rfl, rfl, rfl, rfl, rfl, trivial⟩
      · intro hg_1 hk1
        refine go_skip rfl rfl rfl hg_1 rfl rfl ?_
        refine go_skip rfl rfl rfl hg_1 rfl rfl ?_
        refine go_skip rfl rfl rfl hg_1 rfl rfl ?_
        refine go_p rfl rfl rfl (o_pickT rfl hg_1 rfl) ?_
        exact go_meet hk1 (rfl) ⟨rfl, rfl, rfl, rfl, rfl, rfl, trivial⟩
      refine go_p rfl rfl rfl (o_move rfl) ?_
      apply go_or [(3, _), (4, _), (6, _), (7, _), (8, _), (9, _)] 4 46 (t := 42) ⟨rfl, rfl, rfl, rfl, rfl, rfl, trivial⟩ rfl
      · intro hg_2 hk2
        refine go_wantp rfl rfl rfl hg_2 rfl rfl (o_fieldAddr_box fi_56_0 rfl) ?_
        refine go_wantp rfl rfl rfl hg_2 rfl rfl (o_load_box 0 Try.isAgg3 rfl rfl rfl rfl) ?_
        refine go_wantp rfl rfl rfl hg_2 rfl rfl (o_cmp rfl rfl rfl) ?_
        refine go_p rfl rfl rfl (o_pickF rfl hg_2 rfl) ?_
        exact go_meet hk2 (rfl) ⟨rfl, rfl, rfl, rfl, rfl, rfl, trivial⟩
      · intro hg_2 hk2
        refine go_skip rfl rfl rfl hg_2 rfl rfl ?_
        refine go_skip rfl rfl rfl hg_2 rfl rfl ?_
        refine go_skip rfl rfl rfl hg_2 rfl rfl ?_
        refine go_p rfl rfl rfl (o_pickT rfl hg_2 rfl) ?_
        exact go_meet hk2 (rfl) ⟨rfl, rfl, rfl, rfl, rfl, rfl, trivial⟩
      refine go_nil ?_
      obtain ⟨o_2, hj2, hm2⟩ := bind_some hj1
      refine g_cut_m [(3, _), (4, _), (6, _), (7, _), (8, _), (9, _)] [(1, _), (2, _), (3, _)] (fun (st : (Int × Int × Int × (List ApiTField))) (hid : Unit) => match st, hid with | (z3, z4, z5, z6), _ => []) (fun F (st : (Int × Int × Int × (List ApiTField))) (hid : Unit) => match st, hid with | (z3, z4, z5, z6), _ => [box b4 56 [.i64 z3, .i64 z4, .i64 z5, .list 2 ApiTField.d z6], (nthF F 0), (nthF F 1), (nthF F 2)]) (fun st => st = o_2) ⟨rfl, rfl, rfl, rfl, rfl, rfl, trivial⟩ ⟨rfl, rfl, rfl, trivial⟩ ?_ ?_
      · skip
        refine g_cond rfl (fun hc2 => ?_) (fun hc2 => ?_)
        · replace hj2 := cond_t hc2 hj2
          refine g_region ?_
          refine go_p rfl rfl rfl (o_fieldAddr_box fi_56_1 rfl) ?_
          refine go_p rfl rfl rfl (o_load_box 0 Try.isAgg3 rfl rfl rfl rfl) ?_
          refine go_p rfl rfl rfl (o_move rfl) ?_
          obtain ⟨hg3, hj2⟩ := grd_some hj2
          refine go_p rfl rfl rfl (o_add rfl rfl (i64_id hg3)) ?_
          refine go_p rfl rfl rfl (o_fieldAddr_box fi_56_2 rfl) ?_
          refine go_p rfl rfl rfl (o_load_box 0 Try.isAgg3 rfl rfl rfl rfl) ?_
          refine go_p rfl rfl rfl (o_move rfl) ?_
          obtain ⟨hg4, hj2⟩ := grd_some hj2
          refine go_p rfl rfl rfl (o_add rfl rfl (i64_id hg4)) ?_
          refine go_p rfl rfl rfl (o_fieldAddr_box fi_56_1 rfl) ?_
          refine go_u rfl rfl (o_store_box 0 Try.sizeOf3 rfl rfl rfl rfl rfl rfl rfl rfl (Nat.le_of_ble_eq_true rfl)) ?_
          rintro _ _ rfl
          refine go_ms (ms' := [box b4 56 [_, _, _, _], box b3 53 [_, _], _, box b1 53 [_, _]]) rfl ?_
          refine go_p rfl rfl rfl (o_fieldAddr_box fi_56_2 rfl) ?_
          refine go_u rfl rfl (o_store_box 0 Try.sizeOf3 rfl rfl rfl rfl rfl rfl rfl rfl (Nat.le_of_ble_eq_true rfl)) ?_
          rintro _ _ rfl
          refine go_ms (ms' := [box b4 56 [_, _, _, _], box b3 53 [_, _], _, box b1 53 [_, _]]) rfl ?_
          refine go_nil ?_
          exact ⟨_, (), some_eq hj2, trivial, ⟨rfl, rfl, rfl, rfl, rfl, rfl, trivial⟩, [], rfl⟩
        · replace hj2 := cond_f hc2 hj2
          refine g_skip ?_
          exact ⟨_, (), some_eq hj2, trivial, ⟨rfl, rfl, rfl, rfl, rfl, rfl, trivial⟩, [], rfl⟩
      · rintro ⟨z3, z4, z5, z6⟩ _ hst
        subst hst
        refine k_norm (L' := [(3, _), (4, _), (6, _), (7, _), (8, _), (9, _)]) (ms' := [box b4 56 [.i64 z3, .i64 z4, .i64 z5, .list 2 ApiTField.d z6], _, _, _]) rfl rfl ?_
        refine g_seq ?_
        refine g_region ?_
        refine go_op rfl rfl rfl (o_buildSlice_row (xs := []) (f := ApiTField.d) (l := []) Try.runUnderlying54 Try.sizeOf100 Try.zeroValue100 rfl rfl rfl (fun _ => ⟨rfl, rfl, rfl⟩) rfl (by simp [maxLen])) ?_
        rintro _ _ ⟨a_r2, rfl, rfl⟩
        refine go_p rfl rfl rfl (o_assign rfl) ?_
        refine go_nil ?_
        refine g_seq ?_
        refine g_seq ?_
        refine g_region ?_
        refine go_p rfl rfl rfl (o_assign rfl) ?_
        refine go_nil ?_
        obtain ⟨o_3, hj3, hm3⟩ := bind_some hm2
        refine g_cut_m [(3, _), (4, _), (6, _), (7, _), (8, _), (9, _)] [(1, _), (2, _), (3, _), (4, _)] (fun (st : (List ApiTField)) (hid : (Option Addr × Nat)) => match st, hid with | l3, (a_r2, cap_r2) => [(10, .v (.slice a_r2 l3.length cap_r2))]) (fun F (st : (List ApiTField)) (hid : (Option Addr × Nat)) => match st, hid with | l3, (a_r2, cap_r2) => [row a_r2 cap_r2 100 2 ApiTField.d l3, (nthF F 0), (nthF F 1), (nthF F 2), (nthF F 3)]) (fun st => st = o_3) ⟨rfl, rfl, rfl, rfl, rfl, rfl, trivial⟩ ⟨rfl, rfl, rfl, rfl, trivial⟩ ?_ ?_
        · skip
          refine g_block ?_
          refine g_loop_m [(3, _), (4, _), (6, _), (7, _), (8, _), (9, _)] [(1, _), (2, _), (3, _), (4, _)] (fun (st : (Int × (List ApiTField))) (hid : (Option Addr × Nat)) => match st, hid with | (k1, l4), (a_r2, cap_r2) => [(10, .v (.slice a_r2 l4.length cap_r2)), (11, .i64 k1)]) (fun F (st : (Int × (List ApiTField))) (hid : (Option Addr × Nat)) => match st, hid with | (k1, l4), (a_r2, cap_r2) => [row a_r2 cap_r2 100 2 ApiTField.d l4, (nthF F 0), (nthF F 1), (nthF F 2), (nthF F 3)]) (_, _) hj3 (fun _ => rfl) ⟨rfl, rfl, rfl, rfl, rfl, rfl, trivial⟩ ⟨rfl, rfl, rfl, rfl, trivial⟩ ⟨rfl, rfl, trivial⟩ rfl ?_
          rintro n ⟨k1, l4⟩ ⟨a_r2, cap_r2⟩ hj3
          rw [m_syntagmaref13_Graft_l2] at hj3
          refine g_norm (L' := [(10, .v (.slice a_r2 l4.length cap_r2)), (11, .i64 k1), (3, _), (4, _), (6, _), (7, _), (8, _), (9, _)]) (ms' := [row a_r2 cap_r2 100 2 ApiTField.d l4, _, _, _, _]) rfl rfl ?_
          refine g_seq ?_
          refine g_seq ?_
          refine g_region ?_
          refine go_p rfl rfl rfl (o_move rfl) ?_
          refine go_p rfl rfl rfl (o_fieldAddr_box fi_56_3 rfl) ?_
          refine go_p rfl rfl rfl (o_load_box 1 Try.isAgg54 rfl rfl rfl rfl) ?_
          refine go_p rfl rfl rfl (o_len Try.runUnderlying54 rfl) ?_
          refine go_p rfl rfl rfl (o_cmp rfl rfl rfl) ?_
          refine go_nil ?_
          refine g_cond rfl (fun hc3 => ?_) (fun hc3 => ?_)
          · replace hj3 := cond_t hc3 hj3
            refine g_skip ?_
            refine g_seq ?_
            refine g_block ?_
            obtain ⟨x2, hx5, hj3⟩ := bind_some hj3
            obtain ⟨x3, hx6, hj3⟩ := bind_some hj3
            obtain ⟨hg7, hj3⟩ := grd_some hj3
            refine g_draw 17 Try_mixed (by decide +kernel) ?_
            refine gd_p rfl rfl rfl (o_move rfl) ?_
            refine gd_p rfl rfl rfl (o_fieldAddr_box fi_56_3 rfl) ?_
            refine gd_p rfl rfl rfl (o_load_box 1 Try.isAgg54 rfl rfl rfl rfl) ?_
            refine gd_p rfl rfl rfl (o_move rfl) ?_
            refine gd_p rfl rfl rfl (o_indexAddr_m Try.runUnderlying54 Try.sizeOf100 rfl rfl hx5) ?_
            refine gd_p rfl rfl rfl (o_fieldAddr fi_100_0 rfl rfl rfl) ?_
            refine gd_p rfl rfl rfl (o_load Try.isAgg9 rfl rfl) ?_
            refine gd_p rfl rfl rfl (o_fieldAddr_box fi_56_3 rfl) ?_
            refine gd_p rfl rfl rfl (o_load_box 1 Try.isAgg54 rfl rfl rfl rfl) ?_
            refine gd_p rfl rfl rfl (o_move rfl) ?_
            refine gd_p rfl rfl rfl (o_indexAddr_m Try.runUnderlying54 Try.sizeOf100 rfl rfl hx6) ?_
            refine gd_p rfl rfl rfl (o_fieldAddr fi_100_1 rfl rfl rfl) ?_
            refine gd_p rfl rfl rfl (o_load Try.isAgg3 rfl rfl) ?_
            refine gd_p rfl rfl rfl (o_move rfl) ?_
            refine gd_p rfl rfl rfl (o_add rfl rfl (i64_id hg7)) ?_
            refine gd_p rfl rfl rfl (o_build (zs := [.str [], .v (.int .i64 0)]) Try.runUnderlying100 Try.zeroValue100 (pl_100 _ Try.runUnderlying100) rfl rfl rfl rfl) ?_
            refine gd_p rfl rfl rfl (o_buildSlice (xs := [_]) (f := ApiTField.d) (l := [(⟨x2.name, (x3.at_ + (a1.l.length : Int))⟩ : ApiTField)]) Try.runUnderlying54 Try.sizeOf100 Try.zeroValue100 rfl rfl rfl (fun _ => ⟨rfl, rfl, rfl⟩) rfl) ?_
            refine gd_nil ?_
            obtain ⟨hg8, hj3⟩ := grd_some hj3
            refine go_op rfl rfl rfl (o_append (a := _) 0 Try.underlying54 Try.type100 rfl rfl rfl rfl rfl rfl rfl (fun _ => rfl) (fun _ => rfl) hg8 (app_len hg8 rfl)) ?_
            rintro _ _ ⟨a_r2, cap_r2, rfl, rfl⟩
            refine go_ms (ms' := [_, box b4 56 [_, _, _, _], box b3 53 [_, _], _, box b1 53 [_, _]]) rfl ?_
            refine go_p rfl rfl rfl (o_assign rfl) ?_
            refine go_nil ?_
            refine g_region ?_
            refine go_p rfl rfl rfl (o_move rfl) ?_
            obtain ⟨hg9, hj3⟩ := grd_some hj3
            refine go_p rfl rfl rfl (o_add rfl rfl (i64_id hg9)) ?_
            refine go_p rfl rfl rfl (o_assign rfl) ?_
            refine go_nil ?_
            exact ⟨_, (_, _), hj3, ⟨rfl, rfl, trivial⟩, ⟨rfl, rfl, rfl, rfl, rfl, rfl, trivial⟩, [], rfl⟩
          · replace hj3 := cond_f hc3 hj3
            refine g_exit ?_
            exact ⟨_, (_, _), some_eq hj3, ⟨rfl, trivial⟩, ⟨rfl, rfl, rfl, rfl, rfl, rfl, trivial⟩, [], rfl⟩
        · rintro l3 ⟨a_r2, cap_r2⟩ hst
          subst hst
          refine k_norm (L' := [(10, .v (.slice a_r2 l3.length cap_r2)), (3, _), (4, _), (6, _), (7, _), (8, _), (9, _)]) (ms' := [row a_r2 cap_r2 100 2 ApiTField.d l3, _, _, _, _]) rfl rfl ?_
          refine g_seq ?_
          refine g_region ?_
          refine go_p rfl rfl rfl (o_move rfl) ?_
          refine go_p rfl rfl rfl (o_fieldAddr_box fi_56_3 rfl) ?_
          refine go_u rfl rfl (o_store_box 1 Try.sizeOf54 rfl rfl rfl rfl rfl rfl rfl rfl (Nat.le_of_ble_eq_true rfl)) ?_
          rintro _ _ rfl
          refine go_ms (ms' := [_, box b4 56 [_, _, _, _], box b3 53 [_, _], _, box b1 53 [_, _]]) rfl ?_
          refine go_nil ?_
          refine g_region ?_
          refine go_p rfl rfl rfl (o_fieldAddr_box fi_53_0 rfl) ?_
          refine go_p rfl rfl rfl (o_load_box 2 Try.isAgg51 rfl rfl rfl rfl) ?_
          refine go_p rfl rfl rfl (o_load_box_agg 1 Try.isAgg56 Try.sizeOf56 rfl rfl rfl rfl (Nat.le_of_ble_eq_true rfl)) ?_
          refine go_conv (peekAggE (i := 87) (q := 3) 0 rfl rfl rfl rfl rfl).refines ?_
          refine go_p rfl rfl rfl (o_buildSlice (xs := [_]) (f := ApiTNode.d) (l := [(⟨z3, z4, z5, l3⟩ : ApiTNode)]) Try.runUnderlying51 Try.sizeOf56 Try.zeroValue56 rfl rfl rfl (fun _ => ⟨rfl, rfl, rfl⟩) rfl) ?_
          obtain ⟨hg10, hm3⟩ := grd_some hm3
          refine go_op rfl rfl rfl (o_append (a := _) 3 Try.underlying51 Try.type56 rfl rfl rfl rfl rfl rfl rfl (fun _ => rfl) (fun _ => rfl) hg10 (app_len hg10 rfl)) ?_
          rintro _ _ ⟨a_r1, cap_r1, rfl, rfl⟩
          refine go_ms (ms' := [_, box b4 56 [_, _, _, _], box b3 53 [_, _], _, box b1 53 [_, _]]) rfl ?_
          refine go_p rfl rfl rfl (o_fieldAddr_box fi_53_0 rfl) ?_
          refine go_u rfl rfl (o_store_box 2 Try.sizeOf51 rfl rfl rfl rfl rfl rfl rfl rfl (Nat.le_of_ble_eq_true rfl)) ?_
          rintro _ _ rfl
          refine go_ms (ms' := [_, box b4 56 [_, _, _, _], box b3 53 [_, _], _, box b1 53 [_, _]]) rfl ?_
          refine go_nil ?_
          refine g_region ?_
          refine go_p rfl rfl rfl (o_move rfl) ?_
          obtain ⟨hg11, hm3⟩ := grd_some hm3
          refine go_p rfl rfl rfl (o_add rfl rfl (i64_id hg11)) ?_
          refine go_p rfl rfl rfl (o_assign rfl) ?_
          refine go_nil ?_
          exact ⟨_, (_, _), hm3, ⟨rfl, trivial⟩, ⟨rfl, rfl, rfl, rfl, trivial⟩, [_, _], rfl⟩
    · replace hj1 := cond_f hc1 hj1
      refine g_exit ?_
      exact ⟨_, (_, _), some_eq hj1, trivial, ⟨rfl, rfl, rfl, trivial⟩, [], rfl⟩
  · rintro ⟨z1, l1⟩ ⟨a_r1, cap_r1⟩ hst
    subst hst
    refine k_norm (L' := [(4, _), (6, _), (7, _)]) (ms' := [box b3 53 [.v (.slice a_r1 l1.length cap_r1), .i64 z1], row a_r1 cap_r1 56 4 ApiTNode.d l1, _]) rfl rfl ?_
    refine g_seq ?_
    refine g_region ?_
    refine go_p rfl rfl rfl (o_load_box_agg 0 Try.isAgg53 Try.sizeOf53 rfl rfl rfl rfl (Nat.le_of_ble_eq_true rfl)) ?_
    refine go_conv (peekAggE (i := 91) (q := 0) 1 rfl rfl rfl rfl rfl).refines ?_
    refine go_p rfl rfl rfl (o_move rfl) ?_
    refine go_u rfl rfl (o_store_box 2 Try.sizeOf53 rfl rfl rfl rfl rfl rfl rfl rfl (Nat.le_of_ble_eq_true rfl)) ?_
    rintro _ _ rfl
    refine go_ms (ms' := [box b3 53 [_, _], _, box b1 53 [_, _]]) rfl ?_
    refine go_p rfl rfl rfl (o_assign rfl) ?_
    refine go_nil ?_
    refine g_ret ?_
    exact retK (ret_many (ds := [_, _]) rfl (by decide) ⟨ret_cell 2 rfl rfl rfl Try.isAgg53 Try.sizeOf53 rfl, ⟨ret_tmp rfl, rfl⟩⟩ (perm_drop _)) (congrArg (fun (p : (ApiType × Int)) => D.tup [ApiType.d p.1, .i64 p.2]) (some_eq hm1))
def ApiTField.eqv (x y : ApiTField) : Bool := ((x.name == y.name) && ((x.at_ == y.at_) && true))
theorem eqf_100 : ∀ fs : Array Field, Try.prog.underlying 100 = some (.struct fs) → EqFields Try.prog fs.toList 0 [.str, .int] := by
  intro fs h
  have := h.symm.trans Try.underlying100
  simp only [Option.some.injEq, TypeDesc.struct.injEq] at this
  subst this
  exact ⟨by decide, rfl, Try.isAgg9, Try.underlying9, ⟨by decide, rfl, Try.isAgg3, ⟨_, Try.underlying3⟩, trivial⟩⟩
def m_syntagmaref13_SameList_l2 (x1 : ApiTNode) (x2 : ApiTNode) : Nat → Int → Option (Out Bool Unit)
  | 0, _ => none
  | n + 1, k1 =>
    bif (decide (k1 < (x1.l.length : Int))) then
      (idx x1.l k1).bind fun x3 =>
      (idx x2.l k1).bind fun x4 =>
      bif (!(ApiTField.eqv x3 x4)) then
        some (Out.ret false)
      else
        grd (InR (k1 + 1)) <|
        m_syntagmaref13_SameList_l2 x1 x2 n (k1 + 1)
    else
      some (Out.go (()))
def m_syntagmaref13_SameList_l1 (a1 : ApiType) (b1 : ApiType) : Nat → Int → Option (Out Bool Unit)
  | 0, _ => none
  | n + 1, i1 =>
    bif (decide (i1 < (a1.l.length : Int))) then
      (idx a1.l i1).bind fun x1 =>
      (idx b1.l i1).bind fun x2 =>
      bif ((((!decide (x1.kind = x2.kind)) || (!decide (x1.a = x2.a))) || (!decide (x1.b = x2.b))) || (!decide ((x1.l.length : Int) = (x2.l.length : Int)))) then
        some (Out.ret false)
      else
        ((m_syntagmaref13_SameList_l2 x1 x2 FU 0 : Option (Out Bool Unit))).bind (fun oo => oo.on (fun r1 => some (Out.ret r1)) (fun _ =>
        grd (InR (i1 + 1)) <|
        m_syntagmaref13_SameList_l1 a1 b1 n (i1 + 1)))
    else
      some (Out.go (()))
def m_syntagmaref13_SameList (a1 : ApiType) (b1 : ApiType) : Option Bool :=
  bif ((!decide ((a1.l.length : Int) = (b1.l.length : Int))) || (!decide (a1.root = b1.root))) then
    some false
  else
    ((m_syntagmaref13_SameList_l1 a1 b1 FU 0 : Option (Out Bool Unit))).bind (fun oo => oo.on (fun r2 => some r2) (fun _ =>
    some true))
theorem w_syntagmaref13_SameList {a1 : ApiType} {b1 : ApiType} {r_1 : Bool} (hm : m_syntagmaref13_SameList a1 b1 = some r_1) : Fn0 Try.prog 40 [ApiType.d a1, ApiType.d b1] (.bool r_1) := by
  unfold m_syntagmaref13_SameList at hm
  refine fn_intro Try.func40 rfl Try.ntmps40 rfl fun H0 fr w0 => ?_
  refine g_seq ?_
  refine g_region ?_
  refine go_p rfl rfl rfl (o_box rfl rfl) ?_
  refine go_p rfl rfl rfl (o_box rfl rfl) ?_
  refine go_p rfl rfl rfl (o_assign rfl) ?_
  refine go_nil ?_
  refine g_seq ?_
  refine g_seq ?_
  refine g_region ?_
  refine go_p rfl rfl rfl (o_fieldAddr fi_53_0 rfl rfl rfl) ?_
  refine go_p rfl rfl rfl (o_load Try.isAgg51 rfl rfl) ?_
  refine go_p rfl rfl rfl (o_len Try.runUnderlying51 rfl) ?_
  refine go_p rfl rfl rfl (o_fieldAddr fi_53_0 rfl rfl rfl) ?_
  refine go_p rfl rfl rfl (o_load Try.isAgg51 rfl rfl) ?_
  refine go_p rfl rfl rfl (o_len Try.runUnderlying51 rfl) ?_
  refine go_p rfl rfl rfl (o_cmp rfl rfl rfl) ?_
  refine go_p rfl rfl rfl (o_move rfl) ?_
  apply go_or [(2, _), (3, _)] 6 22 (t := 16) ⟨rfl, rfl, trivial⟩ rfl
  · intro hg_1 hk1
    refine go_wantp rfl rfl rfl hg_1 rfl rfl (o_fieldAddr fi_53_1 rfl rfl rfl) ?_
    refine go_wantp rfl rfl rfl hg_1 rfl rfl (o_load Try.isAgg3 rfl rfl) ?_
    refine go_wantp rfl rfl rfl hg_1 rfl rfl (o_fieldAddr fi_53_1 rfl rfl rfl) ?_
    refine go_wantp rfl rfl rfl hg_1 rfl rfl (o_load Try.isAgg3 rfl rfl) ?_
    refine go_wantp rfl rfl rfl hg_1 rfl rfl (o_cmp rfl rfl rfl) ?_
    refine go_p rfl rfl rfl (o_pickF rfl hg_1 rfl) ?_
    exact go_meet hk1 (rfl) ⟨rfl, rfl, trivial⟩
  · intro hg_1 hk1
    refine go_skip rfl rfl rfl hg_1 rfl rfl ?_
    refine go_skip rfl rfl rfl hg_1 rfl rfl ?_
    refine go_skip rfl rfl rfl hg_1 rfl rfl ?_
    refine go_skip rfl rfl rfl hg_1 rfl rfl ?_
    refine go_skip rfl rfl rfl hg_1 rfl rfl ?_
    refine go_p rfl rfl rfl (o_pickT rfl hg_1 rfl) ?_
    exact go_meet hk1 (rfl) ⟨rfl, rfl, trivial⟩
  refine go_nil ?_
  refine g_cond rfl (fun hc1 => ?_) (fun hc1 => ?_)
  · replace hm := cond_t hc1 hm
    refine g_seq ?_
    refine g_region ?_
    refine go_p rfl rfl rfl (o_assign rfl) ?_
    refine go_nil ?_
    refine g_ret ?_
    exact retK (ret_one' rfl (ret_tmp rfl) (perm_drop _)) (congrArg (fun (p : Bool) => (.bool p : D)) (some_eq hm))
  · replace hm := cond_f hc1 hm
    refine g_skip ?_
    refine g_seq ?_
    refine g_seq ?_
    refine g_region ?_
    refine go_p rfl rfl rfl (o_assign rfl) ?_
    refine go_nil ?_
    obtain ⟨o_1, hj1, hm1⟩ := bind_some hm
    refine g_cut_m [] [] (fun (st : Unit) (hid : Unit) => match st, hid with | _, _ => []) (fun F (st : Unit) (hid : Unit) => match st, hid with | _, _ => []) (fun st => Out.go (st) = o_1) trivial trivial ?_ ?_
    · skip
      refine g_block ?_
      refine g_loop_m [(2, _), (3, _)] [] (fun (st : Int) (hid : Unit) => match st, hid with | i1, _ => [(5, .i64 i1)]) (fun F (st : Int) (hid : Unit) => match st, hid with | i1, _ => []) () hj1 (fun _ => rfl) ⟨rfl, rfl, trivial⟩ trivial ⟨rfl, trivial⟩ rfl ?_
      rintro n i1 _ hj1
      rw [m_syntagmaref13_SameList_l1] at hj1
      refine g_norm (L' := [(5, .i64 i1), (2, _), (3, _)]) (ms' := []) rfl rfl ?_
      refine g_seq ?_
      refine g_seq ?_
      refine g_region ?_
      refine go_p rfl rfl rfl (o_move rfl) ?_
      refine go_p rfl rfl rfl (o_fieldAddr fi_53_0 rfl rfl rfl) ?_
      refine go_p rfl rfl rfl (o_load Try.isAgg51 rfl rfl) ?_
      refine go_p rfl rfl rfl (o_len Try.runUnderlying51 rfl) ?_
      refine go_p rfl rfl rfl (o_cmp rfl rfl rfl) ?_
      refine go_nil ?_
      refine g_cond rfl (fun hc2 => ?_) (fun hc2 => ?_)
      · replace hj1 := cond_t hc2 hj1
        refine g_skip ?_
        refine g_seq ?_
        refine g_block ?_
        refine g_seq ?_
        obtain ⟨x1, hx1, hj1⟩ := bind_some hj1
        obtain ⟨x2, hx2, hj1⟩ := bind_some hj1
        refine g_draw_x [] [12, 13] [5, 6, 7, 8, 9] [10, 11] [] Try_mixed (by decide +kernel) (by decide +kernel) rfl ?_
        refine gdx_p rfl rfl rfl rfl rfl rfl (o_fieldAddr fi_53_0 rfl rfl rfl) ?_
        refine gdx_p rfl rfl rfl rfl rfl rfl (o_load Try.isAgg51 rfl rfl) ?_
        refine gdx_p rfl rfl rfl rfl rfl rfl (o_move rfl) ?_
        refine gdx_p rfl rfl rfl rfl rfl rfl (o_indexAddr_m Try.runUnderlying51 Try.sizeOf56 rfl rfl hx1) ?_
        refine gdx_p rfl rfl rfl rfl rfl rfl (o_load_agg Try.isAgg56 Try.sizeOf56 rfl rfl) ?_
        refine gdx_p rfl rfl rfl rfl rfl rfl (o_fieldAddr fi_53_0 rfl rfl rfl) ?_
        refine gdx_p rfl rfl rfl rfl rfl rfl (o_load Try.isAgg51 rfl rfl) ?_
        refine gdx_p rfl rfl rfl rfl rfl rfl (o_move rfl) ?_
        refine gdx_p rfl rfl rfl rfl rfl rfl (o_indexAddr_m Try.runUnderlying51 Try.sizeOf56 rfl rfl hx2) ?_
        refine gdx_p rfl rfl rfl rfl rfl rfl (o_load_agg Try.isAgg56 Try.sizeOf56 rfl rfl) ?_
        refine gdx_fresh (R0 := fun d A => ∃ b, d = .v (.pointer (some ⟨b, 0, none⟩)) ∧ A = box b 56 [.i64 0, .i64 0, .i64 0, .list 2 ApiTField.d []]) rfl rfl rfl rfl (OpT.mono (o_alloc_own Try.zeroValue56 (cs := [.i64 0, .i64 0, .i64 0, .list 2 ApiTField.d []]) rfl) (by rintro d ms' ⟨b, rfl, rfl⟩; exact ⟨_, ⟨b, rfl, rfl⟩, rfl⟩)) ?_
        refine gdx_fresh (R0 := fun d A => ∃ b, d = .v (.pointer (some ⟨b, 0, none⟩)) ∧ A = box b 56 [.i64 0, .i64 0, .i64 0, .list 2 ApiTField.d []]) rfl rfl rfl rfl (OpT.mono (o_alloc_own Try.zeroValue56 (cs := [.i64 0, .i64 0, .i64 0, .list 2 ApiTField.d []]) rfl) (by rintro d ms' ⟨b, rfl, rfl⟩; exact ⟨_, ⟨b, rfl, rfl⟩, rfl⟩)) ?_
        refine gdx_e rfl ?_
        refine gdx_e rfl ?_
        refine gdx_nil ?_
        refine gf_nil [(10, 6), (11, 7)] rfl ?_
        rintro _ _ ⟨b1, rfl, rfl⟩
        rintro _ _ ⟨b2, rfl, rfl⟩
        show _ ∧ _
        refine ⟨(trivial : True), ?_⟩
        refine gde2_u rfl rfl rfl (o_store_box 0 Try.sizeOf56 rfl rfl rfl rfl rfl rfl rfl rfl (Nat.le_of_ble_eq_true rfl)) ?_
        rintro _ _ rfl
        refine ⟨(trivial : True), ?_⟩
        refine gde2_u rfl rfl rfl (o_store_box 1 Try.sizeOf56 rfl rfl rfl rfl rfl rfl rfl rfl (Nat.le_of_ble_eq_true rfl)) ?_
        rintro _ _ rfl
        refine ⟨(trivial : True), ?_⟩
        refine gde2_nil ?_
        refine g_seq ?_
        refine g_seq ?_
        refine g_region ?_
        refine go_p rfl rfl rfl (o_fieldAddr_box fi_56_0 rfl) ?_
        refine go_p rfl rfl rfl (o_load_box 0 Try.isAgg3 rfl rfl rfl rfl) ?_
        refine go_p rfl rfl rfl (o_fieldAddr_box fi_56_0 rfl) ?_
        refine go_p rfl rfl rfl (o_load_box 1 Try.isAgg3 rfl rfl rfl rfl) ?_
        refine go_p rfl rfl rfl (o_cmp rfl rfl rfl) ?_
        refine go_p rfl rfl rfl (o_move rfl) ?_
        apply go_or [(2, _), (3, _), (5, _), (6, _), (7, _)] 6 51 (t := 45) ⟨rfl, rfl, rfl, rfl, rfl, trivial⟩ rfl
        · intro hg_2 hk2
          refine go_wantp rfl rfl rfl hg_2 rfl rfl (o_fieldAddr_box fi_56_1 rfl) ?_
          refine go_wantp rfl rfl rfl hg_2 rfl rfl (o_load_box 0 Try.isAgg3 rfl rfl rfl rfl) ?_
          refine go_wantp rfl rfl rfl hg_2 rfl rfl (o_fieldAddr_box fi_56_1 rfl) ?_
          refine go_wantp rfl rfl rfl hg_2 rfl rfl (o_load_box 1 Try.isAgg3 rfl rfl rfl rfl) ?_
          refine go_wantp rfl rfl rfl hg_2 rfl rfl (o_cmp rfl rfl rfl) ?_
          refine go_p rfl rfl rfl (o_pickF rfl hg_2 rfl) ?_
          exact go_meet hk2 (rfl) ⟨rfl, rfl, rfl, rfl, rfl, trivial⟩
        · intro hg_2 hk2
          refine go_skip rfl rfl rfl hg_2 rfl rfl ?_
          refine go_skip rfl rfl rfl hg_2 rfl rfl ?_
          refine go_skip rfl rfl rfl hg_2 rfl rfl ?_
          refine go_skip rfl rfl rfl hg_2 rfl rfl ?_
          refine go_skip rfl rfl rfl hg_2 rfl rfl ?_
          refine go_p rfl rfl rfl (o_pickT rfl hg_2 rfl) ?_
          exact go_meet hk2 (rfl) ⟨rfl, rfl, rfl, rfl, rfl, trivial⟩
        refine go_p rfl rfl rfl (o_move rfl) ?_
        apply go_or [(2, _), (3, _), (5, _), (6, _), (7, _)] 6 58 (t := 52) ⟨rfl, rfl, rfl, rfl, rfl, trivial⟩ rfl
        · intro hg_3 hk3
          refine go_wantp rfl rfl rfl hg_3 rfl rfl (o_fieldAddr_box fi_56_2 rfl) ?_
          refine go_wantp rfl rfl rfl hg_3 rfl rfl (o_load_box 0 Try.isAgg3 rfl rfl rfl rfl) ?_
          refine go_wantp rfl rfl rfl hg_3 rfl rfl (o_fieldAddr_box fi_56_2 rfl) ?_
          refine go_wantp rfl rfl rfl hg_3 rfl rfl (o_load_box 1 Try.isAgg3 rfl rfl rfl rfl) ?_
          refine go_wantp rfl rfl rfl hg_3 rfl rfl (o_cmp rfl rfl rfl) ?_
          refine go_p rfl rfl rfl (o_pickF rfl hg_3 rfl) ?_
          exact go_meet hk3 (rfl) ⟨rfl, rfl, rfl, rfl, rfl, trivial⟩
        · intro hg_3 hk3
          refine go_skip rfl rfl rfl hg_3 rfl rfl ?_
          refine go_skip rfl rfl rfl hg_3 rfl rfl ?_
          refine go_skip rfl rfl rfl hg_3 rfl rfl ?_
          refine go_skip rfl rfl rfl hg_3 rfl rfl ?_
          refine go_skip rfl rfl rfl hg_3 rfl rfl ?_
          refine go_p rfl rfl rfl (o_pickT rfl hg_3 rfl) ?_
          exact go_meet hk3 (rfl) ⟨rfl, rfl, rfl, rfl, rfl, trivial⟩
        refine go_p rfl rfl rfl (o_move rfl) ?_
        apply go_or [(2, _), (3, _), (5, _), (6, _), (7, _)] 8 67 (t := 59) ⟨rfl, rfl, rfl, rfl, rfl, trivial⟩ rfl
        · intro hg_4 hk4
          refine go_wantp rfl rfl rfl hg_4 rfl rfl (o_fieldAddr_box fi_56_3 rfl) ?_
          refine go_wantp rfl rfl rfl hg_4 rfl rfl (o_load_box 0 Try.isAgg54 rfl rfl rfl rfl) ?_
          refine go_wantp rfl rfl rfl hg_4 rfl rfl (o_len Try.runUnderlying54 rfl) ?_
          refine go_wantp rfl rfl rfl hg_4 rfl rfl (o_fieldAddr_box fi_56_3 rfl) ?_
          refine go_wantp rfl rfl rfl hg_4 rfl rfl (o_load_box 1 Try.isAgg54 rfl rfl rfl rfl) ?_
          refine go_wantp rfl rfl rfl hg_4 rfl rfl (o_len Try.runUnderlying54 rfl) ?_
          refine go_wantp rfl rfl rfl hg_4 rfl rfl (o_cmp rfl rfl rfl) ?_
          refine go_p rfl rfl rfl (o_pickF rfl hg_4 rfl) ?_
          exact go_meet hk4 (rfl) ⟨rfl, rfl, rfl, rfl, rfl, trivial⟩
        · intro hg_4 hk4
          refine go_skip rfl rfl rfl hg_4 rfl rfl ?_
          refine go_skip rfl rfl rfl hg_4 rfl rfl ?_
          refine go_skip rfl rfl rfl hg_4 rfl rfl ?_
          refine go_skip rfl rfl rfl hg_4 rfl rfl ?_
          refine go_skip rfl rfl rfl hg_4 rfl rfl ?_
          refine go_skip rfl rfl rfl hg_4 rfl rfl ?_
          refine go_skip rfl rfl rfl hg_4 rfl rfl ?_
          refine go_p rfl rfl rfl (o_pickT rfl hg_4 rfl) ?_
          exact go_meet hk4 (rfl) ⟨rfl, rfl, rfl, rfl, rfl, trivial⟩
        refine go_nil ?_
        refine g_cond rfl (fun hc3 => ?_) (fun hc3 => ?_)
        · replace hj1 := cond_t hc3 hj1
          refine g_seq ?_
          refine g_region ?_
          refine go_p rfl rfl rfl (o_assign rfl) ?_
          refine go_nil ?_
          refine g_ret ?_
          obtain rfl := some_eq hj1
          replace hm1 := on_ret hm1
          exact retK (ret_one' rfl (ret_tmp rfl) (perm_drop _)) (congrArg (fun (p : Bool) => (.bool p : D)) (some_eq hm1))
        · replace hj1 := cond_f hc3 hj1
          refine g_skip ?_
          refine g_seq ?_
          refine g_region ?_
          refine go_p rfl rfl rfl (o_assign rfl) ?_
          refine go_nil ?_
          obtain ⟨o_2, hj2, hm2⟩ := bind_some hj1
          refine g_cut_m [(2, _), (3, _), (5, _)] [(0, _), (1, _)] (fun (st : Unit) (hid : Unit) => match st, hid with | _, _ => []) (fun F (st : Unit) (hid : Unit) => match st, hid with | _, _ => [(nthF F 0), (nthF F 1)]) (fun st => Out.go (st) = o_2) ⟨rfl, rfl, rfl, trivial⟩ ⟨rfl, rfl, trivial⟩ ?_ ?_
          · skip
            refine g_block ?_
            refine g_loop_m [(2, _), (3, _), (5, _), (6, _), (7, _)] [(0, _), (1, _)] (fun (st : Int) (hid : Unit) => match st, hid with | k1, _ => [(8, .i64 k1)]) (fun F (st : Int) (hid : Unit) => match st, hid with | k1, _ => [(nthF F 0), (nthF F 1)]) () hj2 (fun _ => rfl) ⟨rfl, rfl, rfl, rfl, rfl, trivial⟩ ⟨rfl, rfl, trivial⟩ ⟨rfl, trivial⟩ rfl ?_
            rintro n k1 _ hj2
            rw [m_syntagmaref13_SameList_l2] at hj2
            refine g_norm (L' := [(8, .i64 k1), (2, _), (3, _), (5, _), (6, _), (7, _)]) (ms' := [_, _]) rfl rfl ?_
            refine g_seq ?_
            refine g_seq ?_
            refine g_region ?_
            refine go_p rfl rfl rfl (o_move rfl) ?_
            refine go_p rfl rfl rfl (o_fieldAddr_box fi_56_3 rfl) ?_
            refine go_p rfl rfl rfl (o_load_box 0 Try.isAgg54 rfl rfl rfl rfl) ?_
            refine go_p rfl rfl rfl (o_len Try.runUnderlying54 rfl) ?_
            refine go_p rfl rfl rfl (o_cmp rfl rfl rfl) ?_
            refine go_nil ?_
            refine g_cond rfl (fun hc4 => ?_) (fun hc4 => ?_)
            · replace hj2 := cond_t hc4 hj2
              refine g_skip ?_
              refine g_seq ?_
              refine g_block ?_
              refine g_seq ?_
              obtain ⟨x3, hx3, hj2⟩ := bind_some hj2
              obtain ⟨x4, hx4, hj2⟩ := bind_some hj2
              refine g_draw 11 Try_mixed (by decide +kernel) ?_
              refine gd_p rfl rfl rfl (o_fieldAddr_box fi_56_3 rfl) ?_
              refine gd_p rfl rfl rfl (o_load_box 0 Try.isAgg54 rfl rfl rfl rfl) ?_
              refine gd_p rfl rfl rfl (o_move rfl) ?_
              refine gd_p rfl rfl rfl (o_indexAddr_m Try.runUnderlying54 Try.sizeOf100 rfl rfl hx3) ?_
              refine gd_p rfl rfl rfl (o_load_agg Try.isAgg100 Try.sizeOf100 rfl rfl) ?_
              refine gd_p rfl rfl rfl (o_fieldAddr_box fi_56_3 rfl) ?_
              refine gd_p rfl rfl rfl (o_load_box 1 Try.isAgg54 rfl rfl rfl rfl) ?_
              refine gd_p rfl rfl rfl (o_move rfl) ?_
              refine gd_p rfl rfl rfl (o_indexAddr_m Try.runUnderlying54 Try.sizeOf100 rfl rfl hx4) ?_
              refine gd_p rfl rfl rfl (o_load_agg Try.isAgg100 Try.sizeOf100 rfl rfl) ?_
              refine gd_p rfl rfl rfl (o_neqagg (ks := [.str, .int]) Try.underlying100 (by kernel_rfl) (by kernel_rfl) (eqf_100 _ Try.underlying100) rfl rfl rfl) ?_
              refine gd_nil ?_
              refine go_nil ?_
              refine g_cond rfl (fun hc5 => ?_) (fun hc5 => ?_)
              · replace hj2 := cond_t hc5 hj2
                refine g_seq ?_
                refine g_region ?_
                refine go_p rfl rfl rfl (o_assign rfl) ?_
                refine go_nil ?_
                refine g_ret ?_
                obtain rfl := some_eq hj2
                replace hm2 := on_ret hm2
                obtain rfl := some_eq hm2
                replace hm1 := on_ret hm1
                exact retK (ret_one' rfl (ret_tmp rfl) (perm_drop _)) (congrArg (fun (p : Bool) => (.bool p : D)) (some_eq hm1))
              · replace hj2 := cond_f hc5 hj2
                refine g_skip ?_
                refine g_region ?_
                refine go_p rfl rfl rfl (o_move rfl) ?_
                obtain ⟨hg5, hj2⟩ := grd_some hj2
                refine go_p rfl rfl rfl (o_add rfl rfl (i64_id hg5)) ?_
                refine go_p rfl rfl rfl (o_assign rfl) ?_
                refine go_nil ?_
                exact ⟨_, (), hj2, ⟨rfl, trivial⟩, ⟨rfl, rfl, rfl, rfl, rfl, trivial⟩, [], rfl⟩
            · replace hj2 := cond_f hc4 hj2
              refine g_exit ?_
              exact ⟨_, (), some_eq hj2, trivial, ⟨rfl, rfl, rfl, trivial⟩, [], rfl⟩
          · rintro _ _ hst
            subst hst
            replace hm2 := on_go hm2
            refine k_norm (L' := [(2, _), (3, _), (5, _)]) (ms' := [_, _]) rfl rfl ?_
            refine g_region ?_
            refine go_p rfl rfl rfl (o_move rfl) ?_
            obtain ⟨hg6, hm2⟩ := grd_some hm2
            refine go_p rfl rfl rfl (o_add rfl rfl (i64_id hg6)) ?_
            refine go_p rfl rfl rfl (o_assign rfl) ?_
            refine go_nil ?_
            exact ⟨_, (), hm2, ⟨rfl, trivial⟩, ⟨rfl, rfl, trivial⟩, [_, _], rfl⟩
      · replace hj1 := cond_f hc2 hj1
        refine g_exit ?_
        exact ⟨_, (), some_eq hj1, trivial, trivial, [], rfl⟩
    · rintro _ _ hst
      subst hst
      replace hm1 := on_go hm1
      refine k_norm (L' := []) (ms' := []) rfl rfl ?_
      refine g_seq ?_
      refine g_region ?_
      refine go_p rfl rfl rfl (o_assign rfl) ?_
      refine go_nil ?_
      refine g_ret ?_
      exact retK (ret_one' rfl (ret_tmp rfl) (perm_drop _)) (congrArg (fun (p : Bool) => (.bool p : D)) (some_eq hm1))
def m_syntagmalaw13_GraphGrafts (a1 : ApiType) (b1 : ApiType) (kind1 : Int) : Option Bool :=
  (m_syntagmalaw13_Few (⟨a1.l, a1.root⟩ : ApiType) 60).bind fun x1 =>
  (m_syntagmalaw13_Few (⟨b1.l, b1.root⟩ : ApiType) 60).bind fun x2 =>
  (m_graph_Leaf kind1).bind fun x3 =>
  (m_syntagmaref13_May (⟨x1.l, x1.root⟩ : ApiType)).bind fun x4 =>
  (bif (!decide (x4 = 0)) then (some true) else ((m_syntagmaref13_May (⟨x2.l, x2.root⟩ : ApiType)).bind fun x5 =>
  some (!decide (x5 = 0)))).bind fun p1 =>
  bif p1 then
    (bif ((decide ((x3.l.length : Int) = 1)) && (decide (x3.root = 0))) then ((idx x3.l 0).bind fun x6 =>
    some (decide (x6.kind = kind1))) else (some false)).bind fun p2 =>
    (bif p2 then ((m_syntagmalaw13_works).bind fun x7 =>
    some x7) else (some false)).bind fun p3 =>
    some p3
  else
    (m_syntagmalaw13_Few (⟨x1.l, x1.root⟩ : ApiType) 60).bind fun x8 =>
    (m_syntagmalaw13_Few (⟨x2.l, x2.root⟩ : ApiType) 60).bind fun x9 =>
    (m_graph_Graft x8 x9).bind fun (x10, x11) =>
    (m_syntagmaref13_Graft (⟨x1.l, x1.root⟩ : ApiType) (⟨x2.l, x2.root⟩ : ApiType)).bind fun (x12, x13) =>
    (m_syntagmaref13_SameList (⟨x10.l, x10.root⟩ : ApiType) (⟨x12.l, x12.root⟩ : ApiType)).bind fun x14 =>
    (bif ((x14 && (decide (x11 = x13))) && (decide ((x3.l.length : Int) = 1))) then ((idx x3.l 0).bind fun x15 =>
    some (decide (x15.kind = kind1))) else (some false)).bind fun p4 =>
    (bif p4 then ((m_syntagmalaw13_works).bind fun x16 =>
    some x16) else (some false)).bind fun p5 =>
    some p5
theorem w_syntagmalaw13_GraphGrafts {a1 : ApiType} {b1 : ApiType} {kind1 : Int} {r_1 : Bool} (hm : m_syntagmalaw13_GraphGrafts a1 b1 kind1 = some r_1) : Fn0 Try.prog 7 [ApiType.d a1, ApiType.d b1, .i64 kind1] (.bool r_1) := by
  unfold m_syntagmalaw13_GraphGrafts at hm
  refine fn_intro Try.func7 rfl Try.ntmps7 rfl fun H0 fr w0 => ?_
  refine g_seq ?_
  refine g_region ?_
  refine go_op rfl rfl rfl (o_box_own rfl rfl rfl) ?_
  rintro _ _ ⟨b1, rfl, rfl⟩
  refine go_op rfl rfl rfl (o_box_own rfl rfl rfl) ?_
  rintro _ _ ⟨b2, rfl, rfl⟩
  refine go_p rfl rfl rfl (o_assign rfl) ?_
  refine go_nil ?_
  refine g_seq ?_
  obtain ⟨x1, hx1, hm⟩ := bind_some hm
  obtain ⟨x2, hx2, hm⟩ := bind_some hm
  refine g_draw 4 Try_mixed (by decide +kernel) ?_
  refine gd_p rfl rfl rfl (o_load_box_agg 1 Try.isAgg53 Try.sizeOf53 rfl rfl rfl rfl (Nat.le_of_ble_eq_true rfl)) ?_
  refine gd_p rfl rfl rfl (o_call0 Try.call28 rfl (w_syntagmalaw13_Few hx1)) ?_
  refine gd_p rfl rfl rfl (o_load_box_agg 0 Try.isAgg53 Try.sizeOf53 rfl rfl rfl rfl (Nat.le_of_ble_eq_true rfl)) ?_
  refine gd_p rfl rfl rfl (o_call0 Try.call28 rfl (w_syntagmalaw13_Few hx2)) ?_
  refine gd_nil ?_
  refine go_u rfl rfl (o_store_box 1 Try.sizeOf53 rfl rfl rfl rfl rfl rfl rfl rfl (Nat.le_of_ble_eq_true rfl)) ?_
  rintro _ _ rfl
  refine go_ms (ms' := [box b2 53 [_, _], box b1 53 [_, _]]) rfl ?_
  refine go_u rfl rfl (o_store_box 0 Try.sizeOf53 rfl rfl rfl rfl rfl rfl rfl rfl (Nat.le_of_ble_eq_true rfl)) ?_
  rintro _ _ rfl
  refine go_ms (ms' := [box b2 53 [_, _], box b1 53 [_, _]]) rfl ?_
  refine go_nil ?_
  refine g_seq ?_
  refine g_region ?_
  refine go_p rfl rfl rfl (o_move rfl) ?_
  obtain ⟨x3, hx3, hm⟩ := bind_some hm
  refine go_p rfl rfl rfl (o_call0 Try.call37 rfl (w_graph_Leaf hx3)) ?_
  refine go_op rfl rfl rfl (o_alloc_own Try.zeroValue53 (cs := [.list 4 ApiTNode.d [], .i64 0]) rfl) ?_
  rintro _ _ ⟨b3, rfl, rfl⟩
  refine go_u rfl rfl (o_store_box 0 Try.sizeOf53 rfl rfl rfl rfl rfl rfl rfl rfl (Nat.le_of_ble_eq_true rfl)) ?_
  rintro _ _ rfl
  refine go_ms (ms' := [box b3 53 [_, _], box b2 53 [_, _], box b1 53 [_, _]]) rfl ?_
  refine go_nil ?_
  refine g_seq ?_
  refine g_seq ?_
  refine g_region ?_
  refine go_p rfl rfl rfl (o_load_box_agg 2 Try.isAgg53 Try.sizeOf53 rfl rfl rfl rfl (Nat.le_of_ble_eq_true rfl)) ?_
  obtain ⟨x4, hx4, hm⟩ := bind_some hm
  refine go_p rfl rfl rfl (o_call0 Try.call29 rfl (w_syntagmaref13_May hx4)) ?_
  refine go_p rfl rfl rfl (o_cmp rfl rfl rfl) ?_
  refine go_p rfl rfl rfl (o_move rfl) ?_
  obtain ⟨p1, hp_1, hm⟩ := bind_some hm
  refine go_two [(2, _), (3, _), (4, _), (7, _)] 4 25 p1 (t := 21) ⟨rfl, rfl, rfl, rfl, trivial⟩ rfl (fun hg_1 hk1 => ?_) (fun hg_1 hk1 => ?_) ?_
  · replace hp_1 := cond_t hg_1 hp_1
    refine go_skip rfl rfl rfl hg_1 rfl rfl ?_
    refine go_skip rfl rfl rfl hg_1 rfl rfl ?_
    refine go_skip rfl rfl rfl hg_1 rfl rfl ?_
    refine go_p rfl rfl rfl (o_pickT rfl hg_1 rfl) ?_
    exact go_meet hk1 (congrArg (fun b => some (D.bool b)) (some_eq hp_1)) ⟨rfl, rfl, rfl, rfl, trivial⟩
  · replace hp_1 := cond_f hg_1 hp_1
    refine go_wantp rfl rfl rfl hg_1 rfl rfl (o_load_box_agg 1 Try.isAgg53 Try.sizeOf53 rfl rfl rfl rfl (Nat.le_of_ble_eq_true rfl)) ?_
    obtain ⟨x5, hx5, hp_1⟩ := bind_some hp_1
    refine go_wantp rfl rfl rfl hg_1 rfl rfl (o_call0 Try.call29 rfl (w_syntagmaref13_May hx5)) ?_
    refine go_wantp rfl rfl rfl hg_1 rfl rfl (o_cmp rfl rfl rfl) ?_
    refine go_p rfl rfl rfl (o_pickF rfl hg_1 rfl) ?_
    exact go_meet hk1 (congrArg (fun b => some (D.bool b)) (some_eq hp_1)) ⟨rfl, rfl, rfl, rfl, trivial⟩
  refine go_nil ?_
  refine g_cond rfl (fun hc1 => ?_) (fun hc1 => ?_)
  · replace hm := cond_t hc1 hm
    refine g_seq ?_
    refine g_region ?_
    refine go_p rfl rfl rfl (o_fieldAddr_box fi_53_0 rfl) ?_
    refine go_p rfl rfl rfl (o_load_box 0 Try.isAgg51 rfl rfl rfl rfl) ?_
    refine go_p rfl rfl rfl (o_len Try.runUnderlying51 rfl) ?_
    refine go_p rfl rfl rfl (o_cmp rfl rfl rfl) ?_
    refine go_p rfl rfl rfl (o_move rfl) ?_
    apply go_and [(2, _), (7, _)] 4 34 (t := 30) ⟨rfl, rfl, trivial⟩ rfl
    · intro hg_2 hk2
      refine go_wantp rfl rfl rfl hg_2 rfl rfl (o_fieldAddr_box fi_53_1 rfl) ?_
      refine go_wantp rfl rfl rfl hg_2 rfl rfl (o_load_box 0 Try.isAgg3 rfl rfl rfl rfl) ?_
      refine go_wantp rfl rfl rfl hg_2 rfl rfl (o_cmp rfl rfl rfl) ?_
      refine go_p rfl rfl rfl (o_pickT rfl hg_2 rfl) ?_
      exact go_meet hk2 (rfl) ⟨rfl, rfl, trivial⟩
    · intro hg_2 hk2
      refine go_skip rfl rfl rfl hg_2 rfl rfl ?_
      refine go_skip rfl rfl rfl hg_2 rfl rfl ?_
      refine go_skip rfl rfl rfl hg_2 rfl rfl ?_
      refine go_p rfl rfl rfl (o_pickF rfl hg_2 rfl) ?_
      exact go_meet hk2 (rfl) ⟨rfl, rfl, trivial⟩
    refine go_p rfl rfl rfl (o_move rfl) ?_
    obtain ⟨p2, hp_3, hm⟩ := bind_some hm
    refine go_two [] 8 43 p2 (t := 35) trivial rfl (fun hg_3 hk3 => ?_) (fun hg_3 hk3 => ?_) ?_
    · replace hp_3 := cond_t hg_3 hp_3
      refine go_wantp rfl rfl rfl hg_3 rfl rfl (o_fieldAddr_box fi_53_0 rfl) ?_
      refine go_wantp rfl rfl rfl hg_3 rfl rfl (o_load_box 0 Try.isAgg51 rfl rfl rfl rfl) ?_
      obtain ⟨x6, hx6, hp_3⟩ := bind_some hp_3
      refine go_wantp rfl rfl rfl hg_3 rfl rfl (o_indexAddr_m Try.runUnderlying51 Try.sizeOf56 rfl rfl hx6) ?_
      refine go_wantp rfl rfl rfl hg_3 rfl rfl (o_fieldAddr fi_56_0 rfl rfl rfl) ?_
      refine go_wantp rfl rfl rfl hg_3 rfl rfl (o_load Try.isAgg3 rfl rfl) ?_
      refine go_wantp rfl rfl rfl hg_3 rfl rfl (o_move rfl) ?_
      refine go_wantp rfl rfl rfl hg_3 rfl rfl (o_cmp rfl rfl rfl) ?_
      refine go_p rfl rfl rfl (o_pickT rfl hg_3 rfl) ?_
      exact go_meet hk3 (congrArg (fun b => some (D.bool b)) (some_eq hp_3)) trivial
    · replace hp_3 := cond_f hg_3 hp_3
      refine go_skip rfl rfl rfl hg_3 rfl rfl ?_
      refine go_skip rfl rfl rfl hg_3 rfl rfl ?_
      refine go_skip rfl rfl rfl hg_3 rfl rfl ?_
      refine go_skip rfl rfl rfl hg_3 rfl rfl ?_
      refine go_skip rfl rfl rfl hg_3 rfl rfl ?_
      refine go_skip rfl rfl rfl hg_3 rfl rfl ?_
      refine go_skip rfl rfl rfl hg_3 rfl rfl ?_
      refine go_p rfl rfl rfl (o_pickF rfl hg_3 rfl) ?_
      exact go_meet hk3 (congrArg (fun b => some (D.bool b)) (some_eq hp_3)) trivial
    refine go_p rfl rfl rfl (o_move rfl) ?_
    obtain ⟨p3, hp_4, hm⟩ := bind_some hm
    refine go_two [] 2 46 p3 (t := 44) trivial rfl (fun hg_4 hk4 => ?_) (fun hg_4 hk4 => ?_) ?_
    · replace hp_4 := cond_t hg_4 hp_4
      obtain ⟨x7, hx7, hp_4⟩ := bind_some hp_4
      refine go_wantp rfl rfl rfl hg_4 rfl rfl (o_call0 Try.call36 rfl (w_syntagmalaw13_works hx7)) ?_
      refine go_p rfl rfl rfl (o_pickT rfl hg_4 rfl) ?_
      exact go_meet hk4 (congrArg (fun b => some (D.bool b)) (some_eq hp_4)) trivial
    · replace hp_4 := cond_f hg_4 hp_4
      refine go_skip rfl rfl rfl hg_4 rfl rfl ?_
      refine go_p rfl rfl rfl (o_pickF rfl hg_4 rfl) ?_
      exact go_meet hk4 (congrArg (fun b => some (D.bool b)) (some_eq hp_4)) trivial
    refine go_p rfl rfl rfl (o_assign rfl) ?_
    refine go_nil ?_
    refine g_ret ?_
    exact retK (ret_one' rfl (ret_tmp rfl) (perm_drop _)) (congrArg (fun (p : Bool) => (.bool p : D)) (some_eq hm))
  · replace hm := cond_f hc1 hm
    refine g_skip ?_
    refine g_seq ?_
    obtain ⟨x8, hx8, hm⟩ := bind_some hm
    obtain ⟨x9, hx9, hm⟩ := bind_some hm
    obtain ⟨⟨x10, x11⟩, hx10, hm⟩ := bind_some hm
    refine g_draw_c [8, 9] [0, 1, 2, 3, 4, 5, 6, 7, 10] [0, 2] Try_mixed (by decide +kernel) (by decide +kernel) rfl ?_
    refine gde_f rfl rfl rfl rfl rfl (o_load_box_agg 2 Try.isAgg53 Try.sizeOf53 rfl rfl rfl rfl (Nat.le_of_ble_eq_true rfl)) ?_
    refine gde_p rfl rfl rfl rfl rfl rfl (o_call0 Try.call28 rfl (w_syntagmalaw13_Few hx8)) ?_
    refine gde_f rfl rfl rfl rfl rfl (o_load_box_agg 1 Try.isAgg53 Try.sizeOf53 rfl rfl rfl rfl (Nat.le_of_ble_eq_true rfl)) ?_
    refine gde_p rfl rfl rfl rfl rfl rfl (o_call0 Try.call28 rfl (w_syntagmalaw13_Few hx9)) ?_
    refine gde_p rfl rfl rfl rfl rfl rfl (o_call0 Try.call38 rfl (w_graph_Graft hx10)) ?_
    refine gde_p rfl rfl rfl rfl rfl rfl (o_move rfl) ?_
    refine gde_p rfl rfl rfl rfl rfl rfl (o_extract rfl rfl) ?_
    refine gde_p rfl rfl rfl rfl rfl rfl (o_extract rfl rfl) ?_
    refine gde_e rfl ?_
    refine gde_e rfl ?_
    refine gde_p rfl rfl rfl rfl rfl rfl (o_assign rfl) ?_
    refine gde_nil ?_
    refine gde2_t rfl rfl rfl rfl (o_alloc_own Try.zeroValue53 (cs := [.list 4 ApiTNode.d [], .i64 0]) rfl) ?_
    rintro _ _ ⟨b4, rfl, rfl⟩
    refine ⟨⟨⟨trivial, o_load_box_agg 3 Try.isAgg53 Try.sizeOf53 rfl rfl rfl rfl (Nat.le_of_ble_eq_true rfl)⟩, o_load_box_agg 2 Try.isAgg53 Try.sizeOf53 rfl rfl rfl rfl (Nat.le_of_ble_eq_true rfl)⟩, ?_⟩
    refine gde2_u rfl rfl rfl (o_store_box 0 Try.sizeOf53 rfl rfl rfl rfl rfl rfl rfl rfl (Nat.le_of_ble_eq_true rfl)) ?_
    rintro _ _ rfl
    refine ⟨⟨⟨trivial, o_load_box_agg 3 Try.isAgg53 Try.sizeOf53 rfl rfl rfl rfl (Nat.le_of_ble_eq_true rfl)⟩, o_load_box_agg 2 Try.isAgg53 Try.sizeOf53 rfl rfl rfl rfl (Nat.le_of_ble_eq_true rfl)⟩, ?_⟩
    refine gde2_nil ?_
    refine g_seq ?_
    refine g_region ?_
    refine go_p rfl rfl rfl (o_load_box_agg 3 Try.isAgg53 Try.sizeOf53 rfl rfl rfl rfl (Nat.le_of_ble_eq_true rfl)) ?_
    refine go_p rfl rfl rfl (o_load_box_agg 2 Try.isAgg53 Try.sizeOf53 rfl rfl rfl rfl (Nat.le_of_ble_eq_true rfl)) ?_
    obtain ⟨⟨x12, x13⟩, hx11, hm⟩ := bind_some hm
    refine go_p rfl rfl rfl (o_call0 Try.call39 rfl (w_syntagmaref13_Graft hx11)) ?_
    refine go_p rfl rfl rfl (o_move rfl) ?_
    refine go_p rfl rfl rfl (o_extract rfl rfl) ?_
    refine go_p rfl rfl rfl (o_extract rfl rfl) ?_
    refine go_op rfl rfl rfl (o_alloc_own Try.zeroValue53 (cs := [.list 4 ApiTNode.d [], .i64 0]) rfl) ?_
    rintro _ _ ⟨b5, rfl, rfl⟩
    refine go_u rfl rfl (o_store_box 0 Try.sizeOf53 rfl rfl rfl rfl rfl rfl rfl rfl (Nat.le_of_ble_eq_true rfl)) ?_
    rintro _ _ rfl
    refine go_ms (ms' := [box b5 53 [_, _], box b4 53 [_, _], box b3 53 [_, _], box b2 53 [_, _], box b1 53 [_, _]]) rfl ?_
    refine go_p rfl rfl rfl (o_assign rfl) ?_
    refine go_nil ?_
    refine g_seq ?_
    refine g_region ?_
    refine go_p rfl rfl rfl (o_load_box_agg 1 Try.isAgg53 Try.sizeOf53 rfl rfl rfl rfl (Nat.le_of_ble_eq_true rfl)) ?_
    refine go_p rfl rfl rfl (o_load_box_agg 0 Try.isAgg53 Try.sizeOf53 rfl rfl rfl rfl (Nat.le_of_ble_eq_true rfl)) ?_
    obtain ⟨x14, hx12, hm⟩ := bind_some hm
    refine go_p rfl rfl rfl (o_call0 Try.call40 rfl (w_syntagmaref13_SameList hx12)) ?_
    refine go_p rfl rfl rfl (o_move rfl) ?_
    apply go_and [(2, _), (7, _)] 4 68 (t := 64) ⟨rfl, rfl, trivial⟩ rfl
    · intro hg_5 hk5
      refine go_wantp rfl rfl rfl hg_5 rfl rfl (o_move rfl) ?_
      refine go_wantp rfl rfl rfl hg_5 rfl rfl (o_move rfl) ?_
      refine go_wantp rfl rfl rfl hg_5 rfl rfl (o_cmp rfl rfl rfl) ?_
      refine go_p rfl rfl rfl (o_pickT rfl hg_5 rfl) ?_
      exact go_meet hk5 (rfl) ⟨rfl, rfl, trivial⟩
    · intro hg_5 hk5
      refine go_skip rfl rfl rfl hg_5 rfl rfl ?_
      refine go_skip rfl rfl rfl hg_5 rfl rfl ?_
      refine go_skip rfl rfl rfl hg_5 rfl rfl ?_
      refine go_p rfl rfl rfl (o_pickF rfl hg_5 rfl) ?_
      exact go_meet hk5 (rfl) ⟨rfl, rfl, trivial⟩
    refine go_p rfl rfl rfl (o_move rfl) ?_
    apply go_and [(2, _), (7, _)] 5 74 (t := 69) ⟨rfl, rfl, trivial⟩ rfl
    · intro hg_6 hk6
      refine go_wantp rfl rfl rfl hg_6 rfl rfl (o_fieldAddr_box fi_53_0 rfl) ?_
      refine go_wantp rfl rfl rfl hg_6 rfl rfl (o_load_box 2 Try.isAgg51 rfl rfl rfl rfl) ?_
      refine go_wantp rfl rfl rfl hg_6 rfl rfl (o_len Try.runUnderlying51 rfl) ?_
      refine go_wantp rfl rfl rfl hg_6 rfl rfl (o_cmp rfl rfl rfl) ?_
      refine go_p rfl rfl rfl (o_pickT rfl hg_6 rfl) ?_
      exact go_meet hk6 (rfl) ⟨rfl, rfl, trivial⟩
    · intro hg_6 hk6
      refine go_skip rfl rfl rfl hg_6 rfl rfl ?_
      refine go_skip rfl rfl rfl hg_6 rfl rfl ?_
      refine go_skip rfl rfl rfl hg_6 rfl rfl ?_
      refine go_skip rfl rfl rfl hg_6 rfl rfl ?_
      refine go_p rfl rfl rfl (o_pickF rfl hg_6 rfl) ?_
      exact go_meet hk6 (rfl) ⟨rfl, rfl, trivial⟩
    refine go_p rfl rfl rfl (o_move rfl) ?_
    obtain ⟨p4, hp_7, hm⟩ := bind_some hm
    refine go_two [] 8 83 p4 (t := 75) trivial rfl (fun hg_7 hk7 => ?_) (fun hg_7 hk7 => ?_) ?_
    · replace hp_7 := cond_t hg_7 hp_7
      refine go_wantp rfl rfl rfl hg_7 rfl rfl (o_fieldAddr_box fi_53_0 rfl) ?_
      refine go_wantp rfl rfl rfl hg_7 rfl rfl (o_load_box 2 Try.isAgg51 rfl rfl rfl rfl) ?_
      obtain ⟨x15, hx13, hp_7⟩ := bind_some hp_7
      refine go_wantp rfl rfl rfl hg_7 rfl rfl (o_indexAddr_m Try.runUnderlying51 Try.sizeOf56 rfl rfl hx13) ?_
      refine go_wantp rfl rfl rfl hg_7 rfl rfl (o_fieldAddr fi_56_0 rfl rfl rfl) ?_
      refine go_wantp rfl rfl rfl hg_7 rfl rfl (o_load Try.isAgg3 rfl rfl) ?_
      refine go_wantp rfl rfl rfl hg_7 rfl rfl (o_move rfl) ?_
      refine go_wantp rfl rfl rfl hg_7 rfl rfl (o_cmp rfl rfl rfl) ?_
      refine go_p rfl rfl rfl (o_pickT rfl hg_7 rfl) ?_
      exact go_meet hk7 (congrArg (fun b => some (D.bool b)) (some_eq hp_7)) trivial
    · replace hp_7 := cond_f hg_7 hp_7
      refine go_skip rfl rfl rfl hg_7 rfl rfl ?_
      refine go_skip rfl rfl rfl hg_7 rfl rfl ?_
      refine go_skip rfl rfl rfl hg_7 rfl rfl ?_
      refine go_skip rfl rfl rfl hg_7 rfl rfl ?_
      refine go_skip rfl rfl rfl hg_7 rfl rfl ?_
      refine go_skip rfl rfl rfl hg_7 rfl rfl ?_
      refine go_skip rfl rfl rfl hg_7 rfl rfl ?_
      refine go_p rfl rfl rfl (o_pickF rfl hg_7 rfl) ?_
      exact go_meet hk7 (congrArg (fun b => some (D.bool b)) (some_eq hp_7)) trivial
    refine go_p rfl rfl rfl (o_move rfl) ?_
    obtain ⟨p5, hp_8, hm⟩ := bind_some hm
    refine go_two [] 2 86 p5 (t := 84) trivial rfl (fun hg_8 hk8 => ?_) (fun hg_8 hk8 => ?_) ?_
    · replace hp_8 := cond_t hg_8 hp_8
      obtain ⟨x16, hx14, hp_8⟩ := bind_some hp_8
      refine go_wantp rfl rfl rfl hg_8 rfl rfl (o_call0 Try.call36 rfl (w_syntagmalaw13_works hx14)) ?_
      refine go_p rfl rfl rfl (o_pickT rfl hg_8 rfl) ?_
      exact go_meet hk8 (congrArg (fun b => some (D.bool b)) (some_eq hp_8)) trivial
    · replace hp_8 := cond_f hg_8 hp_8
      refine go_skip rfl rfl rfl hg_8 rfl rfl ?_
      refine go_p rfl rfl rfl (o_pickF rfl hg_8 rfl) ?_
      exact go_meet hk8 (congrArg (fun b => some (D.bool b)) (some_eq hp_8)) trivial
    refine go_p rfl rfl rfl (o_assign rfl) ?_
    refine go_nil ?_
    refine g_ret ?_
    exact retK (ret_one' rfl (ret_tmp rfl) (perm_drop _)) (congrArg (fun (p : Bool) => (.bool p : D)) (some_eq hm))
end Go.Proofs.Ytafphfokopkhdaa
set_option linter.unusedVariables false
set_option linter.unusedSimpArgs false
set_option maxRecDepth 100000
namespace Go.Proofs.Ytafphfokopkhdaa
open Go.V
open Classical
theorem FUv : FU = 18446744073709551616 := rfl
theorem bt (b c : Bool) : (bif b then some true else some c : Option Bool) = some (b || c) := by cases b <;> rfl
theorem bf (b c : Bool) : (bif b then some c else some false : Option Bool) = some (b && c) := by cases b <;> rfl
def smallB (c : UInt8) : Bool := (decide (97 ≤ (c.toNat : Int)) && decide ((c.toNat : Int) ≤ 122)) || decide ((c.toNat : Int) = 95)
def greatB (c : UInt8) : Bool := decide (65 ≤ (c.toNat : Int)) && decide ((c.toNat : Int) ≤ 90)
def moreB (c : UInt8) : Bool := (smallB c || greatB c) || (decide (48 ≤ (c.toNat : Int)) && decide ((c.toNat : Int) ≤ 57))
def wordP : List UInt8 → Nat
  | [] => 0
  | c :: r => if smallB c = true ∨ greatB c = true then 1 + (r.takeWhile moreB).length else 0
theorem word_c (c : UInt8) (r : List UInt8) : wordP (c :: r) = if smallB c = true ∨ greatB c = true then 1 + (r.takeWhile moreB).length else 0 := rfl
theorem rword_eq (s : List UInt8) (h : s.length ≤ 1000000000000) : m_syntagmaref03_Word s = some (wordP s : Int) := by
  unfold m_syntagmaref03_Word
  rcases s with _ | ⟨c, r⟩
  · rfl
  · rw [decide_eq_false (by simp; omega), cond_false, idx_c0, Option.bind_some]
    simp only [m_syntagmaref03_small, m_syntagmaref03_great, Option.bind_some, bf]
    rw [show (((decide (97 ≤ (c.toNat : Int))) && (decide ((c.toNat : Int) ≤ 122))) || (decide ((c.toNat : Int) = 95))) = smallB c from rfl, show ((decide (65 ≤ (c.toNat : Int))) && (decide ((c.toNat : Int) ≤ 90))) = greatB c from rfl]
    rw [word_c]
    cases h1 : smallB c || greatB c with
    | false =>
      simp only [Bool.or_eq_false_iff] at h1
      rw [h1.1, h1.2]; simp
    | true =>
      rw [if_pos (by simpa using h1)]
      have : (!smallB c && !greatB c) = false := by cases hs : smallB c <;> cases hg : greatB c <;> simp_all
      rw [this, cond_false]
      simp only [List.length_cons] at h
      refine bnd (loop_while (φ := m_syntagmaref03_Word_l1 (c :: r)) (l := c :: r) moreB (fun i => (i : Int)) ?_ ?_ FU 1 (by simp) (by rw [FUv]; simp; omega)) rfl
      · intro n i x hx hi
        simp only [List.length_cons] at hi
        simp only [m_syntagmaref03_Word_l1]
        rw [decide_eq_true (by simp only [List.length_cons]; omega), cond_true, getI hx, Option.bind_some]
        simp only [m_syntagmaref03_small, m_syntagmaref03_great, Option.bind_some, bt, bf]
        constructor
        · intro hq
          simp only [moreB, smallB, greatB] at hq
          rw [hq, cond_true, grd_pos (by omega)]
        · intro hq
          simp only [moreB, smallB, greatB] at hq
          rw [hq, cond_false]
      · intro n
        simp only [m_syntagmaref03_Word_l1]
        rw [decide_eq_false (by omega), cond_false, Option.bind_some, cond_false]
def keysL : List (List UInt8) := match m_name_Keywords with | some l => l | none => []
theorem rkeys_eq : m_syntagmaref03_Keywords = some keysL := rfl
theorem rIsKey_eq (l : List (List UInt8)) (s : List UInt8) (h : l.length ≤ 1000) : m_syntagmaref03_In s l = some (decide (s ∈ l)) := by
  unfold m_syntagmaref03_In
  refine bnd (loop_any (φ := m_syntagmaref03_In_l1 s l) (l := l) true (fun _ x => x = s) ?_ ?_ (by rw [FUv]; omega)) ?_
  · intro n i x hx hi
    simp only [m_syntagmaref03_In_l1]
    rw [decide_eq_true (by omega), cond_true, getI hx, Option.bind_some]
    constructor
    · intro hq; rw [decide_eq_false hq, cond_false, grd_pos (by omega)]
    · intro hq; rw [decide_eq_true hq, cond_true]
  · intro n
    simp only [m_syntagmaref03_In_l1]
    rw [decide_eq_false (by omega), cond_false]
  · by_cases hs : s ∈ l
    · obtain ⟨i, hi, h2⟩ := List.getElem_of_mem hs
      rw [if_pos ⟨i, s, by rw [← h2]; exact List.getElem?_eq_getElem hi, rfl⟩, decide_eq_true hs]; rfl
    · rw [if_neg, decide_eq_false hs]; rfl
      rintro ⟨i, x, h1, rfl⟩
      exact hs (List.mem_of_getElem? h1)
def headP (p : UInt8 → Bool) : List UInt8 → Bool
  | [] => false
  | c :: _ => p c
def wholeP (s : List UInt8) : Bool := decide (s ≠ []) && decide (s.length ≤ 20) && decide (wordP s = s.length)
def nameP (s : List UInt8) : Bool := wholeP s && headP smallB s && !decide (s ∈ keysL)
def tagP (s : List UInt8) : Bool := wholeP s && headP greatB s
theorem rwhole_eq (s : List UInt8) : (bif ((decide (0 < (s.length : Int))) && (decide ((s.length : Int) ≤ 20))) then ((m_syntagmaref03_Word s).bind fun x1 => some (decide (x1 = (s.length : Int)))) else (some false)) = some (wholeP s) := by
  unfold wholeP
  by_cases h1 : s = []
  · subst h1; rfl
  have h0 : 0 < s.length := List.length_pos_iff.2 h1
  by_cases h2 : s.length ≤ 20
  · rw [decide_eq_true (show 0 < (s.length : Int) by omega), decide_eq_true (show (s.length : Int) ≤ 20 by omega), rword_eq s (by omega)]
    simp only [Bool.true_and, cond_true, Option.bind_some, decide_eq_true (show s ≠ [] from h1), decide_eq_true h2]
    congr 1
    exact decide_eq_decide.2 (by omega)
  · rw [decide_eq_false (show ¬ (s.length : Int) ≤ 20 by omega), decide_eq_false h2]; simp
theorem rname_eq (s : List UInt8) : m_syntagmaref03_Name s = some (nameP s) := by
  unfold m_syntagmaref03_Name nameP
  refine bnd (rwhole_eq s) ?_
  cases hw : wholeP s with
  | false => rfl
  | true =>
    rcases s with _ | ⟨c, r⟩
    · simp [wholeP] at hw
    · rw [cond_true, idx_c0, Option.bind_some]
      simp only [m_syntagmaref03_small, Option.bind_some, m_syntagmaref03_Keyword, rkeys_eq, Bool.true_and]
      rw [rIsKey_eq _ _ (by decide), Option.bind_some, Option.bind_some, bf, Option.bind_some]; rfl
theorem rtag_eq (s : List UInt8) : m_syntagmaref03_Tag s = some (tagP s) := by
  unfold m_syntagmaref03_Tag tagP
  refine bnd (rwhole_eq s) ?_
  cases hw : wholeP s with
  | false => rfl
  | true =>
    rcases s with _ | ⟨c, r⟩
    · simp [wholeP] at hw
    · rw [cond_true, idx_c0, Option.bind_some]; rfl
def fewN (n : ApiTNode) : ApiTNode := ⟨n.kind, n.a, n.b, [] ++ n.l.take 40⟩
def fewC (l : List ApiTNode) : Nat := if 2000 < l.length then 2001 else 60
def fewT (t : ApiType) : ApiType := ⟨(t.l.take (fewC t.l)).map fewN, t.root⟩
theorem min40 (l : List ApiTField) : sli l 0 (if 40 < (l.length : Int) then 40 else (l.length : Int)) = some (l.take 40) := by
  by_cases h : 40 < (l.length : Int)
  · rw [if_pos h]; exact sli_take (k := 40) (by omega)
  · rw [if_neg h, sli_take (by omega), List.take_of_length_le (by omega), List.take_of_length_le (by omega)]
theorem few_eq (t : ApiType) : m_syntagmalaw13_Few t 60 = some (fewT t) := by
  unfold m_syntagmalaw13_Few fewT
  have hC : fewC t.l = 2001 ∧ 2000 < t.l.length ∨ fewC t.l = 60 ∧ ¬ 2000 < t.l.length := by unfold fewC; split <;> simp_all
  have hL : (t.l.take (fewC t.l)).length ≤ 2001 ∧ (t.l.take (fewC t.l)).length ≤ t.l.length ∧ (t.l.take (fewC t.l)).length ≤ fewC t.l := by rw [List.length_take]; omega
  rw [loop_map (φ := fun n i s => m_syntagmalaw13_Few_l1 t 60 n (i, s, t.root)) (l := t.l.take (fewC t.l)) fewN (fun s => (s, t.root)) 0 ?_ ?_ (by rw [FUv]; omega) [] rfl]
  · rfl
  · intro n i x s hx hi hs
    have hx2 : t.l[i]? = some x := by
      rw [List.getElem?_take, if_pos (by omega)] at hx
      exact hx
    have h40 : (x.l.take 40).length ≤ 40 := by rw [List.length_take]; omega
    simp only [m_syntagmalaw13_Few_l1]
    rw [decide_eq_true (show (i : Int) < t.l.length by omega), Bool.true_and, show (decide ((i : Int) < 60) || (decide (2000 < (t.l.length : Int)) && decide ((i : Int) ≤ 2000))) = true by
      rw [Bool.or_eq_true, Bool.and_eq_true, decide_eq_true_eq, decide_eq_true_eq, decide_eq_true_eq]; omega, cond_true, getI hx2, Option.bind_some, min40, Option.bind_some, grd_pos (by omega), grd_pos (by simp only [List.length_cons, List.length_nil]; omega), grd_pos (by omega)]
    rfl
  · intro n s hs
    simp only [m_syntagmalaw13_Few_l1]
    rw [show (decide (((t.l.take (fewC t.l)).length : Int) < t.l.length) && (decide (((t.l.take (fewC t.l)).length : Int) < 60) || (decide (2000 < (t.l.length : Int)) && decide (((t.l.take (fewC t.l)).length : Int) ≤ 2000)))) = false by
      rw [List.length_take, Bool.and_eq_false_iff, Bool.or_eq_false_iff, Bool.and_eq_false_iff, decide_eq_false_iff_not, decide_eq_false_iff_not, decide_eq_false_iff_not, decide_eq_false_iff_not]; omega, cond_false]
theorem fewT_len (t : ApiType) : (fewT t).l.length ≤ 2001 := by unfold fewT fewC; simp only [List.length_map, List.length_take]; split <;> omega
def NB (n : ApiTNode) : Prop := n.l.length ≤ 40
theorem fewN_nb (n : ApiTNode) : NB (fewN n) := by unfold fewN NB; simp; omega
theorem fewT_nb (t : ApiType) : ∀ n ∈ (fewT t).l, NB n := by
  intro n hn
  obtain ⟨m, _, rfl⟩ := List.mem_map.1 hn
  exact fewN_nb m
theorem fewN_fewN (n : ApiTNode) : fewN (fewN n) = fewN n := by
  unfold fewN
  simp only [List.nil_append, ApiTNode.mk.injEq, true_and]
  exact List.take_of_length_le (by rw [List.length_take]; omega)
theorem fewT_fewT (t : ApiType) : fewT (fewT t) = fewT t := by
  have h1 := fewT_len t
  have h2 : fewC (fewT t).l = fewC t.l := by
    unfold fewC
    have : (fewT t).l.length = min (fewC t.l) t.l.length := by unfold fewT; simp
    rw [this]; unfold fewC
    split <;> split <;> omega
  have h3 : (fewT t).l.length ≤ fewC t.l := by unfold fewT; simp; omega
  show (⟨((fewT t).l.take (fewC (fewT t).l)).map fewN, t.root⟩ : ApiType) = _
  rw [h2, List.take_of_length_le h3]
  unfold fewT
  simp only [List.map_map]
  congr 1
  exact List.map_congr_left fun n _ => fewN_fewN n
def pB (k : Int) : Bool := (decide (k = 6) || decide (k = 9)) || decide (k = 10)
def wB (k : Int) : Bool := decide (k = 7) || decide (k = 8)
def kidsL (n : ApiTNode) : List Int := bif pB n.kind then [n.a, n.b] else bif wB n.kind then n.l.map (·.at_) else []
theorem rkids_eq (n : ApiTNode) (h : NB n) : m_syntagmaref13_Kids n = some (kidsL n) := by
  unfold m_syntagmaref13_Kids kidsL
  unfold NB at h
  change (bif pB n.kind then _ else bif wB n.kind then _ else _) = _
  cases pB n.kind
  · cases wB n.kind
    · rfl
    · rw [cond_false, cond_true, cond_false, cond_true, loop_map (φ := fun k i s => m_syntagmaref13_Kids_l1 n k (i, s)) (l := n.l) (·.at_) id 0 ?_ ?_ (by rw [FUv]; omega) [] rfl]
      · rfl
      · intro k i x s hx hi hs
        simp only [m_syntagmaref13_Kids_l1]
        rw [decide_eq_true (show (i : Int) < n.l.length by omega), cond_true, getI hx, Option.bind_some, grd_pos (by simp only [List.length_cons, List.length_nil]; omega), grd_pos (by omega)]
      · intro k s hs
        simp only [m_syntagmaref13_Kids_l1]
        rw [decide_eq_false (by omega), cond_false]; rfl
  · rfl
theorem kidsL_len (n : ApiTNode) (h : NB n) : (kidsL n).length ≤ 40 := by
  unfold kidsL; unfold NB at h
  cases pB n.kind
  · cases wB n.kind
    · simp
    · simpa using h
  · simp
def badF (n : ApiTNode) (x : ApiTField) : Bool := (decide (n.kind = 7) && !nameP x.name) || (decide (n.kind = 8) && !tagP x.name)
def okF (n : ApiTNode) (i : Nat) (x : ApiTField) : Prop := badF n x = false ∧ (0 < i → ∀ y, n.l[i - 1]? = some y → Op.bytesLess y.name x.name = true)
def namedP (n : ApiTNode) : Prop := ∀ i x, n.l[i]? = some x → okF n i x
theorem rnamed_eq (n : ApiTNode) (h : NB n) : m_syntagmaref13_right_l1 n FU 0 = some (if namedP n then .go () else .ret false) := by
  unfold NB at h
  rw [loop_all (φ := m_syntagmaref13_right_l1 n) (l := n.l) false (okF n) ?_ ?_ (by rw [FUv]; omega)]
  · rfl
  · intro k i x hx hi
    simp only [m_syntagmaref13_right_l1]
    have e1 : ((bif (decide (n.kind = 7)) then ((m_syntagmaref03_Name x.name).bind fun x3 => some (!x3)) else (some false)).bind fun p1 =>
      (bif p1 then (some true) else ((bif (decide (n.kind = 8)) then ((m_syntagmaref03_Tag x.name).bind fun x4 => some (!x4)) else (some false)).bind fun p3 => some p3))) = some (badF n x) := by
      rw [rname_eq, rtag_eq, Option.bind_some, Option.bind_some, bf, Option.bind_some, bf, Option.bind_some, bt]; rfl
    rw [decide_eq_true (show (i : Int) < n.l.length by omega), cond_true, getI hx, Option.bind_some, ← Option.bind_assoc, e1, Option.bind_some]
    unfold okF
    cases hb : badF n x
    · rw [cond_false]
      by_cases h0 : 0 < i
      · have hy : n.l[i - 1]? = some n.l[i - 1] := List.getElem?_eq_getElem (by omega)
        rw [decide_eq_true (show (0 : Int) < (i : Int) by omega), cond_true, grd_pos (by omega), show ((i : Int) - 1) = ((i - 1 : Nat) : Int) by omega, getI hy, Option.bind_some, Option.bind_some, Option.bind_some]
        constructor
        · rintro ⟨_, h2⟩
          rw [h2 h0 _ hy, Bool.not_true, cond_false, grd_pos (by omega)]
        · intro h2
          cases hl : Op.bytesLess (n.l[i - 1]).name x.name
          · rfl
          · exact absurd ⟨rfl, fun _ y hy2 => by rw [hy] at hy2; cases hy2; exact hl⟩ h2
      · rw [decide_eq_false (show ¬ (0 : Int) < (i : Int) by omega), cond_false, Option.bind_some, Option.bind_some, cond_false]
        exact ⟨fun _ => by rw [grd_pos (by omega)], fun h2 => absurd ⟨rfl, fun h3 => absurd h3 h0⟩ h2⟩
    · rw [cond_true, Option.bind_some, cond_true]
      exact ⟨fun h2 => by simp at h2, fun _ => rfl⟩
  · intro k
    simp only [m_syntagmaref13_right_l1]
    rw [decide_eq_false (by omega), cond_false]
def inB (all k : Int) : Bool := decide (k < 0) || decide (all ≤ k)
theorem routKids_eq (l : List Int) (all : Int) (h : l.length ≤ 1000) : m_syntagmaref13_right_l2 all l FU 0 = some (if (∃ k ∈ l, inB all k = true) then .ret false else .go ()) := by
  rw [loop_any (φ := m_syntagmaref13_right_l2 all l) (l := l) false (fun _ k => inB all k = true) ?_ ?_ (by rw [FUv]; omega)]
  · have e : (∃ (i : Nat) (x : Int), l[i]? = some x ∧ inB all x = true) ↔ ∃ k ∈ l, inB all k = true := by
      constructor
      · rintro ⟨i, x, h1, h2⟩; exact ⟨x, List.mem_of_getElem? h1, h2⟩
      · rintro ⟨k, h1, h2⟩; obtain ⟨i, hi⟩ := List.getElem?_of_mem h1; exact ⟨i, k, hi, h2⟩
    by_cases h2 : ∃ k ∈ l, inB all k = true
    · rw [if_pos (e.2 h2), if_pos h2]
    · rw [if_neg (fun h3 => h2 (e.1 h3)), if_neg h2]
  · intro n i x hx hi
    simp only [m_syntagmaref13_right_l2]
    rw [decide_eq_true (show (i : Int) < l.length by omega), cond_true, getI hx, Option.bind_some, Option.bind_some, bt, Option.bind_some]
    change (¬ inB all x = true → (bif inB all x then _ else _) = _) ∧ (inB all x = true → (bif inB all x then _ else _) = _)
    cases inB all x
    · exact ⟨fun _ => by rw [cond_false, grd_pos (by omega)], fun h => by cases h⟩
    · exact ⟨fun h => absurd rfl h, fun _ => by rw [cond_true]⟩
  · intro n
    simp only [m_syntagmaref13_right_l2]
    rw [decide_eq_false (by omega), cond_false]
noncomputable def rightB (n : ApiTNode) (all : Int) : Bool :=
  !(decide (n.kind < 1) || decide (11 < n.kind)) && (!((!pB n.kind) && ((!decide (n.b = 0)) || ((!decide (n.kind = 11)) && (!decide (n.a = 0))))) && (!(decide (n.kind = 11) && (decide (n.a < 0) || decide (999 < n.a))) &&
    (!((!wB n.kind) && decide (0 < (n.l.length : Int))) && ((decide (namedP n) && decide ((n.l.length : Int) ≤ 30)) && !decide (∃ k ∈ kidsL n, inB all k = true)))))
theorem rright_eq (n : ApiTNode) (all : Int) (h : NB n) : m_syntagmaref13_right n all = some (rightB n all) := by
  unfold m_syntagmaref13_right rightB
  rw [rnamed_eq n h, rkids_eq n h, Option.bind_some, Option.bind_some, routKids_eq _ _ (by have := kidsL_len n h; omega), Option.bind_some]
  change (bif ((((((decide (n.kind < 1)) || (decide (11 < n.kind))) || (((!pB n.kind) && (!decide (n.kind = 11))) && (!decide (n.a = 0)))) || ((!pB n.kind) && (!decide (n.b = 0)))) || ((!wB n.kind) && (decide (0 < (n.l.length : Int))))) || (decide (30 < (n.l.length : Int)))) then _ else _) = _
  rw [show decide (30 < (n.l.length : Int)) = !decide ((n.l.length : Int) ≤ 30) by rw [← decide_not]; exact decide_eq_decide.2 (by omega)]
  by_cases hn : namedP n
  · rw [if_pos hn, decide_eq_true hn]
    by_cases hk : ∃ k ∈ kidsL n, inB all k = true
    · rw [if_pos hk, decide_eq_true hk]
      cases decide (n.kind < 1) <;> cases decide (11 < n.kind) <;> cases pB n.kind <;> cases wB n.kind <;> cases decide (n.kind = 11) <;> cases decide (n.a = 0) <;> cases decide (n.b = 0) <;> cases decide (0 < (n.l.length : Int)) <;> cases decide ((n.l.length : Int) ≤ 30) <;> cases decide (n.a < 0) <;> cases decide (999 < n.a) <;> rfl
    · rw [if_neg hk, decide_eq_false hk]
      cases decide (n.kind < 1) <;> cases decide (11 < n.kind) <;> cases pB n.kind <;> cases wB n.kind <;> cases decide (n.kind = 11) <;> cases decide (n.a = 0) <;> cases decide (n.b = 0) <;> cases decide (0 < (n.l.length : Int)) <;> cases decide ((n.l.length : Int) ≤ 30) <;> cases decide (n.a < 0) <;> cases decide (999 < n.a) <;> rfl
  · rw [if_neg hn, decide_eq_false hn]
    cases decide (n.kind < 1) <;> cases decide (11 < n.kind) <;> cases pB n.kind <;> cases wB n.kind <;> cases decide (n.kind = 11) <;> cases decide (n.a = 0) <;> cases decide (n.b = 0) <;> cases decide (0 < (n.l.length : Int)) <;> cases decide ((n.l.length : Int) ≤ 30) <;> cases decide (n.a < 0) <;> cases decide (999 < n.a) <;> rfl
end Go.Proofs.Ytafphfokopkhdaa
set_option linter.unusedVariables false
set_option linter.unusedSimpArgs false
set_option maxRecDepth 100000
namespace Go.Proofs.Ytafphfokopkhdaa
open Go.V
open Classical
def latB (k : Int) : Bool := decide (k = 9) || decide (k = 10)
def endk (L : List ApiTNode) : Nat → Nat → Bool
  | 0, _ => false
  | k + 1, i => match L[i]? with
    | some n => !latB n.kind || (endk L k n.a.toNat && endk L k n.b.toNat)
    | none => false
theorem endk_succ (L : List ApiTNode) : ∀ (k i : Nat), endk L k i = true → endk L (k + 1) i = true
  | 0, i, h => by simp [endk] at h
  | k + 1, i, h => by
    unfold endk at h ⊢
    cases hq : L[i]? with
    | none => rw [hq] at h; exact h
    | some n =>
      rw [hq] at h
      simp only at h ⊢
      cases hl : latB n.kind
      · rfl
      · rw [hl] at h
        simp only [Bool.not_true, Bool.false_or, Bool.and_eq_true] at h ⊢
        exact ⟨endk_succ L k _ h.1, endk_succ L k _ h.2⟩
theorem endk_mono {L : List ApiTNode} {k m i : Nat} (hkm : k ≤ m) (h : endk L k i = true) : endk L m i = true := by
  induction hkm with
  | refl => exact h
  | step _ ih => exact endk_succ L _ _ ih
def Ends (L : List ApiTNode) (i : Nat) : Prop := ∃ k, endk L k i = true
def AllEnds (L : List ApiTNode) : Prop := ∀ i, i < L.length → Ends L i
def InL (L : List ApiTNode) : Prop := ∀ n ∈ L, ∀ k ∈ kidsL n, 0 ≤ k ∧ k < (L.length : Int)
theorem lat_kids {n : ApiTNode} (h : latB n.kind = true) : kidsL n = [n.a, n.b] := by
  unfold kidsL
  have : pB n.kind = true := by
    unfold latB at h; unfold pB
    rw [Bool.or_eq_true, decide_eq_true_eq, decide_eq_true_eq] at h
    rcases h with h | h <;> rw [h] <;> rfl
  rw [this]; rfl
theorem ends_of {L : List ApiTNode} {i : Nat} {n : ApiTNode} (hi : L[i]? = some n) (h : latB n.kind = true → Ends L n.a.toNat ∧ Ends L n.b.toNat) : Ends L i := by
  cases hl : latB n.kind with
  | false => exact ⟨1, by simp [endk, hi, hl]⟩
  | true =>
    obtain ⟨⟨k1, h1⟩, ⟨k2, h2⟩⟩ := h hl
    exact ⟨max k1 k2 + 1, by simp [endk, hi, hl, endk_mono (Nat.le_max_left k1 k2) h1, endk_mono (Nat.le_max_right k1 k2) h2]⟩
def cnd (L : List ApiTNode) (l : List Bool) (i : Nat) : Bool := match L[i]? with
  | some n => !latB n.kind || (l.getD n.a.toNat false && l.getD n.b.toNat false)
  | none => false
theorem count_set {l : List Bool} {i : Nat} (h : l[i]? = some false) : (l.set i true).count true = l.count true + 1 := by
  have hi := (List.getElem?_eq_some_iff.1 h).1
  have h2 := (List.getElem?_eq_some_iff.1 h).2
  rw [List.count_set hi, h2]
  simp
theorem cnd_eq {L : List ApiTNode} {l : List Bool} {i : Nat} {n : ApiTNode} (hR : InL L) (hl : l.length = L.length) (hi : L[i]? = some n) {β : Type} (K : Bool → Option β) :
    ((bif ((!decide (n.kind = 9)) && (!decide (n.kind = 10))) then (some true) else ((idx l n.a).bind fun x4 => (bif x4 then ((idx l n.b).bind fun x5 => some x5) else (some false)).bind fun p2 => some p2)).bind K) = K (cnd L l i) := by
  have e : ((!decide (n.kind = 9)) && (!decide (n.kind = 10))) = !latB n.kind := by unfold latB; rw [Bool.not_or]
  rw [e]
  unfold cnd
  rw [hi]
  simp only
  cases hb : latB n.kind with
  | false => simp
  | true =>
    have hk := hR n (List.mem_of_getElem? hi)
    rw [lat_kids hb] at hk
    obtain ⟨a0, a1⟩ := hk n.a (by simp)
    obtain ⟨b0, b1⟩ := hk n.b (by simp)
    have ha : l[n.a.toNat]? = some (l[n.a.toNat]'(by omega)) := List.getElem?_eq_getElem (by omega)
    have hb2 : l[n.b.toNat]? = some (l[n.b.toNat]'(by omega)) := List.getElem?_eq_getElem (by omega)
    have ia : idx l n.a = some (l[n.a.toNat]'(by omega)) := by rw [← ha]; unfold idx; rw [if_pos a0]
    have ib : idx l n.b = some (l[n.b.toNat]'(by omega)) := by rw [← hb2]; unfold idx; rw [if_pos b0]
    rw [Bool.not_true, cond_false, ia, Option.bind_some, ib, Option.bind_some, List.getD_eq_getElem?_getD, List.getD_eq_getElem?_getD, ha, hb2]
    cases l[n.a.toNat]'(by omega) <;> simp
theorem pass {t : ApiType} (hR : InL t.l) (hlen : t.l.length ≤ 2001) (l0 : List Bool) (h0 : l0.length = t.l.length) (hs : ∀ i : Nat, l0[i]? = some true → Ends t.l i) :
    ∃ m l, m_syntagmaref13_May_l3 t FU (false, 0, l0) = some (m, l) ∧ l.length = t.l.length ∧ (∀ i : Nat, l[i]? = some true → Ends t.l i) ∧ (m = false → l = l0 ∧ ∀ j, j < t.l.length → cnd t.l l0 j = true → l0[j]? = some true) ∧ (m = true → l0.count true < l.count true) := by
  obtain ⟨o, h1, h2⟩ := loop_rng (φ := fun n i (s : Bool × List Bool) => m_syntagmaref13_May_l3 t n (s.1, i, s.2)) (l := t.l)
    (fun i s => s.2.length = t.l.length ∧ (∀ i : Nat, s.2[i]? = some true → Ends t.l i) ∧ l0.count true ≤ s.2.count true ∧ (s.1 = false → s.2 = l0 ∧ ∀ j, j < i → cnd t.l l0 j = true → l0[j]? = some true) ∧ (s.1 = true → l0.count true < s.2.count true))
    (fun o : Bool × List Bool => o.2.length = t.l.length ∧ (∀ i : Nat, o.2[i]? = some true → Ends t.l i) ∧ (o.1 = false → o.2 = l0 ∧ ∀ j, j < t.l.length → cnd t.l l0 j = true → l0[j]? = some true) ∧ (o.1 = true → l0.count true < o.2.count true))
    (by
      rintro n i x ⟨m, l⟩ hx hi ⟨i1, i2, i3, i4, i5⟩
      simp only at i1 i2 i3 i4 i5
      left
      simp only [m_syntagmaref13_May_l3]
      rw [decide_eq_true (show (i : Int) < t.l.length by omega), cond_true, getI hx, Option.bind_some, cnd_eq hR i1 hx]
      have hy : l[i]? = some (l[i]'(by omega)) := List.getElem?_eq_getElem (by omega)
      cases hc : cnd t.l l i with
      | false =>
        refine ⟨(m, l), by rw [cond_false, Option.bind_some, cond_false, grd_pos (by omega)], i1, i2, i3, fun hm => ⟨(i4 hm).1, fun j hj hcj => ?_⟩, i5⟩
        by_cases hji : j = i
        · subst hji; rw [← (i4 hm).1, hc] at hcj; cases hcj
        · exact (i4 hm).2 j (by omega) hcj
      | true =>
        rw [cond_true, getI hy, Option.bind_some, Option.bind_some]
        cases hv : l[i]'(by omega) with
        | true =>
          refine ⟨(m, l), by rw [Bool.not_true, cond_false, grd_pos (by omega)], i1, i2, i3, fun hm => ⟨(i4 hm).1, fun j hj hcj => ?_⟩, i5⟩
          by_cases hji : j = i
          · subst hji; rw [← (i4 hm).1, hy, hv]
          · exact (i4 hm).2 j (by omega) hcj
        | false =>
          rw [hv] at hy
          have hct := count_set hy
          refine ⟨(true, l.set i true), by rw [Bool.not_false, cond_true, Option.bind_some, grd_pos (by omega), Int.toNat_natCast], by simpa using i1, fun j hj => ?_, by simp only; omega, fun h => (by cases h), fun _ => by simp only; omega⟩
          simp only at hj
          rw [List.getElem?_set] at hj
          by_cases hji : i = j
          · subst hji
            refine ends_of hx fun hlat => ?_
            have hk := hR x (List.mem_of_getElem? hx)
            rw [lat_kids hlat] at hk
            unfold cnd at hc
            rw [hx] at hc
            simp only [hlat, Bool.not_true, Bool.false_or, Bool.and_eq_true] at hc
            rw [List.getD_eq_getElem?_getD, List.getD_eq_getElem?_getD] at hc
            constructor
            · refine i2 _ ?_
              cases hq : l[x.a.toNat]? with
              | none => rw [hq] at hc; simp at hc
              | some v => rw [hq] at hc; simp at hc; rw [hc.1]
            · refine i2 _ ?_
              cases hq : l[x.b.toNat]? with
              | none => rw [hq] at hc; simp at hc
              | some v => rw [hq] at hc; simp at hc; rw [hc.2]
          · rw [if_neg hji] at hj; exact i2 j hj)
    (by
      rintro n ⟨m, l⟩ ⟨i1, i2, i3, i4, i5⟩
      refine ⟨(m, l), ?_, i1, i2, i4, i5⟩
      simp only [m_syntagmaref13_May_l3]
      rw [decide_eq_false (by omega), cond_false]) (by rw [FUv]; omega) (false, l0) ⟨h0, hs, Nat.le_refl _, fun _ => ⟨rfl, fun j hj => by omega⟩, fun h => by cases h⟩
  obtain ⟨a, b, c, d⟩ := h2
  exact ⟨o.1, o.2, h1, a, b, c, d⟩
theorem closed_ends {L : List ApiTNode} {l : List Bool} (hl : l.length = L.length) (hR : InL L) (hc : ∀ j, j < L.length → cnd L l j = true → l[j]? = some true) : ∀ (k i : Nat), i < L.length → endk L k i = true → l[i]? = some true
  | 0, i, _, h => by simp [endk] at h
  | k + 1, i, hi, h => by
    refine hc i hi ?_
    unfold endk at h
    unfold cnd
    have hx : L[i]? = some L[i] := List.getElem?_eq_getElem hi
    rw [hx] at h ⊢
    simp only at h ⊢
    cases hlat : latB (L[i]).kind with
    | false => rfl
    | true =>
      have hk := hR L[i] (List.getElem_mem hi)
      rw [lat_kids hlat] at hk
      obtain ⟨a0, a1⟩ := hk (L[i]).a (by simp)
      obtain ⟨b0, b1⟩ := hk (L[i]).b (by simp)
      rw [hlat] at h
      simp only [Bool.not_true, Bool.false_or, Bool.and_eq_true] at h ⊢
      have e1 := closed_ends hl hR hc k _ (by omega) h.1
      have e2 := closed_ends hl hR hc k _ (by omega) h.2
      rw [List.getD_eq_getElem?_getD, List.getD_eq_getElem?_getD, e1, e2]; exact ⟨rfl, rfl⟩
theorem rounds {t : ApiType} (hR : InL t.l) (hlen : t.l.length ≤ 2001) :
    ∃ l, m_syntagmaref13_May_l2 t FU (true, List.replicate t.l.length false) = some l ∧ l.length = t.l.length ∧ ∀ i, i < t.l.length → (l[i]? = some true ↔ Ends t.l i) := by
  obtain ⟨l, h1, h2, h3, h4⟩ := loop_inv (φ := m_syntagmaref13_May_l2 t) (fun s => 2 * (t.l.length - s.2.count true) + (if s.1 = true then 1 else 0))
    (fun s => s.2.length = t.l.length ∧ (∀ i : Nat, s.2[i]? = some true → Ends t.l i) ∧ (s.1 = false → ∀ j, j < t.l.length → cnd t.l s.2 j = true → s.2[j]? = some true))
    (fun l => l.length = t.l.length ∧ (∀ i : Nat, l[i]? = some true → Ends t.l i) ∧ ∀ j, j < t.l.length → cnd t.l l j = true → l[j]? = some true)
    (by
      rintro n ⟨m, l⟩ ⟨i1, i2, i3⟩
      simp only at i1 i2 i3
      cases m with
      | false => exact .inr ⟨l, ⟨i1, i2, i3 rfl⟩, by simp only [m_syntagmaref13_May_l2]; rfl⟩
      | true =>
        obtain ⟨m, l', e1, e2, e3, e4, e5⟩ := pass hR hlen l i1 i2
        refine .inl ⟨(m, l'), ⟨e2, e3, fun hm => ?_⟩, ?_, ?_⟩
        · simp only at hm ⊢
          obtain ⟨rfl, h⟩ := e4 hm; exact h
        · have hc1 : l'.count true ≤ t.l.length := by rw [← e2]; exact List.count_le_length
          cases m with
          | false => obtain ⟨rfl, _⟩ := e4 rfl; simp
          | true => have := e5 rfl; simp; omega
        · simp only [m_syntagmaref13_May_l2]
          rw [cond_true, e1, Option.bind_some])
    FU (true, List.replicate t.l.length false) ⟨by simp, fun i hi => by rw [List.getElem?_replicate] at hi; split at hi <;> simp at hi, fun h => by cases h⟩ (by rw [FUv]; simp only [List.count_replicate]; simp; omega)
  exact ⟨l, h1, h2, fun i hi => ⟨h3 i, fun ⟨k, hk⟩ => closed_ends h2 hR h4 k i hi hk⟩⟩
theorem allTrue_eq (l : List Bool) (h : l.length ≤ 2001) : m_syntagmaref13_May_l4 l FU 0 = some (if (∀ b ∈ l, b = true) then .go () else .ret 4) := by
  rw [loop_all (φ := m_syntagmaref13_May_l4 l) (l := l) 4 (fun _ b => b = true) ?_ ?_ (by rw [FUv]; omega)]
  · have e : (∀ (i : Nat) (x : Bool), l[i]? = some x → x = true) ↔ ∀ b ∈ l, b = true := ⟨fun h b hb => by obtain ⟨i, hi⟩ := List.getElem?_of_mem hb; exact h i b hi, fun h i x hx => h x (List.mem_of_getElem? hx)⟩
    by_cases h2 : ∀ b ∈ l, b = true
    · rw [if_pos (e.2 h2), if_pos h2]
    · rw [if_neg (fun h3 => h2 (e.1 h3)), if_neg h2]
  · intro n i x hx hi
    simp only [m_syntagmaref13_May_l4]
    rw [decide_eq_true (show (i : Int) < l.length by omega), cond_true, getI hx, Option.bind_some]
    cases x
    · exact ⟨fun h => (by cases h), fun _ => by rw [Bool.not_false, cond_true]⟩
    · exact ⟨fun _ => by rw [Bool.not_true, cond_false, grd_pos (by omega)], fun h => absurd rfl h⟩
  · intro n
    simp only [m_syntagmaref13_May_l4]
    rw [decide_eq_false (by omega), cond_false]
end Go.Proofs.Ytafphfokopkhdaa
set_option linter.unusedVariables false
set_option linter.unusedSimpArgs false
set_option maxRecDepth 100000
namespace Go.Proofs.Ytafphfokopkhdaa
open Go.V
open Classical
def AllRight (L : List ApiTNode) : Prop := ∀ n ∈ L, rightB n L.length = true
theorem right_in {n : ApiTNode} {all : Int} (h : rightB n all = true) : ∀ k ∈ kidsL n, 0 ≤ k ∧ k < all := by
  intro k hk
  unfold rightB at h
  simp only [Bool.and_eq_true, Bool.not_eq_true', decide_eq_false_iff_not] at h
  have h2 := h.2.2.2.2.2
  have : inB all k = false := by
    cases hq : inB all k with
    | false => rfl
    | true => exact absurd ⟨k, hk, hq⟩ h2
  unfold inB at this
  rw [Bool.or_eq_false_iff, decide_eq_false_iff_not, decide_eq_false_iff_not] at this
  omega
theorem allRight_in {L : List ApiTNode} (h : AllRight L) : InL L := fun n hn k hk => right_in (h n hn) k hk
theorem rwrong_eq (t : ApiType) (hlen : t.l.length ≤ 2001) (hN : ∀ n ∈ t.l, NB n) : m_syntagmaref13_May_l1 t FU 0 = some (if AllRight t.l then .go () else .ret 4) := by
  rw [loop_all (φ := m_syntagmaref13_May_l1 t) (l := t.l) 4 (fun _ n => rightB n t.l.length = true) ?_ ?_ (by rw [FUv]; omega)]
  · have e : (∀ (i : Nat) (x : ApiTNode), t.l[i]? = some x → rightB x t.l.length = true) ↔ AllRight t.l := ⟨fun h b hb => by obtain ⟨i, hi⟩ := List.getElem?_of_mem hb; exact h i b hi, fun h i x hx => h x (List.mem_of_getElem? hx)⟩
    by_cases h2 : AllRight t.l
    · rw [if_pos (e.2 h2), if_pos h2]
    · rw [if_neg (fun h3 => h2 (e.1 h3)), if_neg h2]
  · intro n i x hx hi
    simp only [m_syntagmaref13_May_l1]
    rw [decide_eq_true (show (i : Int) < t.l.length by omega), cond_true, getI hx, Option.bind_some, rright_eq _ _ (hN x (List.mem_of_getElem? hx)), Option.bind_some]
    cases rightB x t.l.length
    · exact ⟨fun h => (by cases h), fun _ => by rw [Bool.not_false, cond_true]⟩
    · exact ⟨fun _ => by rw [Bool.not_true, cond_false, grd_pos (by omega)], fun h => absurd rfl h⟩
  · intro n
    simp only [m_syntagmaref13_May_l1]
    rw [decide_eq_false (by omega), cond_false]
noncomputable def mayT (L : List ApiTNode) (root : Int) : Int := if L.length = 0 ∨ 2000 < L.length then 8 else if root < 0 ∨ (L.length : Int) ≤ root then 4 else if AllRight L ∧ AllEnds L then 0 else 4
theorem rmay_eq (t : ApiType) (hlen : t.l.length ≤ 2001) (hN : ∀ n ∈ t.l, NB n) : m_syntagmaref13_May t = some (mayT t.l t.root) := by
  unfold m_syntagmaref13_May mayT
  by_cases h0 : t.l.length = 0 ∨ 2000 < t.l.length
  · rw [if_pos h0, show (decide ((t.l.length : Int) < 1) || decide (2000 < (t.l.length : Int))) = true by rw [Bool.or_eq_true, decide_eq_true_eq, decide_eq_true_eq]; omega, cond_true]
  rw [if_neg h0, decide_eq_false (by omega), decide_eq_false (by omega), Bool.or_false, cond_false]
  by_cases hr : t.root < 0 ∨ (t.l.length : Int) ≤ t.root
  · rw [if_pos hr, show (decide (t.root < 0) || decide ((t.l.length : Int) ≤ t.root)) = true by rw [Bool.or_eq_true, decide_eq_true_eq, decide_eq_true_eq]; exact hr, cond_true]
  rw [if_neg hr, decide_eq_false (by omega), decide_eq_false (by omega), Bool.or_false, cond_false, rwrong_eq t hlen hN, Option.bind_some]
  by_cases hA : AllRight t.l
  · rw [if_pos hA]
    show grd _ _ = _
    rw [grd_pos (by omega), grd_pos (by omega), Int.toNat_natCast]
    obtain ⟨l, l1, l2, l3⟩ := rounds (allRight_in hA) hlen
    rw [l1, Option.bind_some, allTrue_eq l (by omega), Option.bind_some]
    have e : (∀ b ∈ l, b = true) ↔ AllEnds t.l := by
      constructor
      · intro h i hi
        have hx : l[i]? = some (l[i]'(by omega)) := List.getElem?_eq_getElem (by omega)
        rw [h _ (List.getElem_mem (by omega))] at hx
        exact (l3 i hi).1 hx
      · intro h b hb
        obtain ⟨i, hi⟩ := List.getElem?_of_mem hb
        have hlt := getLt hi
        have := (l3 i (by omega)).2 (h i (by omega))
        rw [hi] at this; exact Option.some.inj this
    by_cases hE : AllEnds t.l
    · rw [if_pos (e.2 hE), if_pos ⟨hA, hE⟩]; rfl
    · rw [if_neg (fun h => hE (e.1 h)), if_neg (fun h => hE h.2)]; rfl
  · rw [if_neg hA, if_neg (fun h => hA h.1)]; rfl
theorem mayT_ok {L : List ApiTNode} {r : Int} (h : mayT L r = 0) : 0 < L.length ∧ L.length ≤ 2000 ∧ 0 ≤ r ∧ r < L.length ∧ AllRight L ∧ AllEnds L := by
  unfold mayT at h
  split at h
  · omega
  · split at h
    · omega
    · split at h
      · rename_i h1 h2 h3; exact ⟨by omega, by omega, by omega, by omega, h3.1, h3.2⟩
      · omega
end Go.Proofs.Ytafphfokopkhdaa
set_option linter.unusedVariables false
set_option linter.unusedSimpArgs false
set_option maxRecDepth 100000
namespace Go.Proofs.Ytafphfokopkhdaa
open Go.V
open Classical
noncomputable def roundN : ApiType := ⟨[⟨6, 1, 0, []⟩, ⟨3, 0, 0, []⟩], 0⟩
theorem w13n : m_graph_Norm ⟨[⟨3, 0, 0, []⟩, ⟨6, 0, 1, []⟩], 1⟩ = some (roundN, 0) := by kernel_rfl
theorem w13r : m_graph_May ⟨[⟨3, 0, 0, []⟩, ⟨6, 0, 1, []⟩], 1⟩ = some 0 := by kernel_rfl
theorem w13m : m_graph_May roundN = some 0 := by kernel_rfl
theorem w13v : ((m_below roundN roundN.root).bind fun xs1 => m_graph_Vars_r1 roundN xs1 [] : Option (List Int)) = some [] := by kernel_rfl
theorem w13g : m_graph_Ground roundN = some true := by
  unfold m_graph_Ground m_graph_Vars
  rw [w13m, Option.bind_some, Option.bind_some, w13v]
  simp [Lib.compact, Lib.compactUpTo, grd]
theorem works13 : m_syntagmalaw13_works = some true := by
  unfold m_syntagmalaw13_works
  rw [show m_syntagmalaw13_round = some ⟨[⟨3, 0, 0, []⟩, ⟨6, 0, 1, []⟩], 1⟩ from rfl, Option.bind_some, w13n, Option.bind_some]
  dsimp only
  rw [Option.bind_some, w13r, Option.bind_some]
  show (((some true).bind fun p1 => _) : Option Bool) = _
  rw [Option.bind_some, show (⟨roundN.l, roundN.root⟩ : ApiType) = roundN from rfl, w13g]
  rfl
end Go.Proofs.Ytafphfokopkhdaa
set_option linter.unusedVariables false
set_option linter.unusedSimpArgs false
set_option maxRecDepth 100000
namespace Go.Proofs.Ytafphfokopkhdaa
open Go.V
open Classical
def movedN (f : Int → Int) (n : ApiTNode) : ApiTNode := ⟨n.kind, bif pB n.kind then f n.a else n.a, bif pB n.kind then f n.b else n.b, n.l.map (fun x => ⟨x.name, f x.at_⟩)⟩
theorem moved_eq (n : ApiTNode) (p : Int → Option Int) (f : Int → Int) (h : NB n) (h1 : pB n.kind = true → p n.a = some (f n.a) ∧ p n.b = some (f n.b)) (h2 : ∀ x ∈ n.l, p x.at_ = some (f x.at_)) : m_graph_moved n p = some (movedN f n) := by
  unfold m_graph_moved movedN
  unfold NB at h
  rw [show m_graph_pair n.kind = some (pB n.kind) from rfl, Option.bind_some]
  have key : ∀ z1 z2 z3, m_graph_moved_l1 p n.l FU (0, n.l, z1, z2, z3) = some (n.l.map (fun x => ⟨x.name, f x.at_⟩), z1, z2, z3) := by
    intro z1 z2 z3
    refine loop_setmap (φ := fun k i s => m_graph_moved_l1 p n.l k (i, s, z1, z2, z3)) (l := n.l) (fun x => ⟨x.name, f x.at_⟩) (fun s => (s, z1, z2, z3)) ?_ ?_ (by rw [FUv]; omega)
    · intro k i x s hx hi hs hsx
      simp only [m_graph_moved_l1]
      rw [decide_eq_true (show (i : Int) < n.l.length by omega), cond_true, getI hsx, Option.bind_some, h2 x (List.mem_of_getElem? hx), Option.bind_some, Option.bind_some, grd_pos (by omega), Int.toNat_natCast]
    · intro k s hs
      simp only [m_graph_moved_l1]
      rw [decide_eq_false (by omega), cond_false]
  cases hp : pB n.kind with
  | true =>
    obtain ⟨ha, hb⟩ := h1 hp
    rw [cond_true, ha, Option.bind_some, hb, Option.bind_some, Option.bind_some]
    dsimp only
    rw [grd_pos (by omega), key, Option.bind_some]; rfl
  | false =>
    rw [cond_false, Option.bind_some]
    dsimp only
    rw [grd_pos (by omega), key, Option.bind_some]; rfl
theorem right_wide {n : ApiTNode} {all : Int} (h : rightB n all = true) (hw : wB n.kind = false) : n.l = [] := by
  unfold rightB at h
  simp only [Bool.and_eq_true, Bool.not_eq_true'] at h
  have h2 := h.2.2.2.1
  rw [hw, Bool.not_false, Bool.true_and, decide_eq_false_iff_not] at h2
  exact List.length_eq_zero_iff.1 (by omega)
theorem pw_no {k : Int} (h : wB k = true) : pB k = false := by
  unfold wB at h; unfold pB
  rw [Bool.or_eq_true, decide_eq_true_eq, decide_eq_true_eq] at h
  rcases h with h | h <;> rw [h] <;> rfl
/-- What a right node's children's places are. -/
theorem right_kids {n : ApiTNode} {all : Int} (h : rightB n all = true) : (pB n.kind = true → (0 ≤ n.a ∧ n.a < all) ∧ (0 ≤ n.b ∧ n.b < all)) ∧ ∀ x ∈ n.l, 0 ≤ x.at_ ∧ x.at_ < all := by
  have hk := right_in h
  unfold kidsL at hk
  constructor
  · intro hp
    rw [hp, cond_true] at hk
    exact ⟨hk n.a (by simp), hk n.b (by simp)⟩
  · intro x hx
    cases hw : wB n.kind with
    | false => rw [right_wide h hw] at hx; simp at hx
    | true =>
      rw [pw_no hw, cond_false, hw, cond_true] at hk
      exact hk x.at_ (List.mem_map.2 ⟨x, hx, rfl⟩)
noncomputable def graftT (a b : ApiType) : ApiType := ⟨a.l ++ b.l.map (movedN (fun k => k + (a.l.length : Int))), a.root⟩
theorem graft_eq (a b : ApiType) (ha : a.l.length ≤ 4001) (hb : b.l.length ≤ 2001) (hN : ∀ n ∈ b.l, NB n) (hR : AllRight b.l) : m_graph_Graft a b = some (graftT a b, (a.l.length : Int)) := by
  unfold m_graph_Graft
  rw [grd_pos (by omega)]
  rw [loop_map (φ := fun n i s => m_graph_Graft_l1 a b n (i, a.root, s)) (l := b.l) (movedN (fun k => k + (a.l.length : Int))) (fun s => (a.root, s)) a.l.length ?_ ?_ (by rw [FUv]; omega) a.l rfl]
  · rfl
  · intro n i x s hx hi hs
    have hr := right_kids (hR x (List.mem_of_getElem? hx))
    simp only [m_graph_Graft_l1]
    rw [decide_eq_true (show (i : Int) < b.l.length by omega), cond_true, getI hx, Option.bind_some, show (⟨x.kind, x.a, x.b, x.l⟩ : ApiTNode) = x from rfl, moved_eq x _ (fun k => k + (a.l.length : Int)) (hN x (List.mem_of_getElem? hx)) (fun hp => by
      obtain ⟨⟨a0, a1⟩, b0, b1⟩ := hr.1 hp
      unfold m_graph_Graft_1
      rw [grd_pos (by omega), grd_pos (by omega)]; exact ⟨rfl, rfl⟩) (fun y hy => by
      obtain ⟨y0, y1⟩ := hr.2 y hy
      unfold m_graph_Graft_1
      rw [grd_pos (by omega)]), Option.bind_some, grd_pos (by simp only [List.length_cons, List.length_nil]; omega), grd_pos (by omega)]
  · intro n s hs
    simp only [m_graph_Graft_l1]
    rw [decide_eq_false (by omega), cond_false]
theorem rgraft_eq (a b : ApiType) (ha : a.l.length ≤ 4001) (hb : b.l.length ≤ 2001) (hN : ∀ n ∈ b.l, NB n) (hR : AllRight b.l) : m_syntagmaref13_Graft a b = some (graftT a b, (a.l.length : Int)) := by
  unfold m_syntagmaref13_Graft
  rw [grd_pos (by omega), List.nil_append]
  rw [loop_map (φ := fun n i s => m_syntagmaref13_Graft_l1 a b n (i, a.root, s)) (l := b.l) (movedN (fun k => k + (a.l.length : Int))) (fun s => (a.root, s)) a.l.length ?_ ?_ (by rw [FUv]; omega) a.l rfl]
  · rfl
  · intro n i x s hx hi hs
    have hr := right_kids (hR x (List.mem_of_getElem? hx))
    have hNx := hN x (List.mem_of_getElem? hx)
    unfold NB at hNx
    have key : m_syntagmaref13_Graft_l2 a x.l FU (0, []) = some (x.l.map (fun y => ⟨y.name, y.at_ + (a.l.length : Int)⟩)) := by
      rw [loop_map (φ := fun n i s => m_syntagmaref13_Graft_l2 a x.l n (i, s)) (l := x.l) (fun y => (⟨y.name, y.at_ + (a.l.length : Int)⟩ : ApiTField)) id 0 ?_ ?_ (by rw [FUv]; omega) [] rfl]
      · rfl
      · intro n i y s hy hi hs
        obtain ⟨y0, y1⟩ := hr.2 y (List.mem_of_getElem? hy)
        simp only [m_syntagmaref13_Graft_l2]
        rw [decide_eq_true (show (i : Int) < x.l.length by omega), cond_true, getI hy, Option.bind_some, Option.bind_some, grd_pos (by omega), grd_pos (by simp only [List.length_cons, List.length_nil]; omega), grd_pos (by omega)]
      · intro n s hs
        simp only [m_syntagmaref13_Graft_l2]
        rw [decide_eq_false (by omega), cond_false]; rfl
    simp only [m_syntagmaref13_Graft_l1]
    rw [decide_eq_true (show (i : Int) < b.l.length by omega), cond_true, getI hx, Option.bind_some]
    change ((bif pB x.kind then _ else _ : Option (Int × Int × Int × (List ApiTField))).bind _) = _
    unfold movedN
    cases hp : pB x.kind with
    | true =>
      obtain ⟨⟨a0, a1⟩, b0, b1⟩ := hr.1 hp
      rw [cond_true, grd_pos (by omega), grd_pos (by omega), Option.bind_some]
      dsimp only
      rw [key, Option.bind_some, grd_pos (by simp only [List.length_cons, List.length_nil]; omega), grd_pos (by omega)]
      rfl
    | false =>
      rw [cond_false, Option.bind_some]
      dsimp only
      rw [key, Option.bind_some, grd_pos (by simp only [List.length_cons, List.length_nil]; omega), grd_pos (by omega)]
      rfl
  · intro n s hs
    simp only [m_syntagmaref13_Graft_l1]
    rw [decide_eq_false (by omega), cond_false]
theorem field_eqv (x y : ApiTField) : ApiTField.eqv x y = decide (x = y) := by
  obtain ⟨n, a⟩ := x
  obtain ⟨m, b⟩ := y
  unfold ApiTField.eqv
  by_cases h1 : n = m <;> by_cases h2 : a = b <;> simp [h1, h2]
theorem sameF_eq (x y : ApiTNode) (h : x.l.length = y.l.length) (hN : NB x) : m_syntagmaref13_SameList_l2 x y FU 0 = some (if x.l = y.l then .go () else .ret false) := by
  unfold NB at hN
  refine loop_same (φ := m_syntagmaref13_SameList_l2 x y) (l := x.l) (m := y.l) false h ?_ ?_ (by rw [FUv]; omega)
  · intro n i a b ha hb hi
    simp only [m_syntagmaref13_SameList_l2]
    rw [decide_eq_true (show (i : Int) < x.l.length by omega), cond_true, getI ha, Option.bind_some, getI hb, Option.bind_some, field_eqv]
    constructor
    · intro e; rw [decide_eq_true e, Bool.not_true, cond_false, grd_pos (by omega)]
    · intro e; rw [decide_eq_false e, Bool.not_false, cond_true]
  · intro n
    simp only [m_syntagmaref13_SameList_l2]
    rw [decide_eq_false (by omega), cond_false]
theorem node_ext {x y : ApiTNode} : x = y ↔ x.kind = y.kind ∧ x.a = y.a ∧ x.b = y.b ∧ x.l = y.l := by
  obtain ⟨a, b, c, d⟩ := x
  obtain ⟨a', b', c', d'⟩ := y
  simp
theorem sameList_eq (a b : ApiType) (hl : a.l.length ≤ 10000) (hN : ∀ n ∈ a.l, NB n) : m_syntagmaref13_SameList a b = some (decide (a.l = b.l ∧ a.root = b.root)) := by
  unfold m_syntagmaref13_SameList
  by_cases h1 : a.l.length = b.l.length ∧ a.root = b.root
  · rw [decide_eq_true (show (a.l.length : Int) = b.l.length by omega), decide_eq_true h1.2, Bool.not_true, Bool.or_false, cond_false]
    rw [loop_same (φ := m_syntagmaref13_SameList_l1 a b) (l := a.l) (m := b.l) false h1.1 ?_ ?_ (by rw [FUv]; omega), Option.bind_some]
    · by_cases h2 : a.l = b.l
      · rw [if_pos h2, decide_eq_true ⟨h2, h1.2⟩]; rfl
      · rw [if_neg h2, decide_eq_false (fun h => h2 h.1)]; rfl
    · intro n i x y hx hy hi
      simp only [m_syntagmaref13_SameList_l1]
      rw [decide_eq_true (show (i : Int) < a.l.length by omega), cond_true, getI hx, Option.bind_some, getI hy, Option.bind_some]
      by_cases h4 : x.kind = y.kind ∧ x.a = y.a ∧ x.b = y.b ∧ x.l.length = y.l.length
      · obtain ⟨e1, e2, e3, e4⟩ := h4
        rw [decide_eq_true e1, decide_eq_true e2, decide_eq_true e3, decide_eq_true (show (x.l.length : Int) = y.l.length by omega), Bool.not_true, Bool.or_false, Bool.or_false, Bool.or_false, cond_false, sameF_eq x y e4 (hN x (List.mem_of_getElem? hx)), Option.bind_some]
        constructor
        · intro e; rw [if_pos (by rw [e]), go_on, grd_pos (by omega)]
        · intro e; rw [if_neg (fun h => e (node_ext.2 ⟨e1, e2, e3, h⟩))]; rfl
      · rw [show (((!decide (x.kind = y.kind)) || (!decide (x.a = y.a))) || (!decide (x.b = y.b)) || (!decide ((x.l.length : Int) = (y.l.length : Int)))) = true by
          simp only [Bool.or_eq_true, Bool.not_eq_true', decide_eq_false_iff_not]
          refine Classical.byContradiction fun h => h4 ?_
          simp only [not_or, Classical.not_not] at h
          obtain ⟨⟨⟨h5, h6⟩, h7⟩, h8⟩ := h
          exact ⟨h5, h6, h7, by omega⟩, cond_true]
        exact ⟨fun e => absurd (by subst e; exact ⟨rfl, rfl, rfl, rfl⟩) h4, fun _ => rfl⟩
    · intro n
      simp only [m_syntagmaref13_SameList_l1]
      rw [decide_eq_false (by omega), cond_false]
  · rw [show ((!decide ((a.l.length : Int) = (b.l.length : Int))) || (!decide (a.root = b.root))) = true by
      simp only [Bool.or_eq_true, Bool.not_eq_true', decide_eq_false_iff_not]
      refine Classical.byContradiction fun h => h1 ?_
      simp only [not_or, Classical.not_not] at h
      exact ⟨by omega, h.2⟩, cond_true, decide_eq_false (fun h => h1 ⟨by rw [h.1], h.2⟩)]
theorem movedN_nb {n : ApiTNode} {f : Int → Int} (h : NB n) : NB (movedN f n) := by unfold NB movedN at *; simpa using h
theorem graftT_nb {a b : ApiType} (ha : ∀ n ∈ a.l, NB n) (hb : ∀ n ∈ b.l, NB n) : ∀ n ∈ (graftT a b).l, NB n := by
  intro n hn
  rcases List.mem_append.1 hn with hn | hn
  · exact ha n hn
  · obtain ⟨m, hm, rfl⟩ := List.mem_map.1 hn
    exact movedN_nb (hb m hm)
theorem law_GraphGrafts (a b : ApiType) (kind : Int) : m_syntagmalaw13_GraphGrafts a b kind = some true := by
  have hla := fewT_len a
  have hNa := fewT_nb a
  have hlb := fewT_len b
  have hNb := fewT_nb b
  have hf : ∀ t : ApiType, m_syntagmalaw13_Few (⟨(fewT t).l, (fewT t).root⟩ : ApiType) 60 = some (fewT t) := fun t => by
    rw [show (⟨(fewT t).l, (fewT t).root⟩ : ApiType) = fewT t from rfl, few_eq, fewT_fewT]
  unfold m_syntagmalaw13_GraphGrafts
  rw [show m_syntagmalaw13_Few (⟨a.l, a.root⟩ : ApiType) 60 = some (fewT a) from few_eq a, Option.bind_some, show m_syntagmalaw13_Few (⟨b.l, b.root⟩ : ApiType) 60 = some (fewT b) from few_eq b, Option.bind_some, show m_graph_Leaf kind = some ⟨[⟨kind, 0, 0, []⟩], 0⟩ from rfl, Option.bind_some,
    show m_syntagmaref13_May (⟨(fewT a).l, (fewT a).root⟩ : ApiType) = some (mayT (fewT a).l (fewT a).root) from rmay_eq (fewT a) hla hNa, Option.bind_some, show m_syntagmaref13_May (⟨(fewT b).l, (fewT b).root⟩ : ApiType) = some (mayT (fewT b).l (fewT b).root) from rmay_eq (fewT b) hlb hNb, Option.bind_some, bt, Option.bind_some]
  have hleaf : (idx (⟨[⟨kind, 0, 0, []⟩], 0⟩ : ApiType).l 0) = some (⟨kind, 0, 0, []⟩ : ApiTNode) := rfl
  by_cases h : mayT (fewT a).l (fewT a).root = 0 ∧ mayT (fewT b).l (fewT b).root = 0
  · have hA := (mayT_ok h.2).2.2.2.2.1
    rw [decide_eq_true h.1, decide_eq_true h.2, Bool.not_true, Bool.or_false, cond_false, hf a, Option.bind_some, hf b, Option.bind_some, graft_eq _ _ (by omega) hlb hNb hA, Option.bind_some]
    dsimp only
    rw [show m_syntagmaref13_Graft (⟨(fewT a).l, (fewT a).root⟩ : ApiType) (⟨(fewT b).l, (fewT b).root⟩ : ApiType) = some (graftT (fewT a) (fewT b), ((fewT a).l.length : Int)) from rgraft_eq (fewT a) (fewT b) (by omega) hlb hNb hA, Option.bind_some]
    dsimp only
    rw [sameList_eq _ _ (by show (graftT (fewT a) (fewT b)).l.length ≤ _; unfold graftT; simp only [List.length_append, List.length_map]; omega) (graftT_nb hNa hNb), Option.bind_some, decide_eq_true ⟨rfl, rfl⟩, decide_eq_true rfl, hleaf, Option.bind_some]
    simp only [List.length_cons, List.length_nil, decide_true, Bool.and_self, cond_true, Option.bind_some, works13]
    simp
  · rw [show ((!decide (mayT (fewT a).l (fewT a).root = 0)) || (!decide (mayT (fewT b).l (fewT b).root = 0))) = true by
      simp only [Bool.or_eq_true, Bool.not_eq_true', decide_eq_false_iff_not]
      refine Classical.byContradiction fun h2 => h ?_
      simp only [not_or, Classical.not_not] at h2
      exact h2, cond_true, hleaf, Option.bind_some]
    simp [works13]
end Go.Proofs.Ytafphfokopkhdaa
