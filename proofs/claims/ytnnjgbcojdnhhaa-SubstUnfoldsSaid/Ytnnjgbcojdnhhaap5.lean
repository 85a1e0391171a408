/- Part 5 of the proof: a program logic, what the functions compute, and what these answer; no condition. -/
import Derived.Test.Ytnnjgbcojdnhhaap4
import Derived.Test.YtnnjgbcojdnhhaaProg
set_option linter.unusedVariables false
set_option linter.unusedSimpArgs false
set_option maxRecDepth 100000
set_option maxHeartbeats 2000000
namespace Go.Proofs.Ytnnjgbcojdnhhaa
open Go.V
theorem wF_subst_put_1 {c1 : ApiExpr} {c2 : (List UInt8)} {c3 : ApiExpr} (self : Int → Option ApiExpr) (hself : ∀ {i1 : Int} {r_1 : ApiExpr} {b_q4 : Nat}, self i1 = some r_1 → Go.V.Fn Try.prog 127 [.i64 i1, .ref (ApiExpr.d c1), .ref (.str c2), .ref (ApiExpr.d c3), .v (.pointer (some ⟨b_q4, 0, none⟩))] [box b_q4 137 [.clo (.func 127) [] [.ref (ApiExpr.d c1), .ref (.str c2), .ref (ApiExpr.d c3), .v (.pointer (some ⟨b_q4, 0, none⟩))]]] (fun d ms' => d = ApiExpr.d r_1 ∧ ms' = [box b_q4 137 [.clo (.func 127) [] [.ref (ApiExpr.d c1), .ref (.str c2), .ref (ApiExpr.d c3), .v (.pointer (some ⟨b_q4, 0, none⟩))]]])) {i1 : Int} {r_1 : ApiExpr} {b_q4 : Nat} (hm : m_subst_put_1F self i1 c1 c2 c3 = some r_1) : Go.V.Fn Try.prog 127 [.i64 i1, .ref (ApiExpr.d c1), .ref (.str c2), .ref (ApiExpr.d c3), .v (.pointer (some ⟨b_q4, 0, none⟩))] [box b_q4 137 [.clo (.func 127) [] [.ref (ApiExpr.d c1), .ref (.str c2), .ref (ApiExpr.d c3), .v (.pointer (some ⟨b_q4, 0, none⟩))]]] (fun d ms' => d = ApiExpr.d r_1 ∧ ms' = [box b_q4 137 [.clo (.func 127) [] [.ref (ApiExpr.d c1), .ref (.str c2), .ref (ApiExpr.d c3), .v (.pointer (some ⟨b_q4, 0, none⟩))]]]) := by
  unfold m_subst_put_1F at hm
  refine fn_intro Try.func127 rfl Try.ntmps127 rfl fun H0 fr w0 => ?_
  refine g_seq ?_
  refine g_region ?_
  refine go_op rfl rfl rfl (o_alloc_own Try.zeroValue37 (cs := [.list 9 ApiNode.d []]) rfl) ?_
  rintro _ _ ⟨b1, rfl, rfl⟩
  refine go_nil ?_
  refine g_seq ?_
  refine g_region ?_
  refine go_p rfl rfl rfl (o_fieldAddr fi_37_0 rfl rfl rfl) ?_
  refine go_p rfl rfl rfl (o_load Try.isAgg35 rfl rfl) ?_
  refine go_p rfl rfl rfl (o_move rfl) ?_
  obtain ⟨x1, hx1, hm⟩ := bind_some hm
  refine go_p rfl rfl rfl (o_indexAddr_m Try.runUnderlying35 Try.sizeOf40 rfl rfl hx1) ?_
  refine go_p rfl rfl rfl (o_load_agg Try.isAgg40 Try.sizeOf40 rfl rfl) ?_
  refine go_op rfl rfl rfl (o_alloc_own Try.zeroValue40 (cs := [.i64 0, .i64 0, .i64 0, .i64 0, .i64 0, .str ([] : List UInt8), .str ([] : List UInt8), .list 3 ApiField.d [], .i64 0]) rfl) ?_
  rintro _ _ ⟨b2, rfl, rfl⟩
  refine go_u rfl rfl (o_store_box 0 Try.sizeOf40 rfl rfl rfl rfl rfl rfl rfl rfl (Nat.le_of_ble_eq_true rfl)) ?_
  rintro _ _ rfl
  refine go_ms (ms' := [box b2 40 [_, _, _, _, _, _, _, _, _], box b1 37 [_], box b_q4 137 [_]]) rfl ?_
  refine go_nil ?_
  refine g_seq ?_
  refine g_seq ?_
  refine g_region ?_
  refine go_p rfl rfl rfl (o_fieldAddr_box fi_40_0 rfl) ?_
  refine go_p rfl rfl rfl (o_load_box 0 Try.isAgg3 rfl rfl rfl rfl) ?_
  refine go_p rfl rfl rfl (o_cmp rfl rfl rfl) ?_
  refine go_p rfl rfl rfl (o_move rfl) ?_
  apply go_and [(1, _), (2, _), (3, _), (4, _), (6, _), (7, _)] 5 24 (t := 19) ⟨rfl, rfl, rfl, rfl, rfl, rfl, trivial⟩ rfl
  · intro hg_1 hk1
    refine go_wantp rfl rfl rfl hg_1 rfl rfl (o_fieldAddr_box fi_40_5 rfl) ?_
    refine go_wantp rfl rfl rfl hg_1 rfl rfl (o_load_box 0 Try.isAgg9 rfl rfl rfl rfl) ?_
    refine go_wantp rfl rfl rfl hg_1 rfl rfl (o_load Try.isAgg9 rfl rfl) ?_
    refine go_wantp rfl rfl rfl hg_1 rfl rfl (o_cmps rfl rfl rfl) ?_
    refine go_p rfl rfl rfl (o_pickT rfl hg_1 rfl) ?_
    exact go_meet hk1 (rfl) ⟨rfl, rfl, rfl, rfl, rfl, rfl, trivial⟩
  · intro hg_1 hk1
    refine go_skip rfl rfl rfl hg_1 rfl rfl ?_
    refine go_skip rfl rfl rfl hg_1 rfl rfl ?_
    refine go_skip rfl rfl rfl hg_1 rfl rfl ?_
    refine go_skip rfl rfl rfl hg_1 rfl rfl ?_
    refine go_p rfl rfl rfl (o_pickF rfl hg_1 rfl) ?_
    exact go_meet hk1 (rfl) ⟨rfl, rfl, rfl, rfl, rfl, rfl, trivial⟩
  refine go_nil ?_
  refine g_cond rfl (fun hc1 => ?_) (fun hc1 => ?_)
  · replace hm := cond_t hc1 hm
    refine g_seq ?_
    refine g_region ?_
    refine go_p rfl rfl rfl (o_load_agg Try.isAgg37 Try.sizeOf37 rfl rfl) ?_
    refine go_u rfl rfl (o_store_box 1 Try.sizeOf37 rfl rfl rfl rfl rfl rfl rfl rfl (Nat.le_of_ble_eq_true rfl)) ?_
    rintro _ _ rfl
    refine go_ms (ms' := [box b2 40 [_, _, _, _, _, _, _, _, _], box b1 37 [_], box b_q4 137 [_]]) rfl ?_
    refine go_nil ?_
    refine g_ret ?_
    obtain rfl := some_eq hm
    exact retK (ret_one' rfl (ret_cell 1 rfl rfl rfl Try.isAgg37 Try.sizeOf37 rfl) (permA 2 rfl permN)) ⟨rfl, rfl⟩
  · replace hm := cond_f hc1 hm
    refine g_skip ?_
    refine g_seq ?_
    refine g_region ?_
    refine go_p rfl rfl rfl (o_assign rfl) ?_
    refine go_conv (refines_newrow (T := 37) (sz := 1) (f := ApiExpr.d)) ?_
    refine go_nil ?_
    refine g_seq ?_
    refine g_seq ?_
    refine g_region ?_
    refine go_p rfl rfl rfl (o_load_box_agg 1 Try.isAgg40 Try.sizeOf40 rfl rfl rfl rfl (Nat.le_of_ble_eq_true rfl)) ?_
    obtain ⟨x2, hx2, hm⟩ := bind_some hm
    refine go_p rfl rfl rfl (o_call0 Try.call31 rfl (w_tree_Kids hx2)) ?_
    refine go_p rfl rfl rfl (o_len Try.runUnderlying46 rfl) ?_
    refine go_p rfl rfl rfl (o_move rfl) ?_
    refine go_nil ?_
    obtain ⟨o_1, hj1, hm1⟩ := bind_some hm
    refine g_cut_m [(6, _), (7, _)] [(1, _), (2, _), (3, _)] (fun (st : (List ApiExpr)) (hid : (Option Addr × Nat)) => match st, hid with | l1, (a_r1, cap_r1) => [(8, .v (.slice a_r1 l1.length cap_r1))]) (fun F (st : (List ApiExpr)) (hid : (Option Addr × Nat)) => match st, hid with | l1, (a_r1, cap_r1) => [row a_r1 cap_r1 37 1 ApiExpr.d l1, (nthF F 0), (nthF F 1), (nthF F 2)]) (fun st => st = o_1) ⟨rfl, rfl, trivial⟩ ⟨rfl, rfl, rfl, trivial⟩ ?_ ?_
    · skip
      refine g_block ?_
      refine g_loop_m [(1, _), (2, _), (4, _), (6, _), (7, _), (27, _), (28, _)] [(1, _), (2, _), (3, _)] (fun (st : (Int × (List ApiExpr))) (hid : (Option Addr × Nat)) => match st, hid with | (x3, l2), (a_r1, cap_r1) => [(8, .v (.slice a_r1 l2.length cap_r1)), (29, .i64 x3)]) (fun F (st : (Int × (List ApiExpr))) (hid : (Option Addr × Nat)) => match st, hid with | (x3, l2), (a_r1, cap_r1) => [row a_r1 cap_r1 37 1 ApiExpr.d l2, (nthF F 0), (nthF F 1), (nthF F 2)]) (_, _) hj1 (fun _ => rfl) ⟨rfl, rfl, rfl, rfl, rfl, rfl, rfl, trivial⟩ ⟨rfl, rfl, rfl, trivial⟩ ⟨rfl, rfl, trivial⟩ rfl ?_
      rintro n ⟨x3, l2⟩ ⟨a_r1, cap_r1⟩ hj1
      rw [m_subst_put_1_l1] at hj1
      refine g_norm (L' := [(8, .v (.slice a_r1 l2.length cap_r1)), (29, .i64 x3), (1, _), (2, _), (4, _), (6, _), (7, _), (27, _), (28, _)]) (ms' := [row a_r1 cap_r1 37 1 ApiExpr.d l2, _, _, _]) rfl rfl ?_
      refine g_seq ?_
      refine g_region ?_
      refine go_p rfl rfl rfl (o_cmp rfl rfl rfl) ?_
      refine go_nil ?_
      refine g_seq ?_
      refine g_cond rfl (fun hc2 => ?_) (fun hc2 => ?_)
      · replace hj1 := cond_t hc2 hj1
        refine g_skip ?_
        refine g_seq ?_
        refine g_block ?_
        refine g_seq ?_
        refine g_region ?_
        refine go_p rfl rfl rfl (o_move rfl) ?_
        obtain ⟨x4, hx3, hj1⟩ := bind_some hj1
        refine go_p rfl rfl rfl (o_indexAddr_m Try.runUnderlying46 Try.sizeOf3 rfl rfl hx3) ?_
        refine go_p rfl rfl rfl (o_load Try.isAgg3 rfl rfl) ?_
        refine go_p rfl rfl rfl (o_assign rfl) ?_
        refine go_p rfl rfl rfl (o_assign rfl) ?_
        refine go_nil ?_
        refine g_seq ?_
        refine g_seq ?_
        refine g_region ?_
        refine go_p rfl rfl rfl (o_load_box_agg 1 Try.isAgg40 Try.sizeOf40 rfl rfl rfl rfl (Nat.le_of_ble_eq_true rfl)) ?_
        refine go_p rfl rfl rfl (o_move rfl) ?_
        refine go_p rfl rfl rfl (o_load Try.isAgg9 rfl rfl) ?_
        obtain ⟨x5, hx4, hj1⟩ := bind_some hj1
        refine go_p rfl rfl rfl (o_call0 Try.call128 rfl (w_subst_hides hx4)) ?_
        refine go_nil ?_
        refine g_cond rfl (fun hc3 => ?_) (fun hc3 => ?_)
        · replace hj1 := cond_t hc3 hj1
          refine g_seq ?_
          refine g_region ?_
          refine go_p rfl rfl rfl (o_move rfl) ?_
          refine go_p rfl rfl rfl (o_load_agg Try.isAgg37 Try.sizeOf37 rfl rfl) ?_
          refine go_p rfl rfl rfl (o_move rfl) ?_
          obtain ⟨x6, hx5, hj1⟩ := bind_some hj1
          refine go_p rfl rfl rfl (o_call0 Try.call99 rfl (w_subst_sub hx5)) ?_
          refine go_p rfl rfl rfl (o_buildSlice (xs := [_]) (f := ApiExpr.d) (l := [_]) Try.runUnderlying49 Try.sizeOf37 Try.zeroValue37 rfl rfl rfl (fun _ => ⟨rfl, rfl, rfl⟩) rfl) ?_
          obtain ⟨hg6, hj1⟩ := grd_some hj1
          refine go_op rfl rfl rfl (o_append (a := _) 0 Try.underlying49 Try.type37 rfl rfl rfl rfl rfl rfl rfl (fun _ => rfl) (fun _ => rfl) hg6 (app_len hg6 rfl)) ?_
          rintro _ _ ⟨a_r1, cap_r1, rfl, rfl⟩
          refine go_ms (ms' := [_, box b2 40 [_, _, _, _, _, _, _, _, _], box b1 37 [_], box b_q4 137 [_]]) rfl ?_
          refine go_p rfl rfl rfl (o_assign rfl) ?_
          refine go_nil ?_
          refine g_exit ?_
          refine g_region ?_
          obtain ⟨hg7, hj1⟩ := grd_some hj1
          refine go_p rfl rfl rfl (o_add rfl rfl (i64_id hg7)) ?_
          refine go_p rfl rfl rfl (o_move rfl) ?_
          refine go_nil ?_
          exact ⟨_, (_, _), hj1, ⟨rfl, rfl, trivial⟩, ⟨rfl, rfl, rfl, rfl, rfl, rfl, rfl, trivial⟩, [], rfl⟩
        · replace hj1 := cond_f hc3 hj1
          refine g_skip ?_
          refine g_region ?_
          refine go_p rfl rfl rfl (o_move rfl) ?_
          refine go_p rfl rfl rfl (o_load_box 3 Try.isAgg137 rfl rfl rfl rfl) ?_
          refine go_p rfl rfl rfl (o_move rfl) ?_
          obtain ⟨x7, hx8, hj1⟩ := bind_some hj1
          refine go_op rfl rfl rfl (o_callv_own [3] rfl rfl rfl (getL_c rfl getL_n) (fv_clo Try.call127 (hself hx8)) (by rintro _ _ ⟨rfl, rfl⟩; rfl)) ?_
          rintro _ _ ⟨_, ⟨rfl, rfl⟩, rfl⟩
          refine go_ms (ms' := [_, box b2 40 [_, _, _, _, _, _, _, _, _], box b1 37 [_], box b_q4 137 [_]]) rfl ?_
          refine go_p rfl rfl rfl (o_buildSlice (xs := [_]) (f := ApiExpr.d) (l := [_]) Try.runUnderlying49 Try.sizeOf37 Try.zeroValue37 rfl rfl rfl (fun _ => ⟨rfl, rfl, rfl⟩) rfl) ?_
          obtain ⟨hg9, hj1⟩ := grd_some hj1
          refine go_op rfl rfl rfl (o_append (a := _) 0 Try.underlying49 Try.type37 rfl rfl rfl rfl rfl rfl rfl (fun _ => rfl) (fun _ => rfl) hg9 (app_len hg9 rfl)) ?_
          rintro _ _ ⟨a_r1, cap_r1, rfl, rfl⟩
          refine go_ms (ms' := [_, box b2 40 [_, _, _, _, _, _, _, _, _], box b1 37 [_], box b_q4 137 [_]]) rfl ?_
          refine go_p rfl rfl rfl (o_assign rfl) ?_
          refine go_nil ?_
          refine g_region ?_
          obtain ⟨hg10, hj1⟩ := grd_some hj1
          refine go_p rfl rfl rfl (o_add rfl rfl (i64_id hg10)) ?_
          refine go_p rfl rfl rfl (o_move rfl) ?_
          refine go_nil ?_
          exact ⟨_, (_, _), hj1, ⟨rfl, rfl, trivial⟩, ⟨rfl, rfl, rfl, rfl, rfl, rfl, rfl, trivial⟩, [], rfl⟩
      · replace hj1 := cond_f hc2 hj1
        refine g_exit ?_
        exact ⟨_, (_, _), some_eq hj1, ⟨rfl, trivial⟩, ⟨rfl, rfl, trivial⟩, [], rfl⟩
    · rintro l1 ⟨a_r1, cap_r1⟩ hst
      subst hst
      refine k_norm (L' := [(8, .v (.slice a_r1 l1.length cap_r1)), (6, _), (7, _)]) (ms' := [row a_r1 cap_r1 37 1 ApiExpr.d l1, _, _, _]) rfl rfl ?_
      refine g_seq ?_
      refine g_region ?_
      refine go_p rfl rfl rfl (o_load_box_agg 1 Try.isAgg40 Try.sizeOf40 rfl rfl rfl rfl (Nat.le_of_ble_eq_true rfl)) ?_
      refine go_p rfl rfl rfl (o_move rfl) ?_
      obtain ⟨x8, hx11, hm1⟩ := bind_some hm1
      refine go_p rfl rfl rfl (.view (peekE (i := 52) 0 rfl rfl rfl) (o_call0 Try.call35 rfl (w_tree_Join hx11))) ?_
      refine go_u rfl rfl (o_store_box 2 Try.sizeOf37 rfl rfl rfl rfl rfl rfl rfl rfl (Nat.le_of_ble_eq_true rfl)) ?_
      rintro _ _ rfl
      refine go_ms (ms' := [_, box b2 40 [_, _, _, _, _, _, _, _, _], box b1 37 [_], box b_q4 137 [_]]) rfl ?_
      refine go_nil ?_
      refine g_ret ?_
      obtain rfl := some_eq hm1
      exact retK (ret_one' rfl (ret_cell 2 rfl rfl rfl Try.isAgg37 Try.sizeOf37 rfl) (permA 3 rfl permN)) ⟨rfl, rfl⟩
theorem wn_subst_put_1 {c1 : ApiExpr} {c2 : (List UInt8)} {c3 : ApiExpr} : ∀ (n : Nat) {i1 : Int} {r_1 : ApiExpr} {b_q4 : Nat}, m_subst_put_1 c1 c2 c3 n i1 = some r_1 → Go.V.Fn Try.prog 127 [.i64 i1, .ref (ApiExpr.d c1), .ref (.str c2), .ref (ApiExpr.d c3), .v (.pointer (some ⟨b_q4, 0, none⟩))] [box b_q4 137 [.clo (.func 127) [] [.ref (ApiExpr.d c1), .ref (.str c2), .ref (ApiExpr.d c3), .v (.pointer (some ⟨b_q4, 0, none⟩))]]] (fun d ms' => d = ApiExpr.d r_1 ∧ ms' = [box b_q4 137 [.clo (.func 127) [] [.ref (ApiExpr.d c1), .ref (.str c2), .ref (ApiExpr.d c3), .v (.pointer (some ⟨b_q4, 0, none⟩))]]])
  | 0 => by intros; rename_i h; cases h
  | n + 1 => by intros; rename_i h; exact wF_subst_put_1 (m_subst_put_1 c1 c2 c3 n) (fun h => wn_subst_put_1 n h) h
theorem w_subst_put_1 {c1 : ApiExpr} {c2 : (List UInt8)} {c3 : ApiExpr} {i1 : Int} {r_1 : ApiExpr} {b_q4 : Nat} (hm : m_subst_put_1 c1 c2 c3 FU i1 = some r_1) : Go.V.Fn Try.prog 127 [.i64 i1, .ref (ApiExpr.d c1), .ref (.str c2), .ref (ApiExpr.d c3), .v (.pointer (some ⟨b_q4, 0, none⟩))] [box b_q4 137 [.clo (.func 127) [] [.ref (ApiExpr.d c1), .ref (.str c2), .ref (ApiExpr.d c3), .v (.pointer (some ⟨b_q4, 0, none⟩))]]] (fun d ms' => d = ApiExpr.d r_1 ∧ ms' = [box b_q4 137 [.clo (.func 127) [] [.ref (ApiExpr.d c1), .ref (.str c2), .ref (ApiExpr.d c3), .v (.pointer (some ⟨b_q4, 0, none⟩))]]]) := wn_subst_put_1 FU hm
def m_subst_put (e1 : ApiExpr) (x1 : (List UInt8)) (v1 : ApiExpr) : Option ApiExpr :=
  grd (InR ((e1.l.length : Int) - 1)) <|
  (m_subst_put_1 e1 x1 v1 FU ((e1.l.length : Int) - 1)).bind fun x2 =>
  some (⟨x2.l⟩ : ApiExpr)
theorem w_subst_put {e1 : ApiExpr} {x1 : (List UInt8)} {v1 : ApiExpr} {r_1 : ApiExpr} (hm : m_subst_put e1 x1 v1 = some r_1) : Fn0 Try.prog 93 [ApiExpr.d e1, .str x1, ApiExpr.d v1] (ApiExpr.d r_1) := by
  unfold m_subst_put at hm
  refine fn_intro Try.func93 rfl Try.ntmps93 rfl fun H0 fr w0 => ?_
  refine g_seq ?_
  refine g_region ?_
  refine go_p rfl rfl rfl (o_box rfl rfl) ?_
  refine go_p rfl rfl rfl (o_box rfl rfl) ?_
  refine go_p rfl rfl rfl (o_box rfl rfl) ?_
  refine go_op rfl rfl rfl (o_alloc_own Try.zeroValue37 (cs := [.list 9 ApiNode.d []]) rfl) ?_
  rintro _ _ ⟨b1, rfl, rfl⟩
  refine go_nil ?_
  refine g_seq ?_
  refine g_region ?_
  refine go_op rfl rfl rfl (o_alloc_own Try.zeroValue137 (cs := [.v .nilFunc]) rfl) ?_
  rintro _ _ ⟨b2, rfl, rfl⟩
  refine go_nil ?_
  refine g_seq ?_
  refine g_region ?_
  refine go_p rfl rfl rfl (o_makeFunc rfl rfl) ?_
  refine go_u rfl rfl (o_store_box 0 Try.sizeOf137 rfl rfl rfl rfl rfl rfl rfl rfl (Nat.le_of_ble_eq_true rfl)) ?_
  rintro _ _ rfl
  refine go_ms (ms' := [box b2 137 [_], box b1 37 [_]]) rfl ?_
  refine go_nil ?_
  refine g_seq ?_
  refine g_region ?_
  refine go_p rfl rfl rfl (o_load_box 0 Try.isAgg137 rfl rfl rfl rfl) ?_
  refine go_p rfl rfl rfl (o_fieldAddr fi_37_0 rfl rfl rfl) ?_
  refine go_p rfl rfl rfl (o_load Try.isAgg35 rfl rfl) ?_
  refine go_p rfl rfl rfl (o_len Try.runUnderlying35 rfl) ?_
  obtain ⟨hg1, hm⟩ := grd_some hm
  refine go_p rfl rfl rfl (o_sub rfl rfl (i64_id hg1)) ?_
  obtain ⟨x2, hx2, hm⟩ := bind_some hm
  refine go_op rfl rfl rfl (o_callv_own [0] rfl rfl rfl (getL_c rfl getL_n) (fv_clo Try.call127 (w_subst_put_1 hx2)) (by rintro _ _ ⟨rfl, rfl⟩; rfl)) ?_
  rintro _ _ ⟨_, ⟨rfl, rfl⟩, rfl⟩
  refine go_ms (ms' := [box b2 137 [_], box b1 37 [_]]) rfl ?_
  refine go_u rfl rfl (o_store_box 1 Try.sizeOf37 rfl rfl rfl rfl rfl rfl rfl rfl (Nat.le_of_ble_eq_true rfl)) ?_
  rintro _ _ rfl
  refine go_ms (ms' := [box b2 137 [_], box b1 37 [_]]) rfl ?_
  refine go_nil ?_
  refine g_ret ?_
  exact retK (ret_one' rfl (ret_cell 1 rfl rfl rfl Try.isAgg37 Try.sizeOf37 rfl) (perm_drop _)) (congrArg (fun (p : ApiExpr) => (ApiExpr.d p : D)) (some_eq hm))
def m_subst_Put (e1 : ApiExpr) (x1 : (List UInt8)) (v1 : ApiExpr) : Option (ApiExpr × Int) :=
  (m_tree_May e1).bind fun x2 =>
  bif (!decide (x2 = 0)) then
    some ((⟨([] : List ApiNode)⟩ : ApiExpr), x2)
  else
    (m_tree_Norm v1).bind fun (x3, x4) =>
    bif (!decide (x4 = 0)) then
      some ((⟨([] : List ApiNode)⟩ : ApiExpr), x4)
    else
      (m_name_Name x1).bind fun x5 =>
      bif (!x5) then
        some ((⟨([] : List ApiNode)⟩ : ApiExpr), 2)
      else
        (m_scope_Closed (⟨x3.l⟩ : ApiExpr)).bind fun (x6, x7) =>
        bif (!decide (x7 = 0)) then
          some ((⟨([] : List ApiNode)⟩ : ApiExpr), x7)
        else
          (m_subst_put e1 x1 (⟨x3.l⟩ : ApiExpr)).bind fun x8 =>
          (m_subst_made x8).bind fun (x9, x10) =>
          some ((⟨x9.l⟩ : ApiExpr), x10)
theorem w_subst_Put {e1 : ApiExpr} {x1 : (List UInt8)} {v1 : ApiExpr} {r_1 : ApiExpr} {r_2 : Int} (hm : m_subst_Put e1 x1 v1 = some (r_1, r_2)) : Fn0 Try.prog 56 [ApiExpr.d e1, .str x1, ApiExpr.d v1] (.tup [ApiExpr.d r_1, .i64 r_2]) := by
  unfold m_subst_Put at hm
  refine fn_intro Try.func56 rfl Try.ntmps56 rfl fun H0 fr w0 => ?_
  refine g_seq ?_
  refine g_region ?_
  refine go_p rfl rfl rfl (o_box rfl rfl) ?_
  refine go_p rfl rfl rfl (o_box rfl rfl) ?_
  refine go_op rfl rfl rfl (o_alloc_own Try.zeroValue37 (cs := [.list 9 ApiNode.d []]) rfl) ?_
  rintro _ _ ⟨b1, rfl, rfl⟩
  refine go_p rfl rfl rfl (o_assign rfl) ?_
  refine go_nil ?_
  refine g_seq ?_
  refine g_seq ?_
  refine g_region ?_
  refine go_p rfl rfl rfl (o_load_agg Try.isAgg37 Try.sizeOf37 rfl rfl) ?_
  obtain ⟨x2, hx1, hm⟩ := bind_some hm
  refine go_p rfl rfl rfl (o_call0 Try.call28 rfl (w_tree_May hx1)) ?_
  refine go_p rfl rfl rfl (o_assign rfl) ?_
  refine go_nil ?_
  refine g_seq ?_
  refine g_region ?_
  refine go_p rfl rfl rfl (o_move rfl) ?_
  refine go_p rfl rfl rfl (o_cmp rfl rfl rfl) ?_
  refine go_nil ?_
  refine g_cond rfl (fun hc1 => ?_) (fun hc1 => ?_)
  · replace hm := cond_t hc1 hm
    refine g_seq ?_
    refine g_region ?_
    refine go_p rfl rfl rfl (o_build (zs := [.list 9 ApiNode.d []]) Try.runUnderlying37 Try.zeroValue37 (pl_37 _ Try.runUnderlying37) rfl rfl rfl rfl) ?_
    refine go_p rfl rfl rfl (o_move rfl) ?_
    refine go_u rfl rfl (o_store_box 0 Try.sizeOf37 rfl rfl rfl rfl rfl rfl rfl rfl (Nat.le_of_ble_eq_true rfl)) ?_
    rintro _ _ rfl
    refine go_ms (ms' := [box b1 37 [_]]) rfl ?_
    refine go_p rfl rfl rfl (o_assign rfl) ?_
    refine go_nil ?_
    refine g_ret ?_
    exact retK (ret_many (ds := [_, _]) rfl (by decide) ⟨ret_cell 0 rfl rfl rfl Try.isAgg37 Try.sizeOf37 rfl, ⟨ret_tmp rfl, rfl⟩⟩ (perm_drop _)) (congrArg (fun (p : (ApiExpr × Int)) => D.tup [ApiExpr.d p.1, .i64 p.2]) (some_eq hm))
  · replace hm := cond_f hc1 hm
    refine g_skip ?_
    refine g_seq ?_
    refine g_region ?_
    refine go_p rfl rfl rfl (o_load_agg Try.isAgg37 Try.sizeOf37 rfl rfl) ?_
    obtain ⟨⟨x3, x4⟩, hx2, hm⟩ := bind_some hm
    refine go_p rfl rfl rfl (o_call0 Try.call37 rfl (w_tree_Norm hx2)) ?_
    refine go_p rfl rfl rfl (o_move rfl) ?_
    refine go_p rfl rfl rfl (o_extract rfl rfl) ?_
    refine go_p rfl rfl rfl (o_extract rfl rfl) ?_
    refine go_op rfl rfl rfl (o_alloc_own Try.zeroValue37 (cs := [.list 9 ApiNode.d []]) rfl) ?_
    rintro _ _ ⟨b2, rfl, rfl⟩
    refine go_u rfl rfl (o_store_box 0 Try.sizeOf37 rfl rfl rfl rfl rfl rfl rfl rfl (Nat.le_of_ble_eq_true rfl)) ?_
    rintro _ _ rfl
    refine go_ms (ms' := [box b2 37 [_], box b1 37 [_]]) rfl ?_
    refine go_p rfl rfl rfl (o_assign rfl) ?_
    refine go_nil ?_
    refine g_seq ?_
    refine g_seq ?_
    refine g_region ?_
    refine go_p rfl rfl rfl (o_move rfl) ?_
    refine go_p rfl rfl rfl (o_cmp rfl rfl rfl) ?_
    refine go_nil ?_
    refine g_cond rfl (fun hc2 => ?_) (fun hc2 => ?_)
    · replace hm := cond_t hc2 hm
      refine g_seq ?_
      refine g_region ?_
      refine go_p rfl rfl rfl (o_build (zs := [.list 9 ApiNode.d []]) Try.runUnderlying37 Try.zeroValue37 (pl_37 _ Try.runUnderlying37) rfl rfl rfl rfl) ?_
      refine go_p rfl rfl rfl (o_move rfl) ?_
      refine go_u rfl rfl (o_store_box 1 Try.sizeOf37 rfl rfl rfl rfl rfl rfl rfl rfl (Nat.le_of_ble_eq_true rfl)) ?_
      rintro _ _ rfl
      refine go_ms (ms' := [box b2 37 [_], box b1 37 [_]]) rfl ?_
      refine go_p rfl rfl rfl (o_assign rfl) ?_
      refine go_nil ?_
      refine g_ret ?_
      exact retK (ret_many (ds := [_, _]) rfl (by decide) ⟨ret_cell 1 rfl rfl rfl Try.isAgg37 Try.sizeOf37 rfl, ⟨ret_tmp rfl, rfl⟩⟩ (perm_drop _)) (congrArg (fun (p : (ApiExpr × Int)) => D.tup [ApiExpr.d p.1, .i64 p.2]) (some_eq hm))
    · replace hm := cond_f hc2 hm
      refine g_skip ?_
      refine g_seq ?_
      refine g_seq ?_
      refine g_region ?_
      refine go_p rfl rfl rfl (o_move rfl) ?_
      obtain ⟨x5, hx3, hm⟩ := bind_some hm
      refine go_p rfl rfl rfl (o_call0 Try.call91 rfl (w_name_Name hx3)) ?_
      refine go_p rfl rfl rfl (o_not rfl) ?_
      refine go_nil ?_
      refine g_cond rfl (fun hc3 => ?_) (fun hc3 => ?_)
      · replace hm := cond_t hc3 hm
        refine g_seq ?_
        refine g_region ?_
        refine go_p rfl rfl rfl (o_build (zs := [.list 9 ApiNode.d []]) Try.runUnderlying37 Try.zeroValue37 (pl_37 _ Try.runUnderlying37) rfl rfl rfl rfl) ?_
        refine go_u rfl rfl (o_store_box 1 Try.sizeOf37 rfl rfl rfl rfl rfl rfl rfl rfl (Nat.le_of_ble_eq_true rfl)) ?_
        rintro _ _ rfl
        refine go_ms (ms' := [box b2 37 [_], box b1 37 [_]]) rfl ?_
        refine go_p rfl rfl rfl (o_assign rfl) ?_
        refine go_nil ?_
        refine g_ret ?_
        exact retK (ret_many (ds := [_, _]) rfl (by decide) ⟨ret_cell 1 rfl rfl rfl Try.isAgg37 Try.sizeOf37 rfl, ⟨ret_tmp rfl, rfl⟩⟩ (perm_drop _)) (congrArg (fun (p : (ApiExpr × Int)) => D.tup [ApiExpr.d p.1, .i64 p.2]) (some_eq hm))
      · replace hm := cond_f hc3 hm
        refine g_skip ?_
        refine g_seq ?_
        refine g_seq ?_
        refine g_region ?_
        refine go_p rfl rfl rfl (o_load_box_agg 0 Try.isAgg37 Try.sizeOf37 rfl rfl rfl rfl (Nat.le_of_ble_eq_true rfl)) ?_
        obtain ⟨⟨x6, x7⟩, hx4, hm⟩ := bind_some hm
        refine go_p rfl rfl rfl (o_call0 Try.call46 rfl (w_scope_Closed hx4)) ?_
        refine go_p rfl rfl rfl (o_move rfl) ?_
        refine go_p rfl rfl rfl (o_extract rfl rfl) ?_
        refine go_p rfl rfl rfl (o_extract rfl rfl) ?_
        refine go_p rfl rfl rfl (o_assign rfl) ?_
        refine go_p rfl rfl rfl (o_assign rfl) ?_
        refine go_nil ?_
        refine g_seq ?_
        refine g_region ?_
        refine go_p rfl rfl rfl (o_move rfl) ?_
        refine go_p rfl rfl rfl (o_cmp rfl rfl rfl) ?_
        refine go_nil ?_
        refine g_cond rfl (fun hc4 => ?_) (fun hc4 => ?_)
        · replace hm := cond_t hc4 hm
          refine g_seq ?_
          refine g_region ?_
          refine go_p rfl rfl rfl (o_build (zs := [.list 9 ApiNode.d []]) Try.runUnderlying37 Try.zeroValue37 (pl_37 _ Try.runUnderlying37) rfl rfl rfl rfl) ?_
          refine go_p rfl rfl rfl (o_move rfl) ?_
          refine go_u rfl rfl (o_store_box 1 Try.sizeOf37 rfl rfl rfl rfl rfl rfl rfl rfl (Nat.le_of_ble_eq_true rfl)) ?_
          rintro _ _ rfl
          refine go_ms (ms' := [box b2 37 [_], box b1 37 [_]]) rfl ?_
          refine go_p rfl rfl rfl (o_assign rfl) ?_
          refine go_nil ?_
          refine g_ret ?_
          exact retK (ret_many (ds := [_, _]) rfl (by decide) ⟨ret_cell 1 rfl rfl rfl Try.isAgg37 Try.sizeOf37 rfl, ⟨ret_tmp rfl, rfl⟩⟩ (perm_drop _)) (congrArg (fun (p : (ApiExpr × Int)) => D.tup [ApiExpr.d p.1, .i64 p.2]) (some_eq hm))
        · replace hm := cond_f hc4 hm
          refine g_skip ?_
          refine g_seq ?_
          refine g_region ?_
          refine go_p rfl rfl rfl (o_load_agg Try.isAgg37 Try.sizeOf37 rfl rfl) ?_
          refine go_p rfl rfl rfl (o_move rfl) ?_
          refine go_p rfl rfl rfl (o_load_box_agg 0 Try.isAgg37 Try.sizeOf37 rfl rfl rfl rfl (Nat.le_of_ble_eq_true rfl)) ?_
          obtain ⟨x8, hx5, hm⟩ := bind_some hm
          refine go_p rfl rfl rfl (o_call0 Try.call93 rfl (w_subst_put hx5)) ?_
          obtain ⟨⟨x9, x10⟩, hx6, hm⟩ := bind_some hm
          refine go_p rfl rfl rfl (o_call0 Try.call92 rfl (w_subst_made hx6)) ?_
          refine go_p rfl rfl rfl (o_extract rfl rfl) ?_
          refine go_p rfl rfl rfl (o_extract rfl rfl) ?_
          refine go_u rfl rfl (o_store_box 1 Try.sizeOf37 rfl rfl rfl rfl rfl rfl rfl rfl (Nat.le_of_ble_eq_true rfl)) ?_
          rintro _ _ rfl
          refine go_ms (ms' := [box b2 37 [_], box b1 37 [_]]) rfl ?_
          refine go_p rfl rfl rfl (o_assign rfl) ?_
          refine go_nil ?_
          refine g_ret ?_
          exact retK (ret_many (ds := [_, _]) rfl (by decide) ⟨ret_cell 1 rfl rfl rfl Try.isAgg37 Try.sizeOf37 rfl, ⟨ret_tmp rfl, rfl⟩⟩ (perm_drop _)) (congrArg (fun (p : (ApiExpr × Int)) => D.tup [ApiExpr.d p.1, .i64 p.2]) (some_eq hm))
def m_syntagmaref09_put_l1 (self : ApiExpr → Int → (List UInt8) → ApiExpr → Option ApiExpr) (e1 : ApiExpr) (x1 : (List UInt8)) (v1 : ApiExpr) (x2 : ApiNode) (x4 : (List Int)) : Nat → (Int × (List ApiExpr)) → Option (List ApiExpr)
  | 0, _ => none
  | n + 1, (k1, l2) =>
    bif (decide (k1 < (x4.length : Int))) then
      (bif ((decide (x2.kind = 14)) && (decide (0 < k1))) then
        grd (InR (k1 - 1)) <|
        (idx x2.l (k1 - 1)).bind fun x5 =>
        some (decide ((x5.var : List UInt8) = x1))
      else
        some ((decide ((x2.name : List UInt8) = x1)) && (((decide (x2.kind = 5)) || (decide (x2.kind = 8))) || ((decide (x2.kind = 7)) && (decide (k1 = 1))))) : Option Bool).bind fun hidden1 =>
      bif hidden1 then
        (idx x4 k1).bind fun x6 =>
        (m_syntagmaref05_Sub e1 x6).bind fun x7 =>
        grd ((l2.length + ([x7] : List _).length) * 24 ≤ 140737488355328) <|
        grd (InR (k1 + 1)) <|
        m_syntagmaref09_put_l1 self e1 x1 v1 x2 x4 n ((k1 + 1), (l2 ++ [x7]))
      else
        (idx x4 k1).bind fun x8 =>
        (self e1 x8 x1 v1).bind fun x9 =>
        grd ((l2.length + ([x9] : List _).length) * 24 ≤ 140737488355328) <|
        grd (InR (k1 + 1)) <|
        m_syntagmaref09_put_l1 self e1 x1 v1 x2 x4 n ((k1 + 1), (l2 ++ [x9]))
    else
      some l2
def m_syntagmaref09_putF (self : ApiExpr → Int → (List UInt8) → ApiExpr → Option ApiExpr) (e1 : ApiExpr) (i1 : Int) (x1 : (List UInt8)) (v1 : ApiExpr)  : Option ApiExpr :=
  (idx e1.l i1).bind fun x2 =>
  bif ((decide (x2.kind = 4)) && (decide ((x2.name : List UInt8) = x1))) then
    (m_syntagmaref05_Norm v1).bind fun x3 =>
    some (⟨x3.l⟩ : ApiExpr)
  else
    (m_syntagmaref05_Kids (⟨x2.kind, x2.a, x2.b, x2.c, x2.n_, x2.name, x2.s, x2.l, x2.pos⟩ : ApiNode)).bind fun x4 =>
    (m_syntagmaref09_put_l1 self e1 x1 v1 x2 x4 FU (0, []) : Option (List ApiExpr)).bind fun l1 =>
    (m_syntagmaref05_Join (⟨x2.kind, x2.a, x2.b, x2.c, x2.n_, x2.name, x2.s, x2.l, x2.pos⟩ : ApiNode) l1).bind fun x10 =>
    some (⟨x10.l⟩ : ApiExpr)
def m_syntagmaref09_put  : Nat → ApiExpr → Int → (List UInt8) → ApiExpr → Option ApiExpr
  | 0 => fun _ _ _ _ => none
  | n + 1 => fun e1 i1 x1 v1 => m_syntagmaref09_putF (m_syntagmaref09_put n) e1 i1 x1 v1
def m_syntagmalaw09_same_l1 (a1 : ApiExpr) (b1 : ApiExpr) : Nat → Int → Option (Out Bool Unit)
  | 0, _ => none
  | n + 1, i1 =>
    bif (decide (i1 < (a1.l.length : Int))) then
      (idx a1.l i1).bind fun x2 =>
      (idx b1.l i1).bind fun x3 =>
      bif (!decide (x2.pos = x3.pos)) then
        some (Out.ret false)
      else
        grd (InR (i1 + 1)) <|
        m_syntagmalaw09_same_l1 a1 b1 n (i1 + 1)
    else
      some (Out.go (()))
def m_syntagmalaw09_same (a1 : ApiExpr) (b1 : ApiExpr) : Option Bool :=
  (m_syntagmaref05_SameList a1 b1).bind fun x1 =>
  bif (!x1) then
    some false
  else
    ((m_syntagmalaw09_same_l1 a1 b1 FU 0 : Option (Out Bool Unit))).bind (fun oo => oo.on (fun r1 => some r1) (fun _ =>
    some true))
theorem w_syntagmalaw09_same {a1 : ApiExpr} {b1 : ApiExpr} {r_1 : Bool} (hm : m_syntagmalaw09_same a1 b1 = some r_1) : Fn0 Try.prog 59 [ApiExpr.d a1, ApiExpr.d b1] (.bool r_1) := by
  unfold m_syntagmalaw09_same at hm
  refine fn_intro Try.func59 rfl Try.ntmps59 rfl fun H0 fr w0 => ?_
  refine g_seq ?_
  refine g_region ?_
  refine go_p rfl rfl rfl (o_box rfl rfl) ?_
  refine go_p rfl rfl rfl (o_box rfl rfl) ?_
  refine go_p rfl rfl rfl (o_assign rfl) ?_
  refine go_nil ?_
  refine g_seq ?_
  refine g_seq ?_
  refine g_region ?_
  refine go_p rfl rfl rfl (o_load_agg Try.isAgg37 Try.sizeOf37 rfl rfl) ?_
  refine go_p rfl rfl rfl (o_load_agg Try.isAgg37 Try.sizeOf37 rfl rfl) ?_
  obtain ⟨x1, hx1, hm⟩ := bind_some hm
  refine go_p rfl rfl rfl (o_call0 Try.call34 rfl (w_syntagmaref05_SameList hx1)) ?_
  refine go_p rfl rfl rfl (o_not rfl) ?_
  refine go_nil ?_
  refine g_cond rfl (fun hc1 => ?_) (fun hc1 => ?_)
  · replace hm := cond_t hc1 hm
    refine g_seq ?_
    refine g_region ?_
    refine go_p rfl rfl rfl (o_assign rfl) ?_
    refine go_nil ?_
    refine g_ret ?_
    exact retK (ret_one' rfl (ret_tmp rfl) (perm_drop _)) (congrArg (fun (p : Bool) => (.bool p : D)) (some_eq hm))
  · replace hm := cond_f hc1 hm
    refine g_skip ?_
    refine g_seq ?_
    refine g_seq ?_
    refine g_region ?_
    refine go_p rfl rfl rfl (o_assign rfl) ?_
    refine go_nil ?_
    obtain ⟨o_1, hj1, hm1⟩ := bind_some hm
    refine g_cut_m [] [] (fun (st : Unit) (hid : Unit) => match st, hid with | _, _ => []) (fun F (st : Unit) (hid : Unit) => match st, hid with | _, _ => []) (fun st => Out.go (st) = o_1) trivial trivial ?_ ?_
    · skip
      refine g_block ?_
      refine g_loop_m [(2, _), (3, _)] [] (fun (st : Int) (hid : Unit) => match st, hid with | i1, _ => [(5, .i64 i1)]) (fun F (st : Int) (hid : Unit) => match st, hid with | i1, _ => []) () hj1 (fun _ => rfl) ⟨rfl, rfl, trivial⟩ trivial ⟨rfl, trivial⟩ rfl ?_
      rintro n i1 _ hj1
      rw [m_syntagmalaw09_same_l1] at hj1
      refine g_norm (L' := [(5, .i64 i1), (2, _), (3, _)]) (ms' := []) rfl rfl ?_
      refine g_seq ?_
      refine g_seq ?_
      refine g_region ?_
      refine go_p rfl rfl rfl (o_move rfl) ?_
      refine go_p rfl rfl rfl (o_fieldAddr fi_37_0 rfl rfl rfl) ?_
      refine go_p rfl rfl rfl (o_load Try.isAgg35 rfl rfl) ?_
      refine go_p rfl rfl rfl (o_len Try.runUnderlying35 rfl) ?_
      refine go_p rfl rfl rfl (o_cmp rfl rfl rfl) ?_
      refine go_nil ?_
      refine g_cond rfl (fun hc2 => ?_) (fun hc2 => ?_)
      · replace hj1 := cond_t hc2 hj1
        refine g_skip ?_
        refine g_seq ?_
        refine g_block ?_
        refine g_seq ?_
        obtain ⟨x2, hx2, hj1⟩ := bind_some hj1
        obtain ⟨x3, hx3, hj1⟩ := bind_some hj1
        refine g_draw 13 Try_mixed (by decide +kernel) ?_
        refine gd_p rfl rfl rfl (o_fieldAddr fi_37_0 rfl rfl rfl) ?_
        refine gd_p rfl rfl rfl (o_load Try.isAgg35 rfl rfl) ?_
        refine gd_p rfl rfl rfl (o_move rfl) ?_
        refine gd_p rfl rfl rfl (o_indexAddr_m Try.runUnderlying35 Try.sizeOf40 rfl rfl hx2) ?_
        refine gd_p rfl rfl rfl (o_fieldAddr fi_40_8 rfl rfl rfl) ?_
        refine gd_p rfl rfl rfl (o_load Try.isAgg3 rfl rfl) ?_
        refine gd_p rfl rfl rfl (o_fieldAddr fi_37_0 rfl rfl rfl) ?_
        refine gd_p rfl rfl rfl (o_load Try.isAgg35 rfl rfl) ?_
        refine gd_p rfl rfl rfl (o_move rfl) ?_
        refine gd_p rfl rfl rfl (o_indexAddr_m Try.runUnderlying35 Try.sizeOf40 rfl rfl hx3) ?_
        refine gd_p rfl rfl rfl (o_fieldAddr fi_40_8 rfl rfl rfl) ?_
        refine gd_p rfl rfl rfl (o_load Try.isAgg3 rfl rfl) ?_
        refine gd_p rfl rfl rfl (o_cmp rfl rfl rfl) ?_
        refine gd_nil ?_
        refine go_nil ?_
        refine g_cond rfl (fun hc3 => ?_) (fun hc3 => ?_)
        · replace hj1 := cond_t hc3 hj1
          refine g_seq ?_
          refine g_region ?_
          refine go_p rfl rfl rfl (o_assign rfl) ?_
          refine go_nil ?_
          refine g_ret ?_
          obtain rfl := some_eq hj1
          replace hm1 := on_ret hm1
          exact retK (ret_one' rfl (ret_tmp rfl) (perm_drop _)) (congrArg (fun (p : Bool) => (.bool p : D)) (some_eq hm1))
        · replace hj1 := cond_f hc3 hj1
          refine g_skip ?_
          refine g_region ?_
          refine go_p rfl rfl rfl (o_move rfl) ?_
          obtain ⟨hg4, hj1⟩ := grd_some hj1
          refine go_p rfl rfl rfl (o_add rfl rfl (i64_id hg4)) ?_
          refine go_p rfl rfl rfl (o_assign rfl) ?_
          refine go_nil ?_
          exact ⟨_, (), hj1, ⟨rfl, trivial⟩, ⟨rfl, rfl, trivial⟩, [], rfl⟩
      · replace hj1 := cond_f hc2 hj1
        refine g_exit ?_
        exact ⟨_, (), some_eq hj1, trivial, trivial, [], rfl⟩
    · rintro _ _ hst
      subst hst
      replace hm1 := on_go hm1
      refine k_norm (L' := []) (ms' := []) rfl rfl ?_
      refine g_seq ?_
      refine g_region ?_
      refine go_p rfl rfl rfl (o_assign rfl) ?_
      refine go_nil ?_
      refine g_ret ?_
      exact retK (ret_one' rfl (ret_tmp rfl) (perm_drop _)) (congrArg (fun (p : Bool) => (.bool p : D)) (some_eq hm1))
def m_slices_IndexFunc_api_Field_api_Field_l1 (s1 : (List ApiField)) (f1 : (ApiField → Option Bool)) : Nat → Int → Option (Out Int Unit)
  | 0, _ => none
  | n + 1, x1 =>
    bif (decide (x1 < (s1.length : Int))) then
      (idx s1 x1).bind fun x2 =>
      (f1 x2).bind fun x3 =>
      bif x3 then
        some (Out.ret x1)
      else
        grd (InR (x1 + 1)) <|
        m_slices_IndexFunc_api_Field_api_Field_l1 s1 f1 n (x1 + 1)
    else
      some (Out.go (()))
def m_slices_IndexFunc_api_Field_api_Field (s1 : (List ApiField)) (f1 : (ApiField → Option Bool)) : Option Int :=
  ((m_slices_IndexFunc_api_Field_api_Field_l1 s1 f1 FU 0 : Option (Out Int Unit))).bind (fun oo => oo.on (fun r1 => some r1) (fun _ =>
  some (-1)))
theorem w_slices_IndexFunc_api_Field_api_Field {s1 : (List ApiField)} {f1 : (ApiField → Option Bool)} {r_1 : Int} {fv_f1 : D} (hff1 : FunOk1 Try.prog fv_f1 ApiField.d D.bool f1) (hm : m_slices_IndexFunc_api_Field_api_Field s1 f1 = some r_1) : Fn0 Try.prog 151 [.list 3 ApiField.d s1, fv_f1] (.i64 r_1) := by
  unfold m_slices_IndexFunc_api_Field_api_Field at hm
  refine fn_intro Try.func151 rfl Try.ntmps151 rfl fun H0 fr w0 => ?_
  refine g_seq ?_
  refine g_region ?_
  refine go_p rfl rfl rfl (o_assign rfl) ?_
  refine go_nil ?_
  refine g_seq ?_
  refine g_seq ?_
  refine g_region ?_
  refine go_p rfl rfl rfl (o_move rfl) ?_
  refine go_p rfl rfl rfl (o_len Try.runUnderlying38 rfl) ?_
  refine go_p rfl rfl rfl (o_move rfl) ?_
  refine go_nil ?_
  obtain ⟨o_1, hj1, hm1⟩ := bind_some hm
  refine g_cut_m [] [] (fun (st : Unit) (hid : Unit) => match st, hid with | _, _ => []) (fun F (st : Unit) (hid : Unit) => match st, hid with | _, _ => []) (fun st => Out.go (st) = o_1) trivial trivial ?_ ?_
  · skip
    refine g_block ?_
    refine g_loop_m [(0, _), (1, _), (7, _)] [] (fun (st : Int) (hid : Unit) => match st, hid with | x1, _ => [(8, .i64 x1)]) (fun F (st : Int) (hid : Unit) => match st, hid with | x1, _ => []) () hj1 (fun _ => rfl) ⟨rfl, rfl, rfl, trivial⟩ trivial ⟨rfl, trivial⟩ rfl ?_
    rintro n x1 _ hj1
    rw [m_slices_IndexFunc_api_Field_api_Field_l1] at hj1
    refine g_norm (L' := [(8, .i64 x1), (0, _), (1, _), (7, _)]) (ms' := []) rfl rfl ?_
    refine g_seq ?_
    refine g_region ?_
    refine go_p rfl rfl rfl (o_cmp rfl rfl rfl) ?_
    refine go_nil ?_
    refine g_seq ?_
    refine g_cond rfl (fun hc1 => ?_) (fun hc1 => ?_)
    · replace hj1 := cond_t hc1 hj1
      refine g_skip ?_
      refine g_seq ?_
      refine g_block ?_
      refine g_seq ?_
      refine g_region ?_
      refine go_p rfl rfl rfl (o_move rfl) ?_
      refine go_p rfl rfl rfl (o_assign rfl) ?_
      refine go_nil ?_
      refine g_seq ?_
      refine g_region ?_
      refine go_p rfl rfl rfl (o_move rfl) ?_
      refine go_p rfl rfl rfl (o_move rfl) ?_
      refine go_p rfl rfl rfl (o_move rfl) ?_
      obtain ⟨x2, hx1, hj1⟩ := bind_some hj1
      refine go_p rfl rfl rfl (o_indexAddr_m Try.runUnderlying38 Try.sizeOf102 rfl rfl hx1) ?_
      refine go_p rfl rfl rfl (o_load_agg Try.isAgg102 Try.sizeOf102 rfl rfl) ?_
      obtain ⟨x3, hx2, hj1⟩ := bind_some hj1
      refine go_p rfl rfl rfl (o_callv0 rfl rfl (hff1 _ _ hx2)) ?_
      refine go_nil ?_
      refine g_cond rfl (fun hc2 => ?_) (fun hc2 => ?_)
      · replace hj1 := cond_t hc2 hj1
        refine g_seq ?_
        refine g_region ?_
        refine go_p rfl rfl rfl (o_move rfl) ?_
        refine go_p rfl rfl rfl (o_assign rfl) ?_
        refine go_nil ?_
        refine g_ret ?_
        obtain rfl := some_eq hj1
        replace hm1 := on_ret hm1
        exact retK (ret_one' rfl (ret_tmp rfl) (perm_drop _)) (congrArg (fun (p : Int) => (.i64 p : D)) (some_eq hm1))
      · replace hj1 := cond_f hc2 hj1
        refine g_skip ?_
        refine g_region ?_
        obtain ⟨hg3, hj1⟩ := grd_some hj1
        refine go_p rfl rfl rfl (o_add rfl rfl (i64_id hg3)) ?_
        refine go_p rfl rfl rfl (o_move rfl) ?_
        refine go_nil ?_
        exact ⟨_, (), hj1, ⟨rfl, trivial⟩, ⟨rfl, rfl, rfl, trivial⟩, [], rfl⟩
    · replace hj1 := cond_f hc1 hj1
      refine g_exit ?_
      exact ⟨_, (), some_eq hj1, trivial, trivial, [], rfl⟩
  · rintro _ _ hst
    subst hst
    replace hm1 := on_go hm1
    refine k_norm (L' := []) (ms' := []) rfl rfl ?_
    refine g_seq ?_
    refine g_region ?_
    refine go_p rfl rfl rfl (o_assign rfl) ?_
    refine go_nil ?_
    refine g_ret ?_
    exact retK (ret_one' rfl (ret_tmp rfl) (perm_drop _)) (congrArg (fun (p : Int) => (.i64 p : D)) (some_eq hm1))
def m_slices_ContainsFunc_api_Field_api_Field (s1 : (List ApiField)) (f1 : (ApiField → Option Bool)) : Option Bool :=
  (m_slices_IndexFunc_api_Field_api_Field s1 f1).bind fun x1 =>
  some (decide (0 ≤ x1))
theorem w_slices_ContainsFunc_api_Field_api_Field {s1 : (List ApiField)} {f1 : (ApiField → Option Bool)} {r_1 : Bool} {fv_f1 : D} (hff1 : FunOk1 Try.prog fv_f1 ApiField.d D.bool f1) (hm : m_slices_ContainsFunc_api_Field_api_Field s1 f1 = some r_1) : Fn0 Try.prog 132 [.list 3 ApiField.d s1, fv_f1] (.bool r_1) := by
  unfold m_slices_ContainsFunc_api_Field_api_Field at hm
  refine fn_intro Try.func132 rfl Try.ntmps132 rfl fun H0 fr w0 => ?_
  refine g_seq ?_
  refine g_region ?_
  refine go_p rfl rfl rfl (o_assign rfl) ?_
  refine go_nil ?_
  refine g_seq ?_
  refine g_region ?_
  refine go_p rfl rfl rfl (o_move rfl) ?_
  refine go_p rfl rfl rfl (o_move rfl) ?_
  obtain ⟨x1, hx1, hm⟩ := bind_some hm
  refine go_p rfl rfl rfl (o_call0 Try.call151 rfl (w_slices_IndexFunc_api_Field_api_Field hff1 hx1)) ?_
  refine go_p rfl rfl rfl (o_cmp rfl rfl rfl) ?_
  refine go_p rfl rfl rfl (o_assign rfl) ?_
  refine go_nil ?_
  refine g_ret ?_
  exact retK (ret_one' rfl (ret_tmp rfl) (perm_drop _)) (congrArg (fun (p : Bool) => (.bool p : D)) (some_eq hm))
def m_subst_value_1 (self : ApiExpr → Int → Option Bool) (f1 : ApiField) (c1 : ApiExpr) : Option Bool :=
  (self c1 f1.at_).bind fun x1 =>
  some (!x1)
theorem w_subst_value_1 (self : ApiExpr → Int → Option Bool) (hself : ∀ {e_0 : ApiExpr} {e_1 : Int} {e_r : Bool}, self e_0 e_1 = some e_r → Fn0 Try.prog 101 [ApiExpr.d e_0, .i64 e_1] (.bool e_r)) {f1 : ApiField} {c1 : ApiExpr} {r_1 : Bool} (hm : m_subst_value_1 self f1 c1 = some r_1) : Fn0 Try.prog 133 [ApiField.d f1, .ref (ApiExpr.d c1)] (.bool r_1) := by
  unfold m_subst_value_1 at hm
  refine fn_intro Try.func133 rfl Try.ntmps133 rfl fun H0 fr w0 => ?_
  refine g_seq ?_
  refine g_region ?_
  refine go_p rfl rfl rfl (o_box rfl rfl) ?_
  refine go_p rfl rfl rfl (o_assign rfl) ?_
  refine go_nil ?_
  refine g_seq ?_
  refine g_region ?_
  refine go_p rfl rfl rfl (o_load_agg Try.isAgg37 Try.sizeOf37 rfl rfl) ?_
  refine go_p rfl rfl rfl (o_fieldAddr fi_102_2 rfl rfl rfl) ?_
  refine go_p rfl rfl rfl (o_load Try.isAgg3 rfl rfl) ?_
  obtain ⟨x1, hx1, hm⟩ := bind_some hm
  refine go_p rfl rfl rfl (o_call0 Try.call101 rfl (hself hx1)) ?_
  refine go_p rfl rfl rfl (o_not rfl) ?_
  refine go_p rfl rfl rfl (o_assign rfl) ?_
  refine go_nil ?_
  refine g_ret ?_
  exact retK (ret_one' rfl (ret_tmp rfl) (perm_drop _)) (congrArg (fun (p : Bool) => (.bool p : D)) (some_eq hm))
def m_subst_valueF (self : ApiExpr → Int → Option Bool) (e1 : ApiExpr) (i1 : Int)  : Option Bool :=
  (idx e1.l i1).bind fun x1 =>
  (bif (decide (x1.kind = 1)) then
    some (decide (x1.kind = 1))
  else
    bif (decide (x1.kind = 2)) then
      some (decide (x1.kind = 2))
    else
      bif (decide (x1.kind = 3)) then
        some (decide (x1.kind = 3))
      else
        some (decide (x1.kind = 5)) : Option Bool).bind fun x2 =>
  bif x2 then
    some true
  else
    bif (decide (x1.kind = 11)) then
      (m_slices_ContainsFunc_api_Field_api_Field x1.l (fun y0 => m_subst_value_1 self y0 e1)).bind fun x3 =>
      some (!x3)
    else
      bif (decide (x1.kind = 13)) then
        (self e1 x1.a).bind fun x4 =>
        some x4
      else
        some false
def m_subst_value  : Nat → ApiExpr → Int → Option Bool
  | 0 => fun _ _ => none
  | n + 1 => fun e1 i1 => m_subst_valueF (m_subst_value n) e1 i1
theorem wF_subst_value  (self : ApiExpr → Int → Option Bool) (hself : ∀ {e1 : ApiExpr} {i1 : Int} {r_1 : Bool}, self e1 i1 = some r_1 → Fn0 Try.prog 101 [ApiExpr.d e1, .i64 i1] (.bool r_1)) {e1 : ApiExpr} {i1 : Int} {r_1 : Bool} (hm : m_subst_valueF self e1 i1 = some r_1) : Fn0 Try.prog 101 [ApiExpr.d e1, .i64 i1] (.bool r_1) := by
  unfold m_subst_valueF at hm
  refine fn_intro Try.func101 rfl Try.ntmps101 rfl fun H0 fr w0 => ?_
  refine g_seq ?_
  refine g_region ?_
  refine go_p rfl rfl rfl (o_box rfl rfl) ?_
  refine go_p rfl rfl rfl (o_assign rfl) ?_
  refine go_nil ?_
  refine g_seq ?_
  refine g_seq ?_
  refine g_region ?_
  refine go_p rfl rfl rfl (o_fieldAddr fi_37_0 rfl rfl rfl) ?_
  refine go_p rfl rfl rfl (o_load Try.isAgg35 rfl rfl) ?_
  refine go_p rfl rfl rfl (o_move rfl) ?_
  obtain ⟨x1, hx1, hm⟩ := bind_some hm
  refine go_p rfl rfl rfl (o_indexAddr_m Try.runUnderlying35 Try.sizeOf40 rfl rfl hx1) ?_
  refine go_p rfl rfl rfl (o_load_agg Try.isAgg40 Try.sizeOf40 rfl rfl) ?_
  refine go_op rfl rfl rfl (o_alloc_own Try.zeroValue40 (cs := [.i64 0, .i64 0, .i64 0, .i64 0, .i64 0, .str ([] : List UInt8), .str ([] : List UInt8), .list 3 ApiField.d [], .i64 0]) rfl) ?_
  rintro _ _ ⟨b1, rfl, rfl⟩
  refine go_u rfl rfl (o_store_box 0 Try.sizeOf40 rfl rfl rfl rfl rfl rfl rfl rfl (Nat.le_of_ble_eq_true rfl)) ?_
  rintro _ _ rfl
  refine go_ms (ms' := [box b1 40 [_, _, _, _, _, _, _, _, _]]) rfl ?_
  refine go_nil ?_
  refine g_seq ?_
  refine g_region ?_
  refine go_p rfl rfl rfl (o_fieldAddr_box fi_40_0 rfl) ?_
  refine go_p rfl rfl rfl (o_load_box 0 Try.isAgg3 rfl rfl rfl rfl) ?_
  refine go_nil ?_
  refine g_block ?_
  refine g_seq ?_
  refine g_seq ?_
  refine g_region ?_
  refine go_p rfl rfl rfl (o_cmp rfl rfl rfl) ?_
  refine go_p rfl rfl rfl (o_assign rfl) ?_
  refine go_nil ?_
  obtain ⟨o_1, hj1, hm1⟩ := bind_some hm
  refine g_cut_m [(2, _), (5, _), (12, _)] [(0, _)] (fun (st : Bool) (hid : Unit) => match st, hid with | x2, _ => [(13, .bool x2)]) (fun F (st : Bool) (hid : Unit) => match st, hid with | x2, _ => [(nthF F 0)]) (fun st => st = o_1) ⟨rfl, rfl, rfl, trivial⟩ ⟨rfl, trivial⟩ ?_ ?_
  · skip
    refine g_cond rfl (fun hc1 => ?_) (fun hc1 => ?_)
    · replace hj1 := cond_t hc1 hj1
      refine g_skip ?_
      exact ⟨_, (), some_eq hj1, ⟨rfl, trivial⟩, ⟨rfl, rfl, rfl, trivial⟩, [], rfl⟩
    · replace hj1 := cond_f hc1 hj1
      refine g_seq ?_
      refine g_region ?_
      refine go_p rfl rfl rfl (o_cmp rfl rfl rfl) ?_
      refine go_p rfl rfl rfl (o_assign rfl) ?_
      refine go_nil ?_
      refine g_cond rfl (fun hc2 => ?_) (fun hc2 => ?_)
      · replace hj1 := cond_t hc2 hj1
        refine g_skip ?_
        exact ⟨_, (), some_eq hj1, ⟨rfl, trivial⟩, ⟨rfl, rfl, rfl, trivial⟩, [], rfl⟩
      · replace hj1 := cond_f hc2 hj1
        refine g_seq ?_
        refine g_region ?_
        refine go_p rfl rfl rfl (o_cmp rfl rfl rfl) ?_
        refine go_p rfl rfl rfl (o_assign rfl) ?_
        refine go_nil ?_
        refine g_cond rfl (fun hc3 => ?_) (fun hc3 => ?_)
        · replace hj1 := cond_t hc3 hj1
          refine g_skip ?_
          exact ⟨_, (), some_eq hj1, ⟨rfl, trivial⟩, ⟨rfl, rfl, rfl, trivial⟩, [], rfl⟩
        · replace hj1 := cond_f hc3 hj1
          refine g_region ?_
          refine go_p rfl rfl rfl (o_cmp rfl rfl rfl) ?_
          refine go_p rfl rfl rfl (o_assign rfl) ?_
          refine go_nil ?_
          exact ⟨_, (), some_eq hj1, ⟨rfl, trivial⟩, ⟨rfl, rfl, rfl, trivial⟩, [], rfl⟩
  · rintro x2 _ hst
    subst hst
    refine k_norm (L' := [(13, .bool x2), (2, _), (5, _), (12, _)]) (ms' := [_]) rfl rfl ?_
    refine g_cond rfl (fun hc4 => ?_) (fun hc4 => ?_)
    · replace hm1 := cond_t hc4 hm1
      refine g_seq ?_
      refine g_region ?_
      refine go_p rfl rfl rfl (o_assign rfl) ?_
      refine go_nil ?_
      refine g_ret ?_
      exact retK (ret_one' rfl (ret_tmp rfl) (perm_drop _)) (congrArg (fun (p : Bool) => (.bool p : D)) (some_eq hm1))
    · replace hm1 := cond_f hc4 hm1
      refine g_seq ?_
      refine g_region ?_
      refine go_p rfl rfl rfl (o_cmp rfl rfl rfl) ?_
      refine go_p rfl rfl rfl (o_assign rfl) ?_
      refine go_nil ?_
      refine g_cond rfl (fun hc5 => ?_) (fun hc5 => ?_)
      · replace hm1 := cond_t hc5 hm1
        refine g_seq ?_
        refine g_region ?_
        refine go_p rfl rfl rfl (o_fieldAddr_box fi_40_7 rfl) ?_
        refine go_p rfl rfl rfl (o_load_box 0 Try.isAgg38 rfl rfl rfl rfl) ?_
        refine go_p rfl rfl rfl (o_makeFunc rfl rfl) ?_
        obtain ⟨x3, hx2, hm1⟩ := bind_some hm1
        refine go_p rfl rfl rfl (o_call0 Try.call132 rfl (w_slices_ContainsFunc_api_Field_api_Field (fun _ _ h => fv_clo Try.call133 (w_subst_value_1 self (fun h => hself h) h)) hx2)) ?_
        refine go_p rfl rfl rfl (o_not rfl) ?_
        refine go_p rfl rfl rfl (o_assign rfl) ?_
        refine go_nil ?_
        refine g_ret ?_
        exact retK (ret_one' rfl (ret_tmp rfl) (perm_drop _)) (congrArg (fun (p : Bool) => (.bool p : D)) (some_eq hm1))
      · replace hm1 := cond_f hc5 hm1
        refine g_seq ?_
        refine g_region ?_
        refine go_p rfl rfl rfl (o_cmp rfl rfl rfl) ?_
        refine go_p rfl rfl rfl (o_assign rfl) ?_
        refine go_nil ?_
        refine g_cond rfl (fun hc6 => ?_) (fun hc6 => ?_)
        · replace hm1 := cond_t hc6 hm1
          refine g_seq ?_
          refine g_region ?_
          refine go_p rfl rfl rfl (o_load_agg Try.isAgg37 Try.sizeOf37 rfl rfl) ?_
          refine go_p rfl rfl rfl (o_fieldAddr_box fi_40_1 rfl) ?_
          refine go_p rfl rfl rfl (o_load_box 0 Try.isAgg3 rfl rfl rfl rfl) ?_
          obtain ⟨x4, hx3, hm1⟩ := bind_some hm1
          refine go_p rfl rfl rfl (o_call0 Try.call101 rfl (hself hx3)) ?_
          refine go_p rfl rfl rfl (o_assign rfl) ?_
          refine go_nil ?_
          refine g_ret ?_
          exact retK (ret_one' rfl (ret_tmp rfl) (perm_drop _)) (congrArg (fun (p : Bool) => (.bool p : D)) (some_eq hm1))
        · replace hm1 := cond_f hc6 hm1
          refine g_skip ?_
          refine g_seq ?_
          refine g_region ?_
          refine go_p rfl rfl rfl (o_assign rfl) ?_
          refine go_nil ?_
          refine g_ret ?_
          exact retK (ret_one' rfl (ret_tmp rfl) (perm_drop _)) (congrArg (fun (p : Bool) => (.bool p : D)) (some_eq hm1))
theorem wn_subst_value  : ∀ (n : Nat) {e1 : ApiExpr} {i1 : Int} {r_1 : Bool}, m_subst_value n e1 i1 = some r_1 → Fn0 Try.prog 101 [ApiExpr.d e1, .i64 i1] (.bool r_1)
  | 0 => by intros; rename_i h; cases h
  | n + 1 => by intros; rename_i h; exact wF_subst_value (m_subst_value n) (fun h => wn_subst_value n h) h
theorem w_subst_value  {e1 : ApiExpr} {i1 : Int} {r_1 : Bool} (hm : m_subst_value FU e1 i1 = some r_1) : Fn0 Try.prog 101 [ApiExpr.d e1, .i64 i1] (.bool r_1) := wn_subst_value FU hm
def m_subst_Value (e1 : ApiExpr) : Option Bool :=
  (m_tree_May e1).bind fun x1 =>
  (bif (decide (x1 = 0)) then (grd (InR ((e1.l.length : Int) - 1)) <|
  (m_subst_value FU e1 ((e1.l.length : Int) - 1)).bind fun x2 =>
  some x2) else (some false)).bind fun p1 =>
  some p1
theorem w_subst_Value {e1 : ApiExpr} {r_1 : Bool} (hm : m_subst_Value e1 = some r_1) : Fn0 Try.prog 65 [ApiExpr.d e1] (.bool r_1) := by
  unfold m_subst_Value at hm
  refine fn_intro Try.func65 rfl Try.ntmps65 rfl fun H0 fr w0 => ?_
  refine g_seq ?_
  refine g_region ?_
  refine go_p rfl rfl rfl (o_box rfl rfl) ?_
  refine go_p rfl rfl rfl (o_assign rfl) ?_
  refine go_nil ?_
  refine g_seq ?_
  refine g_region ?_
  refine go_p rfl rfl rfl (o_load_agg Try.isAgg37 Try.sizeOf37 rfl rfl) ?_
  obtain ⟨x1, hx1, hm⟩ := bind_some hm
  refine go_p rfl rfl rfl (o_call0 Try.call28 rfl (w_tree_May hx1)) ?_
  refine go_p rfl rfl rfl (o_cmp rfl rfl rfl) ?_
  refine go_p rfl rfl rfl (o_move rfl) ?_
  obtain ⟨p1, hp_1, hm⟩ := bind_some hm
  refine go_two [] 7 13 p1 (t := 6) trivial rfl (fun hg_1 hk1 => ?_) (fun hg_1 hk1 => ?_) ?_
  · replace hp_1 := cond_t hg_1 hp_1
    refine go_wantp rfl rfl rfl hg_1 rfl rfl (o_load_agg Try.isAgg37 Try.sizeOf37 rfl rfl) ?_
    refine go_wantp rfl rfl rfl hg_1 rfl rfl (o_fieldAddr fi_37_0 rfl rfl rfl) ?_
    refine go_wantp rfl rfl rfl hg_1 rfl rfl (o_load Try.isAgg35 rfl rfl) ?_
    refine go_wantp rfl rfl rfl hg_1 rfl rfl (o_len Try.runUnderlying35 rfl) ?_
    obtain ⟨hg2, hp_1⟩ := grd_some hp_1
    refine go_wantp rfl rfl rfl hg_1 rfl rfl (o_sub rfl rfl (i64_id hg2)) ?_
    obtain ⟨x2, hx3, hp_1⟩ := bind_some hp_1
    refine go_wantp rfl rfl rfl hg_1 rfl rfl (o_call0 Try.call101 rfl (w_subst_value hx3)) ?_
    refine go_p rfl rfl rfl (o_pickT rfl hg_1 rfl) ?_
    exact go_meet hk1 (congrArg (fun b => some (D.bool b)) (some_eq hp_1)) trivial
  · replace hp_1 := cond_f hg_1 hp_1
    refine go_skip rfl rfl rfl hg_1 rfl rfl ?_
    refine go_skip rfl rfl rfl hg_1 rfl rfl ?_
    refine go_skip rfl rfl rfl hg_1 rfl rfl ?_
    refine go_skip rfl rfl rfl hg_1 rfl rfl ?_
    refine go_skip rfl rfl rfl hg_1 rfl rfl ?_
    refine go_skip rfl rfl rfl hg_1 rfl rfl ?_
    refine go_p rfl rfl rfl (o_pickF rfl hg_1 rfl) ?_
    exact go_meet hk1 (congrArg (fun b => some (D.bool b)) (some_eq hp_1)) trivial
  refine go_p rfl rfl rfl (o_assign rfl) ?_
  refine go_nil ?_
  refine g_ret ?_
  exact retK (ret_one' rfl (ret_tmp rfl) (perm_drop _)) (congrArg (fun (p : Bool) => (.bool p : D)) (some_eq hm))
def m_syntagmalaw09_sum  : Option ApiExpr :=
  some (⟨[(⟨4, 0, 0, 0, 0, ([120] : List UInt8), ([] : List UInt8), ([] : List ApiField), 0⟩ : ApiNode), (⟨4, 0, 0, 0, 0, ([120] : List UInt8), ([] : List UInt8), ([] : List ApiField), 0⟩ : ApiNode), (⟨10, 0, 1, 0, 1, ([] : List UInt8), ([] : List UInt8), ([] : List ApiField), 0⟩ : ApiNode)]⟩ : ApiExpr)
theorem w_syntagmalaw09_sum  {r_1 : ApiExpr} (hm : m_syntagmalaw09_sum = some r_1) : Fn0 Try.prog 98 [] (ApiExpr.d r_1) := by
  unfold m_syntagmalaw09_sum at hm
  refine fn_intro Try.func98 rfl Try.ntmps98 rfl fun H0 fr w0 => ?_
  refine g_seq ?_
  refine g_region ?_
  refine go_op rfl rfl rfl (o_alloc_own Try.zeroValue37 (cs := [.list 9 ApiNode.d []]) rfl) ?_
  rintro _ _ ⟨b1, rfl, rfl⟩
  refine go_nil ?_
  refine g_seq ?_
  refine g_region ?_
  refine go_p rfl rfl rfl (o_build (zs := [.v (.int .i64 0), .v (.int .i64 0), .v (.int .i64 0), .v (.int .i64 0), .v (.int .i64 0), .str [], .str [], .list 3 ApiField.d [], .v (.int .i64 0)]) Try.runUnderlying40 Try.zeroValue40 (pl_40 _ Try.runUnderlying40) rfl rfl rfl rfl) ?_
  refine go_p rfl rfl rfl (o_build (zs := [.v (.int .i64 0), .v (.int .i64 0), .v (.int .i64 0), .v (.int .i64 0), .v (.int .i64 0), .str [], .str [], .list 3 ApiField.d [], .v (.int .i64 0)]) Try.runUnderlying40 Try.zeroValue40 (pl_40 _ Try.runUnderlying40) rfl rfl rfl rfl) ?_
  refine go_p rfl rfl rfl (o_build (zs := [.v (.int .i64 0), .v (.int .i64 0), .v (.int .i64 0), .v (.int .i64 0), .v (.int .i64 0), .str [], .str [], .list 3 ApiField.d [], .v (.int .i64 0)]) Try.runUnderlying40 Try.zeroValue40 (pl_40 _ Try.runUnderlying40) rfl rfl rfl rfl) ?_
  refine go_p rfl rfl rfl (o_buildSlice (xs := [_, _, _]) (f := ApiNode.d) (l := [(⟨4, 0, 0, 0, 0, ([120] : List UInt8), ([] : List UInt8), ([] : List ApiField), 0⟩ : ApiNode), (⟨4, 0, 0, 0, 0, ([120] : List UInt8), ([] : List UInt8), ([] : List ApiField), 0⟩ : ApiNode), (⟨10, 0, 1, 0, 1, ([] : List UInt8), ([] : List UInt8), ([] : List ApiField), 0⟩ : ApiNode)]) Try.runUnderlying35 Try.sizeOf40 Try.zeroValue40 rfl rfl rfl (fun _ => ⟨rfl, rfl, rfl⟩) rfl) ?_
  refine go_p rfl rfl rfl (o_build (zs := [.list 9 ApiNode.d []]) Try.runUnderlying37 Try.zeroValue37 (pl_37 _ Try.runUnderlying37) rfl rfl rfl rfl) ?_
  refine go_u rfl rfl (o_store_box 0 Try.sizeOf37 rfl rfl rfl rfl rfl rfl rfl rfl (Nat.le_of_ble_eq_true rfl)) ?_
  rintro _ _ rfl
  refine go_ms (ms' := [box b1 37 [_]]) rfl ?_
  refine go_nil ?_
  refine g_ret ?_
  exact retK (ret_one' rfl (ret_cell 0 rfl rfl rfl Try.isAgg37 Try.sizeOf37 rfl) (perm_drop _)) (congrArg (fun (p : ApiExpr) => (ApiExpr.d p : D)) (some_eq hm))
def m_syntagmalaw09_works  : Option Bool :=
  (m_syntagmalaw09_sum).bind fun x1 =>
  (m_subst_Put x1 ([120] : List UInt8) (⟨[(⟨1, 0, 0, 0, 5, ([] : List UInt8), ([] : List UInt8), ([] : List ApiField), 0⟩ : ApiNode)]⟩ : ApiExpr)).bind fun (x2, x3) =>
  (bif ((decide (x3 = 0)) && (decide ((x2.l.length : Int) = 3))) then ((idx x2.l 0).bind fun x4 =>
  some (decide (x4.kind = 1))) else (some false)).bind fun p1 =>
  (bif p1 then ((idx x2.l 1).bind fun x5 =>
  some (decide (x5.n_ = 5))) else (some false)).bind fun p2 =>
  (bif p2 then ((m_subst_Value (⟨[(⟨1, 0, 0, 0, 5, ([] : List UInt8), ([] : List UInt8), ([] : List ApiField), 0⟩ : ApiNode)]⟩ : ApiExpr)).bind fun x6 =>
  some x6) else (some false)).bind fun p3 =>
  (bif p3 then ((m_subst_Value (⟨x2.l⟩ : ApiExpr)).bind fun x7 =>
  some (!x7)) else (some false)).bind fun p4 =>
  some p4
theorem w_syntagmalaw09_works  {r_1 : Bool} (hm : m_syntagmalaw09_works = some r_1) : Fn0 Try.prog 60 [] (.bool r_1) := by
  unfold m_syntagmalaw09_works at hm
  refine fn_intro Try.func60 rfl Try.ntmps60 rfl fun H0 fr w0 => ?_
  refine g_seq ?_
  refine g_region ?_
  refine go_p rfl rfl rfl (o_assign rfl) ?_
  refine go_nil ?_
  refine g_seq ?_
  refine g_region ?_
  refine go_p rfl rfl rfl (o_build (zs := [.v (.int .i64 0), .v (.int .i64 0), .v (.int .i64 0), .v (.int .i64 0), .v (.int .i64 0), .str [], .str [], .list 3 ApiField.d [], .v (.int .i64 0)]) Try.runUnderlying40 Try.zeroValue40 (pl_40 _ Try.runUnderlying40) rfl rfl rfl rfl) ?_
  refine go_p rfl rfl rfl (o_buildSlice (xs := [_]) (f := ApiNode.d) (l := [(⟨1, 0, 0, 0, 5, ([] : List UInt8), ([] : List UInt8), ([] : List ApiField), 0⟩ : ApiNode)]) Try.runUnderlying35 Try.sizeOf40 Try.zeroValue40 rfl rfl rfl (fun _ => ⟨rfl, rfl, rfl⟩) rfl) ?_
  refine go_p rfl rfl rfl (o_build (zs := [.list 9 ApiNode.d []]) Try.runUnderlying37 Try.zeroValue37 (pl_37 _ Try.runUnderlying37) rfl rfl rfl rfl) ?_
  refine go_op rfl rfl rfl (o_alloc_own Try.zeroValue37 (cs := [.list 9 ApiNode.d []]) rfl) ?_
  rintro _ _ ⟨b1, rfl, rfl⟩
  refine go_u rfl rfl (o_store_box 0 Try.sizeOf37 rfl rfl rfl rfl rfl rfl rfl rfl (Nat.le_of_ble_eq_true rfl)) ?_
  rintro _ _ rfl
  refine go_ms (ms' := [box b1 37 [_]]) rfl ?_
  refine go_nil ?_
  refine g_seq ?_
  obtain ⟨x1, hx1, hm⟩ := bind_some hm
  obtain ⟨⟨x2, x3⟩, hx2, hm⟩ := bind_some hm
  refine g_draw_c [6, 7] [0, 1, 2, 3, 4, 5, 8] [1] Try_mixed (by decide +kernel) (by decide +kernel) rfl ?_
  refine gde_p rfl rfl rfl rfl rfl rfl (o_call0 Try.call98 rfl (w_syntagmalaw09_sum hx1)) ?_
  refine gde_f rfl rfl rfl rfl rfl (o_load_box_agg 0 Try.isAgg37 Try.sizeOf37 rfl rfl rfl rfl (Nat.le_of_ble_eq_true rfl)) ?_
  refine gde_p rfl rfl rfl rfl rfl rfl (o_call0 Try.call56 rfl (w_subst_Put hx2)) ?_
  refine gde_p rfl rfl rfl rfl rfl rfl (o_move rfl) ?_
  refine gde_p rfl rfl rfl rfl rfl rfl (o_extract rfl rfl) ?_
  refine gde_p rfl rfl rfl rfl rfl rfl (o_extract rfl rfl) ?_
  refine gde_e rfl ?_
  refine gde_e rfl ?_
  refine gde_p rfl rfl rfl rfl rfl rfl (o_assign rfl) ?_
  refine gde_nil ?_
  refine gde2_t rfl rfl rfl rfl (o_alloc_own Try.zeroValue37 (cs := [.list 9 ApiNode.d []]) rfl) ?_
  rintro _ _ ⟨b2, rfl, rfl⟩
  refine ⟨⟨trivial, o_load_box_agg 1 Try.isAgg37 Try.sizeOf37 rfl rfl rfl rfl (Nat.le_of_ble_eq_true rfl)⟩, ?_⟩
  refine gde2_u rfl rfl rfl (o_store_box 0 Try.sizeOf37 rfl rfl rfl rfl rfl rfl rfl rfl (Nat.le_of_ble_eq_true rfl)) ?_
  rintro _ _ rfl
  refine ⟨⟨trivial, o_load_box_agg 1 Try.isAgg37 Try.sizeOf37 rfl rfl rfl rfl (Nat.le_of_ble_eq_true rfl)⟩, ?_⟩
  refine gde2_nil ?_
  refine g_seq ?_
  refine g_region ?_
  refine go_p rfl rfl rfl (o_move rfl) ?_
  refine go_p rfl rfl rfl (o_cmp rfl rfl rfl) ?_
  refine go_p rfl rfl rfl (o_move rfl) ?_
  apply go_and [(1, _), (2, _)] 5 20 (t := 15) ⟨rfl, rfl, trivial⟩ rfl
  · intro hg_1 hk1
    refine go_wantp rfl rfl rfl hg_1 rfl rfl (o_fieldAddr_box fi_37_0 rfl) ?_
    refine go_wantp rfl rfl rfl hg_1 rfl rfl (o_load_box 0 Try.isAgg35 rfl rfl rfl rfl) ?_
    refine go_wantp rfl rfl rfl hg_1 rfl rfl (o_len Try.runUnderlying35 rfl) ?_
    refine go_wantp rfl rfl rfl hg_1 rfl rfl (o_cmp rfl rfl rfl) ?_
    refine go_p rfl rfl rfl (o_pickT rfl hg_1 rfl) ?_
    exact go_meet hk1 (rfl) ⟨rfl, rfl, trivial⟩
  · intro hg_1 hk1
    refine go_skip rfl rfl rfl hg_1 rfl rfl ?_
    refine go_skip rfl rfl rfl hg_1 rfl rfl ?_
    refine go_skip rfl rfl rfl hg_1 rfl rfl ?_
    refine go_skip rfl rfl rfl hg_1 rfl rfl ?_
    refine go_p rfl rfl rfl (o_pickF rfl hg_1 rfl) ?_
    exact go_meet hk1 (rfl) ⟨rfl, rfl, trivial⟩
  refine go_p rfl rfl rfl (o_move rfl) ?_
  obtain ⟨p1, hp_2, hm⟩ := bind_some hm
  refine go_two [(1, _), (2, _)] 7 28 p1 (t := 21) ⟨rfl, rfl, trivial⟩ rfl (fun hg_2 hk2 => ?_) (fun hg_2 hk2 => ?_) ?_
  · replace hp_2 := cond_t hg_2 hp_2
    refine go_wantp rfl rfl rfl hg_2 rfl rfl (o_fieldAddr_box fi_37_0 rfl) ?_
    refine go_wantp rfl rfl rfl hg_2 rfl rfl (o_load_box 0 Try.isAgg35 rfl rfl rfl rfl) ?_
    obtain ⟨x4, hx3, hp_2⟩ := bind_some hp_2
    refine go_wantp rfl rfl rfl hg_2 rfl rfl (o_indexAddr_m Try.runUnderlying35 Try.sizeOf40 rfl rfl hx3) ?_
    refine go_wantp rfl rfl rfl hg_2 rfl rfl (o_fieldAddr fi_40_0 rfl rfl rfl) ?_
    refine go_wantp rfl rfl rfl hg_2 rfl rfl (o_load Try.isAgg3 rfl rfl) ?_
    refine go_wantp rfl rfl rfl hg_2 rfl rfl (o_cmp rfl rfl rfl) ?_
    refine go_p rfl rfl rfl (o_pickT rfl hg_2 rfl) ?_
    exact go_meet hk2 (congrArg (fun b => some (D.bool b)) (some_eq hp_2)) ⟨rfl, rfl, trivial⟩
  · replace hp_2 := cond_f hg_2 hp_2
    refine go_skip rfl rfl rfl hg_2 rfl rfl ?_
    refine go_skip rfl rfl rfl hg_2 rfl rfl ?_
    refine go_skip rfl rfl rfl hg_2 rfl rfl ?_
    refine go_skip rfl rfl rfl hg_2 rfl rfl ?_
    refine go_skip rfl rfl rfl hg_2 rfl rfl ?_
    refine go_skip rfl rfl rfl hg_2 rfl rfl ?_
    refine go_p rfl rfl rfl (o_pickF rfl hg_2 rfl) ?_
    exact go_meet hk2 (congrArg (fun b => some (D.bool b)) (some_eq hp_2)) ⟨rfl, rfl, trivial⟩
  refine go_p rfl rfl rfl (o_move rfl) ?_
  obtain ⟨p2, hp_3, hm⟩ := bind_some hm
  refine go_two [(1, _), (2, _)] 7 36 p2 (t := 29) ⟨rfl, rfl, trivial⟩ rfl (fun hg_3 hk3 => ?_) (fun hg_3 hk3 => ?_) ?_
  · replace hp_3 := cond_t hg_3 hp_3
    refine go_wantp rfl rfl rfl hg_3 rfl rfl (o_fieldAddr_box fi_37_0 rfl) ?_
    refine go_wantp rfl rfl rfl hg_3 rfl rfl (o_load_box 0 Try.isAgg35 rfl rfl rfl rfl) ?_
    obtain ⟨x5, hx4, hp_3⟩ := bind_some hp_3
    refine go_wantp rfl rfl rfl hg_3 rfl rfl (o_indexAddr_m Try.runUnderlying35 Try.sizeOf40 rfl rfl hx4) ?_
    refine go_wantp rfl rfl rfl hg_3 rfl rfl (o_fieldAddr fi_40_4 rfl rfl rfl) ?_
    refine go_wantp rfl rfl rfl hg_3 rfl rfl (o_load Try.isAgg2 rfl rfl) ?_
    refine go_wantp rfl rfl rfl hg_3 rfl rfl (o_cmp rfl rfl rfl) ?_
    refine go_p rfl rfl rfl (o_pickT rfl hg_3 rfl) ?_
    exact go_meet hk3 (congrArg (fun b => some (D.bool b)) (some_eq hp_3)) ⟨rfl, rfl, trivial⟩
  · replace hp_3 := cond_f hg_3 hp_3
    refine go_skip rfl rfl rfl hg_3 rfl rfl ?_
    refine go_skip rfl rfl rfl hg_3 rfl rfl ?_
    refine go_skip rfl rfl rfl hg_3 rfl rfl ?_
    refine go_skip rfl rfl rfl hg_3 rfl rfl ?_
    refine go_skip rfl rfl rfl hg_3 rfl rfl ?_
    refine go_skip rfl rfl rfl hg_3 rfl rfl ?_
    refine go_p rfl rfl rfl (o_pickF rfl hg_3 rfl) ?_
    exact go_meet hk3 (congrArg (fun b => some (D.bool b)) (some_eq hp_3)) ⟨rfl, rfl, trivial⟩
  refine go_p rfl rfl rfl (o_move rfl) ?_
  obtain ⟨p3, hp_4, hm⟩ := bind_some hm
  refine go_two [(2, _)] 3 40 p3 (t := 37) ⟨rfl, trivial⟩ rfl (fun hg_4 hk4 => ?_) (fun hg_4 hk4 => ?_) ?_
  · replace hp_4 := cond_t hg_4 hp_4
    refine go_wantp rfl rfl rfl hg_4 rfl rfl (o_load_box_agg 1 Try.isAgg37 Try.sizeOf37 rfl rfl rfl rfl (Nat.le_of_ble_eq_true rfl)) ?_
    obtain ⟨x6, hx5, hp_4⟩ := bind_some hp_4
    refine go_wantp rfl rfl rfl hg_4 rfl rfl (o_call0 Try.call65 rfl (w_subst_Value hx5)) ?_
    refine go_p rfl rfl rfl (o_pickT rfl hg_4 rfl) ?_
    exact go_meet hk4 (congrArg (fun b => some (D.bool b)) (some_eq hp_4)) ⟨rfl, trivial⟩
  · replace hp_4 := cond_f hg_4 hp_4
    refine go_skip rfl rfl rfl hg_4 rfl rfl ?_
    refine go_skip rfl rfl rfl hg_4 rfl rfl ?_
    refine go_p rfl rfl rfl (o_pickF rfl hg_4 rfl) ?_
    exact go_meet hk4 (congrArg (fun b => some (D.bool b)) (some_eq hp_4)) ⟨rfl, trivial⟩
  refine go_p rfl rfl rfl (o_move rfl) ?_
  obtain ⟨p4, hp_5, hm⟩ := bind_some hm
  refine go_two [] 4 45 p4 (t := 41) trivial rfl (fun hg_5 hk5 => ?_) (fun hg_5 hk5 => ?_) ?_
  · replace hp_5 := cond_t hg_5 hp_5
    refine go_wantp rfl rfl rfl hg_5 rfl rfl (o_load_box_agg 0 Try.isAgg37 Try.sizeOf37 rfl rfl rfl rfl (Nat.le_of_ble_eq_true rfl)) ?_
    obtain ⟨x7, hx6, hp_5⟩ := bind_some hp_5
    refine go_wantp rfl rfl rfl hg_5 rfl rfl (o_call0 Try.call65 rfl (w_subst_Value hx6)) ?_
    refine go_wantp rfl rfl rfl hg_5 rfl rfl (o_not rfl) ?_
    refine go_p rfl rfl rfl (o_pickT rfl hg_5 rfl) ?_
    exact go_meet hk5 (congrArg (fun b => some (D.bool b)) (some_eq hp_5)) trivial
  · replace hp_5 := cond_f hg_5 hp_5
    refine go_skip rfl rfl rfl hg_5 rfl rfl ?_
    refine go_skip rfl rfl rfl hg_5 rfl rfl ?_
    refine go_skip rfl rfl rfl hg_5 rfl rfl ?_
    refine go_p rfl rfl rfl (o_pickF rfl hg_5 rfl) ?_
    exact go_meet hk5 (congrArg (fun b => some (D.bool b)) (some_eq hp_5)) trivial
  refine go_p rfl rfl rfl (o_assign rfl) ?_
  refine go_nil ?_
  refine g_ret ?_
  exact retK (ret_one' rfl (ret_tmp rfl) (perm_drop _)) (congrArg (fun (p : Bool) => (.bool p : D)) (some_eq hm))
def m_subst_Unfold (e1 : ApiExpr) : Option (ApiExpr × Int) :=
  (m_tree_May e1).bind fun x1 =>
  bif (!decide (x1 = 0)) then
    some ((⟨([] : List ApiNode)⟩ : ApiExpr), x1)
  else
    grd (InR ((e1.l.length : Int) - 1)) <|
    (idx e1.l ((e1.l.length : Int) - 1)).bind fun x2 =>
    bif (!decide (x2.kind = 8)) then
      some ((⟨([] : List ApiNode)⟩ : ApiExpr), 2)
    else
      (idx e1.l x2.a).bind fun x3 =>
      bif (decide ((x3.name : List UInt8) = x2.name)) then
        (m_subst_sub e1 x2.a).bind fun x4 =>
        (m_subst_made x4).bind fun (x5, x6) =>
        some ((⟨x5.l⟩ : ApiExpr), x6)
      else
        (m_subst_sub e1 x2.a).bind fun x7 =>
        (m_subst_sub e1 x3.a).bind fun x8 =>
        (m_tree_Join (⟨8, 0, 0, 0, 0, x2.name, ([] : List UInt8), ([] : List ApiField), x2.pos⟩ : ApiNode) [x7, x8]).bind fun x9 =>
        (m_tree_Join (⟨5, 0, 0, 0, 0, x3.name, ([] : List UInt8), ([] : List ApiField), x3.pos⟩ : ApiNode) [(⟨x9.l⟩ : ApiExpr)]).bind fun x10 =>
        (m_subst_made x10).bind fun (x11, x12) =>
        some ((⟨x11.l⟩ : ApiExpr), x12)
theorem w_subst_Unfold {e1 : ApiExpr} {r_1 : ApiExpr} {r_2 : Int} (hm : m_subst_Unfold e1 = some (r_1, r_2)) : Fn0 Try.prog 62 [ApiExpr.d e1] (.tup [ApiExpr.d r_1, .i64 r_2]) := by
  unfold m_subst_Unfold at hm
  refine fn_intro Try.func62 rfl Try.ntmps62 rfl fun H0 fr w0 => ?_
  refine g_seq ?_
  refine g_region ?_
  refine go_p rfl rfl rfl (o_box rfl rfl) ?_
  refine go_op rfl rfl rfl (o_alloc_own Try.zeroValue37 (cs := [.list 9 ApiNode.d []]) rfl) ?_
  rintro _ _ ⟨b1, rfl, rfl⟩
  refine go_p rfl rfl rfl (o_assign rfl) ?_
  refine go_nil ?_
  refine g_seq ?_
  refine g_seq ?_
  refine g_region ?_
  refine go_p rfl rfl rfl (o_load_agg Try.isAgg37 Try.sizeOf37 rfl rfl) ?_
  obtain ⟨x1, hx1, hm⟩ := bind_some hm
  refine go_p rfl rfl rfl (o_call0 Try.call28 rfl (w_tree_May hx1)) ?_
  refine go_p rfl rfl rfl (o_assign rfl) ?_
  refine go_nil ?_
  refine g_seq ?_
  refine g_region ?_
  refine go_p rfl rfl rfl (o_move rfl) ?_
  refine go_p rfl rfl rfl (o_cmp rfl rfl rfl) ?_
  refine go_nil ?_
  refine g_cond rfl (fun hc1 => ?_) (fun hc1 => ?_)
  · replace hm := cond_t hc1 hm
    refine g_seq ?_
    refine g_region ?_
    refine go_p rfl rfl rfl (o_build (zs := [.list 9 ApiNode.d []]) Try.runUnderlying37 Try.zeroValue37 (pl_37 _ Try.runUnderlying37) rfl rfl rfl rfl) ?_
    refine go_p rfl rfl rfl (o_move rfl) ?_
    refine go_u rfl rfl (o_store_box 0 Try.sizeOf37 rfl rfl rfl rfl rfl rfl rfl rfl (Nat.le_of_ble_eq_true rfl)) ?_
    rintro _ _ rfl
    refine go_ms (ms' := [box b1 37 [_]]) rfl ?_
    refine go_p rfl rfl rfl (o_assign rfl) ?_
    refine go_nil ?_
    refine g_ret ?_
    exact retK (ret_many (ds := [_, _]) rfl (by decide) ⟨ret_cell 0 rfl rfl rfl Try.isAgg37 Try.sizeOf37 rfl, ⟨ret_tmp rfl, rfl⟩⟩ (perm_drop _)) (congrArg (fun (p : (ApiExpr × Int)) => D.tup [ApiExpr.d p.1, .i64 p.2]) (some_eq hm))
  · replace hm := cond_f hc1 hm
    refine g_skip ?_
    refine g_seq ?_
    refine g_region ?_
    refine go_p rfl rfl rfl (o_fieldAddr fi_37_0 rfl rfl rfl) ?_
    refine go_p rfl rfl rfl (o_load Try.isAgg35 rfl rfl) ?_
    refine go_p rfl rfl rfl (o_fieldAddr fi_37_0 rfl rfl rfl) ?_
    refine go_p rfl rfl rfl (o_load Try.isAgg35 rfl rfl) ?_
    refine go_p rfl rfl rfl (o_len Try.runUnderlying35 rfl) ?_
    obtain ⟨hg2, hm⟩ := grd_some hm
    refine go_p rfl rfl rfl (o_sub rfl rfl (i64_id hg2)) ?_
    obtain ⟨x2, hx3, hm⟩ := bind_some hm
    refine go_p rfl rfl rfl (o_indexAddr_m Try.runUnderlying35 Try.sizeOf40 rfl rfl hx3) ?_
    refine go_p rfl rfl rfl (o_load_agg Try.isAgg40 Try.sizeOf40 rfl rfl) ?_
    refine go_op rfl rfl rfl (o_alloc_own Try.zeroValue40 (cs := [.i64 0, .i64 0, .i64 0, .i64 0, .i64 0, .str ([] : List UInt8), .str ([] : List UInt8), .list 3 ApiField.d [], .i64 0]) rfl) ?_
    rintro _ _ ⟨b2, rfl, rfl⟩
    refine go_u rfl rfl (o_store_box 0 Try.sizeOf40 rfl rfl rfl rfl rfl rfl rfl rfl (Nat.le_of_ble_eq_true rfl)) ?_
    rintro _ _ rfl
    refine go_ms (ms' := [box b2 40 [_, _, _, _, _, _, _, _, _], box b1 37 [_]]) rfl ?_
    refine go_nil ?_
    refine g_seq ?_
    refine g_seq ?_
    refine g_region ?_
    refine go_p rfl rfl rfl (o_fieldAddr_box fi_40_0 rfl) ?_
    refine go_p rfl rfl rfl (o_load_box 0 Try.isAgg3 rfl rfl rfl rfl) ?_
    refine go_p rfl rfl rfl (o_cmp rfl rfl rfl) ?_
    refine go_nil ?_
    refine g_cond rfl (fun hc2 => ?_) (fun hc2 => ?_)
    · replace hm := cond_t hc2 hm
      refine g_seq ?_
      refine g_region ?_
      refine go_p rfl rfl rfl (o_build (zs := [.list 9 ApiNode.d []]) Try.runUnderlying37 Try.zeroValue37 (pl_37 _ Try.runUnderlying37) rfl rfl rfl rfl) ?_
      refine go_u rfl rfl (o_store_box 1 Try.sizeOf37 rfl rfl rfl rfl rfl rfl rfl rfl (Nat.le_of_ble_eq_true rfl)) ?_
      rintro _ _ rfl
      refine go_ms (ms' := [box b2 40 [_, _, _, _, _, _, _, _, _], box b1 37 [_]]) rfl ?_
      refine go_p rfl rfl rfl (o_assign rfl) ?_
      refine go_nil ?_
      refine g_ret ?_
      exact retK (ret_many (ds := [_, _]) rfl (by decide) ⟨ret_cell 1 rfl rfl rfl Try.isAgg37 Try.sizeOf37 rfl, ⟨ret_tmp rfl, rfl⟩⟩ (perm_drop _)) (congrArg (fun (p : (ApiExpr × Int)) => D.tup [ApiExpr.d p.1, .i64 p.2]) (some_eq hm))
    · replace hm := cond_f hc2 hm
      refine g_skip ?_
      refine g_seq ?_
      refine g_region ?_
      refine go_p rfl rfl rfl (o_fieldAddr fi_37_0 rfl rfl rfl) ?_
      refine go_p rfl rfl rfl (o_load Try.isAgg35 rfl rfl) ?_
      refine go_p rfl rfl rfl (o_fieldAddr_box fi_40_1 rfl) ?_
      refine go_p rfl rfl rfl (o_load_box 0 Try.isAgg3 rfl rfl rfl rfl) ?_
      obtain ⟨x3, hx4, hm⟩ := bind_some hm
      refine go_p rfl rfl rfl (o_indexAddr_m Try.runUnderlying35 Try.sizeOf40 rfl rfl hx4) ?_
      refine go_p rfl rfl rfl (o_load_agg Try.isAgg40 Try.sizeOf40 rfl rfl) ?_
      refine go_op rfl rfl rfl (o_alloc_own Try.zeroValue40 (cs := [.i64 0, .i64 0, .i64 0, .i64 0, .i64 0, .str ([] : List UInt8), .str ([] : List UInt8), .list 3 ApiField.d [], .i64 0]) rfl) ?_
      rintro _ _ ⟨b3, rfl, rfl⟩
      refine go_u rfl rfl (o_store_box 0 Try.sizeOf40 rfl rfl rfl rfl rfl rfl rfl rfl (Nat.le_of_ble_eq_true rfl)) ?_
      rintro _ _ rfl
      refine go_ms (ms' := [box b3 40 [_, _, _, _, _, _, _, _, _], box b2 40 [_, _, _, _, _, _, _, _, _], box b1 37 [_]]) rfl ?_
      refine go_nil ?_
      refine g_seq ?_
      refine g_seq ?_
      refine g_region ?_
      refine go_p rfl rfl rfl (o_fieldAddr_box fi_40_5 rfl) ?_
      refine go_p rfl rfl rfl (o_load_box 0 Try.isAgg9 rfl rfl rfl rfl) ?_
      refine go_p rfl rfl rfl (o_fieldAddr_box fi_40_5 rfl) ?_
      refine go_p rfl rfl rfl (o_load_box 1 Try.isAgg9 rfl rfl rfl rfl) ?_
      refine go_p rfl rfl rfl (o_cmps rfl rfl rfl) ?_
      refine go_nil ?_
      refine g_cond rfl (fun hc3 => ?_) (fun hc3 => ?_)
      · replace hm := cond_t hc3 hm
        refine g_seq ?_
        refine g_region ?_
        refine go_p rfl rfl rfl (o_load_agg Try.isAgg37 Try.sizeOf37 rfl rfl) ?_
        refine go_p rfl rfl rfl (o_fieldAddr_box fi_40_1 rfl) ?_
        refine go_p rfl rfl rfl (o_load_box 1 Try.isAgg3 rfl rfl rfl rfl) ?_
        obtain ⟨x4, hx5, hm⟩ := bind_some hm
        refine go_p rfl rfl rfl (o_call0 Try.call99 rfl (w_subst_sub hx5)) ?_
        obtain ⟨⟨x5, x6⟩, hx6, hm⟩ := bind_some hm
        refine go_p rfl rfl rfl (o_call0 Try.call92 rfl (w_subst_made hx6)) ?_
        refine go_p rfl rfl rfl (o_extract rfl rfl) ?_
        refine go_p rfl rfl rfl (o_extract rfl rfl) ?_
        refine go_u rfl rfl (o_store_box 2 Try.sizeOf37 rfl rfl rfl rfl rfl rfl rfl rfl (Nat.le_of_ble_eq_true rfl)) ?_
        rintro _ _ rfl
        refine go_ms (ms' := [box b3 40 [_, _, _, _, _, _, _, _, _], box b2 40 [_, _, _, _, _, _, _, _, _], box b1 37 [_]]) rfl ?_
        refine go_p rfl rfl rfl (o_assign rfl) ?_
        refine go_nil ?_
        refine g_ret ?_
        exact retK (ret_many (ds := [_, _]) rfl (by decide) ⟨ret_cell 2 rfl rfl rfl Try.isAgg37 Try.sizeOf37 rfl, ⟨ret_tmp rfl, rfl⟩⟩ (perm_drop _)) (congrArg (fun (p : (ApiExpr × Int)) => D.tup [ApiExpr.d p.1, .i64 p.2]) (some_eq hm))
      · replace hm := cond_f hc3 hm
        refine g_skip ?_
        refine g_seq ?_
        obtain ⟨x7, hx7, hm⟩ := bind_some hm
        obtain ⟨x8, hx8, hm⟩ := bind_some hm
        obtain ⟨x9, hx9, hm⟩ := bind_some hm
        refine g_draw_f 16 [15] Try_mixed (by decide +kernel) (by decide +kernel) rfl (by decide +kernel) ?_
        refine gdf_p rfl rfl rfl rfl (o_fieldAddr_box fi_40_5 rfl) ?_
        refine gdf_p rfl rfl rfl rfl (o_load_box 1 Try.isAgg9 rfl rfl rfl rfl) ?_
        refine gdf_p rfl rfl rfl rfl (o_fieldAddr_box fi_40_8 rfl) ?_
        refine gdf_p rfl rfl rfl rfl (o_load_box 1 Try.isAgg3 rfl rfl rfl rfl) ?_
        refine gdf_p rfl rfl rfl rfl (o_build (zs := [.v (.int .i64 0), .v (.int .i64 0), .v (.int .i64 0), .v (.int .i64 0), .v (.int .i64 0), .str [], .str [], .list 3 ApiField.d [], .v (.int .i64 0)]) Try.runUnderlying40 Try.zeroValue40 (pl_40 _ Try.runUnderlying40) rfl rfl rfl rfl) ?_
        refine gdf_p rfl rfl rfl rfl (o_load_agg Try.isAgg37 Try.sizeOf37 rfl rfl) ?_
        refine gdf_p rfl rfl rfl rfl (o_fieldAddr_box fi_40_1 rfl) ?_
        refine gdf_p rfl rfl rfl rfl (o_load_box 1 Try.isAgg3 rfl rfl rfl rfl) ?_
        refine gdf_p rfl rfl rfl rfl (o_call0 Try.call99 rfl (w_subst_sub hx7)) ?_
        refine gdf_p rfl rfl rfl rfl (o_load_agg Try.isAgg37 Try.sizeOf37 rfl rfl) ?_
        refine gdf_p rfl rfl rfl rfl (o_fieldAddr_box fi_40_1 rfl) ?_
        refine gdf_p rfl rfl rfl rfl (o_load_box 0 Try.isAgg3 rfl rfl rfl rfl) ?_
        refine gdf_p rfl rfl rfl rfl (o_call0 Try.call99 rfl (w_subst_sub hx8)) ?_
        refine gdf_p rfl rfl rfl rfl (o_buildSlice (xs := [_, _]) (f := ApiExpr.d) (l := [_, _]) Try.runUnderlying49 Try.sizeOf37 Try.zeroValue37 rfl rfl rfl (fun _ => ⟨rfl, rfl, rfl⟩) rfl) ?_
        refine gdf_p rfl rfl rfl rfl (o_call0 Try.call35 rfl (w_tree_Join hx9)) ?_
        refine gdf_fresh (R := fun d A => ∃ b, d = .v (.pointer (some ⟨b, 0, none⟩)) ∧ A = box b 37 [.list 9 ApiNode.d []]) rfl rfl rfl (OpT.mono (o_alloc_own Try.zeroValue37 (cs := [.list 9 ApiNode.d []]) rfl) (by rintro d ms' ⟨b, rfl, rfl⟩; exact ⟨_, ⟨b, rfl, rfl⟩, rfl⟩)) ?_
        refine gdf_nil ?_
        rintro _ _ ⟨b4, rfl, rfl⟩
        refine go_u rfl rfl (o_store_box 0 Try.sizeOf37 rfl rfl rfl rfl rfl rfl rfl rfl (Nat.le_of_ble_eq_true rfl)) ?_
        rintro _ _ rfl
        refine go_ms (ms' := [box b4 37 [_], box b3 40 [_, _, _, _, _, _, _, _, _], box b2 40 [_, _, _, _, _, _, _, _, _], box b1 37 [_]]) rfl ?_
        refine go_nil ?_
        refine g_seq ?_
        refine g_region ?_
        refine go_p rfl rfl rfl (o_fieldAddr_box fi_40_5 rfl) ?_
        refine go_p rfl rfl rfl (o_load_box 1 Try.isAgg9 rfl rfl rfl rfl) ?_
        refine go_p rfl rfl rfl (o_fieldAddr_box fi_40_8 rfl) ?_
        refine go_p rfl rfl rfl (o_load_box 1 Try.isAgg3 rfl rfl rfl rfl) ?_
        refine go_p rfl rfl rfl (o_build (zs := [.v (.int .i64 0), .v (.int .i64 0), .v (.int .i64 0), .v (.int .i64 0), .v (.int .i64 0), .str [], .str [], .list 3 ApiField.d [], .v (.int .i64 0)]) Try.runUnderlying40 Try.zeroValue40 (pl_40 _ Try.runUnderlying40) rfl rfl rfl rfl) ?_
        refine go_p rfl rfl rfl (o_load_box_agg 0 Try.isAgg37 Try.sizeOf37 rfl rfl rfl rfl (Nat.le_of_ble_eq_true rfl)) ?_
        refine go_p rfl rfl rfl (o_buildSlice (xs := [_]) (f := ApiExpr.d) (l := [(⟨x9.l⟩ : ApiExpr)]) Try.runUnderlying49 Try.sizeOf37 Try.zeroValue37 rfl rfl rfl (fun _ => ⟨rfl, rfl, rfl⟩) rfl) ?_
        obtain ⟨x10, hx10, hm⟩ := bind_some hm
        refine go_p rfl rfl rfl (o_call0 Try.call35 rfl (w_tree_Join hx10)) ?_
        obtain ⟨⟨x11, x12⟩, hx11, hm⟩ := bind_some hm
        refine go_p rfl rfl rfl (o_call0 Try.call92 rfl (w_subst_made hx11)) ?_
        refine go_p rfl rfl rfl (o_extract rfl rfl) ?_
        refine go_p rfl rfl rfl (o_extract rfl rfl) ?_
        refine go_u rfl rfl (o_store_box 3 Try.sizeOf37 rfl rfl rfl rfl rfl rfl rfl rfl (Nat.le_of_ble_eq_true rfl)) ?_
        rintro _ _ rfl
        refine go_ms (ms' := [box b4 37 [_], box b3 40 [_, _, _, _, _, _, _, _, _], box b2 40 [_, _, _, _, _, _, _, _, _], box b1 37 [_]]) rfl ?_
        refine go_p rfl rfl rfl (o_assign rfl) ?_
        refine go_nil ?_
        refine g_ret ?_
        exact retK (ret_many (ds := [_, _]) rfl (by decide) ⟨ret_cell 3 rfl rfl rfl Try.isAgg37 Try.sizeOf37 rfl, ⟨ret_tmp rfl, rfl⟩⟩ (perm_drop _)) (congrArg (fun (p : (ApiExpr × Int)) => D.tup [ApiExpr.d p.1, .i64 p.2]) (some_eq hm))
def m_syntagmaref09_RawUnfold (e1 : ApiExpr) : Option ApiExpr :=
  grd (InR ((e1.l.length : Int) - 1)) <|
  (idx e1.l ((e1.l.length : Int) - 1)).bind fun x1 =>
  (idx e1.l x1.a).bind fun x2 =>
  bif (decide ((x2.name : List UInt8) = x1.name)) then
    (m_syntagmaref05_Sub e1 x1.a).bind fun x3 =>
    some (⟨x3.l⟩ : ApiExpr)
  else
    (m_syntagmaref05_Sub e1 x1.a).bind fun x4 =>
    (m_syntagmaref05_Sub e1 x2.a).bind fun x5 =>
    (m_syntagmaref05_Join (⟨8, 0, 0, 0, 0, x1.name, ([] : List UInt8), ([] : List ApiField), x1.pos⟩ : ApiNode) [x4, x5]).bind fun x6 =>
    (m_syntagmaref05_Join (⟨5, 0, 0, 0, 0, x2.name, ([] : List UInt8), ([] : List ApiField), x2.pos⟩ : ApiNode) [(⟨x6.l⟩ : ApiExpr)]).bind fun x7 =>
    some (⟨x7.l⟩ : ApiExpr)
theorem w_syntagmaref09_RawUnfold {e1 : ApiExpr} {r_1 : ApiExpr} (hm : m_syntagmaref09_RawUnfold e1 = some r_1) : Fn0 Try.prog 100 [ApiExpr.d e1] (ApiExpr.d r_1) := by
  unfold m_syntagmaref09_RawUnfold at hm
  refine fn_intro Try.func100 rfl Try.ntmps100 rfl fun H0 fr w0 => ?_
  refine g_seq ?_
  refine g_region ?_
  refine go_p rfl rfl rfl (o_box rfl rfl) ?_
  refine go_op rfl rfl rfl (o_alloc_own Try.zeroValue37 (cs := [.list 9 ApiNode.d []]) rfl) ?_
  rintro _ _ ⟨b1, rfl, rfl⟩
  refine go_nil ?_
  refine g_seq ?_
  refine g_region ?_
  refine go_p rfl rfl rfl (o_fieldAddr fi_37_0 rfl rfl rfl) ?_
  refine go_p rfl rfl rfl (o_load Try.isAgg35 rfl rfl) ?_
  refine go_p rfl rfl rfl (o_fieldAddr fi_37_0 rfl rfl rfl) ?_
  refine go_p rfl rfl rfl (o_load Try.isAgg35 rfl rfl) ?_
  refine go_p rfl rfl rfl (o_len Try.runUnderlying35 rfl) ?_
  obtain ⟨hg1, hm⟩ := grd_some hm
  refine go_p rfl rfl rfl (o_sub rfl rfl (i64_id hg1)) ?_
  obtain ⟨x1, hx2, hm⟩ := bind_some hm
  refine go_p rfl rfl rfl (o_indexAddr_m Try.runUnderlying35 Try.sizeOf40 rfl rfl hx2) ?_
  refine go_p rfl rfl rfl (o_load_agg Try.isAgg40 Try.sizeOf40 rfl rfl) ?_
  refine go_op rfl rfl rfl (o_alloc_own Try.zeroValue40 (cs := [.i64 0, .i64 0, .i64 0, .i64 0, .i64 0, .str ([] : List UInt8), .str ([] : List UInt8), .list 3 ApiField.d [], .i64 0]) rfl) ?_
  rintro _ _ ⟨b2, rfl, rfl⟩
  refine go_u rfl rfl (o_store_box 0 Try.sizeOf40 rfl rfl rfl rfl rfl rfl rfl rfl (Nat.le_of_ble_eq_true rfl)) ?_
  rintro _ _ rfl
  refine go_ms (ms' := [box b2 40 [_, _, _, _, _, _, _, _, _], box b1 37 [_]]) rfl ?_
  refine go_nil ?_
  refine g_seq ?_
  refine g_region ?_
  refine go_p rfl rfl rfl (o_fieldAddr fi_37_0 rfl rfl rfl) ?_
  refine go_p rfl rfl rfl (o_load Try.isAgg35 rfl rfl) ?_
  refine go_p rfl rfl rfl (o_fieldAddr_box fi_40_1 rfl) ?_
  refine go_p rfl rfl rfl (o_load_box 0 Try.isAgg3 rfl rfl rfl rfl) ?_
  obtain ⟨x2, hx3, hm⟩ := bind_some hm
  refine go_p rfl rfl rfl (o_indexAddr_m Try.runUnderlying35 Try.sizeOf40 rfl rfl hx3) ?_
  refine go_p rfl rfl rfl (o_load_agg Try.isAgg40 Try.sizeOf40 rfl rfl) ?_
  refine go_op rfl rfl rfl (o_alloc_own Try.zeroValue40 (cs := [.i64 0, .i64 0, .i64 0, .i64 0, .i64 0, .str ([] : List UInt8), .str ([] : List UInt8), .list 3 ApiField.d [], .i64 0]) rfl) ?_
  rintro _ _ ⟨b3, rfl, rfl⟩
  refine go_u rfl rfl (o_store_box 0 Try.sizeOf40 rfl rfl rfl rfl rfl rfl rfl rfl (Nat.le_of_ble_eq_true rfl)) ?_
  rintro _ _ rfl
  refine go_ms (ms' := [box b3 40 [_, _, _, _, _, _, _, _, _], box b2 40 [_, _, _, _, _, _, _, _, _], box b1 37 [_]]) rfl ?_
  refine go_nil ?_
  refine g_seq ?_
  refine g_seq ?_
  refine g_region ?_
  refine go_p rfl rfl rfl (o_fieldAddr_box fi_40_5 rfl) ?_
  refine go_p rfl rfl rfl (o_load_box 0 Try.isAgg9 rfl rfl rfl rfl) ?_
  refine go_p rfl rfl rfl (o_fieldAddr_box fi_40_5 rfl) ?_
  refine go_p rfl rfl rfl (o_load_box 1 Try.isAgg9 rfl rfl rfl rfl) ?_
  refine go_p rfl rfl rfl (o_cmps rfl rfl rfl) ?_
  refine go_nil ?_
  refine g_cond rfl (fun hc1 => ?_) (fun hc1 => ?_)
  · replace hm := cond_t hc1 hm
    refine g_seq ?_
    refine g_region ?_
    refine go_p rfl rfl rfl (o_load_agg Try.isAgg37 Try.sizeOf37 rfl rfl) ?_
    refine go_p rfl rfl rfl (o_fieldAddr_box fi_40_1 rfl) ?_
    refine go_p rfl rfl rfl (o_load_box 1 Try.isAgg3 rfl rfl rfl rfl) ?_
    obtain ⟨x3, hx4, hm⟩ := bind_some hm
    refine go_p rfl rfl rfl (o_call0 Try.call43 rfl (w_syntagmaref05_Sub hx4)) ?_
    refine go_u rfl rfl (o_store_box 2 Try.sizeOf37 rfl rfl rfl rfl rfl rfl rfl rfl (Nat.le_of_ble_eq_true rfl)) ?_
    rintro _ _ rfl
    refine go_ms (ms' := [box b3 40 [_, _, _, _, _, _, _, _, _], box b2 40 [_, _, _, _, _, _, _, _, _], box b1 37 [_]]) rfl ?_
    refine go_nil ?_
    refine g_ret ?_
    exact retK (ret_one' rfl (ret_cell 2 rfl rfl rfl Try.isAgg37 Try.sizeOf37 rfl) (perm_drop _)) (congrArg (fun (p : ApiExpr) => (ApiExpr.d p : D)) (some_eq hm))
  · replace hm := cond_f hc1 hm
    refine g_skip ?_
    refine g_seq ?_
    obtain ⟨x4, hx5, hm⟩ := bind_some hm
    obtain ⟨x5, hx6, hm⟩ := bind_some hm
    obtain ⟨x6, hx7, hm⟩ := bind_some hm
    refine g_draw_f 16 [15] Try_mixed (by decide +kernel) (by decide +kernel) rfl (by decide +kernel) ?_
    refine gdf_p rfl rfl rfl rfl (o_fieldAddr_box fi_40_5 rfl) ?_
    refine gdf_p rfl rfl rfl rfl (o_load_box 1 Try.isAgg9 rfl rfl rfl rfl) ?_
    refine gdf_p rfl rfl rfl rfl (o_fieldAddr_box fi_40_8 rfl) ?_
    refine gdf_p rfl rfl rfl rfl (o_load_box 1 Try.isAgg3 rfl rfl rfl rfl) ?_
    refine gdf_p rfl rfl rfl rfl (o_build (zs := [.v (.int .i64 0), .v (.int .i64 0), .v (.int .i64 0), .v (.int .i64 0), .v (.int .i64 0), .str [], .str [], .list 3 ApiField.d [], .v (.int .i64 0)]) Try.runUnderlying40 Try.zeroValue40 (pl_40 _ Try.runUnderlying40) rfl rfl rfl rfl) ?_
    refine gdf_p rfl rfl rfl rfl (o_load_agg Try.isAgg37 Try.sizeOf37 rfl rfl) ?_
    refine gdf_p rfl rfl rfl rfl (o_fieldAddr_box fi_40_1 rfl) ?_
    refine gdf_p rfl rfl rfl rfl (o_load_box 1 Try.isAgg3 rfl rfl rfl rfl) ?_
    refine gdf_p rfl rfl rfl rfl (o_call0 Try.call43 rfl (w_syntagmaref05_Sub hx5)) ?_
    refine gdf_p rfl rfl rfl rfl (o_load_agg Try.isAgg37 Try.sizeOf37 rfl rfl) ?_
    refine gdf_p rfl rfl rfl rfl (o_fieldAddr_box fi_40_1 rfl) ?_
    refine gdf_p rfl rfl rfl rfl (o_load_box 0 Try.isAgg3 rfl rfl rfl rfl) ?_
    refine gdf_p rfl rfl rfl rfl (o_call0 Try.call43 rfl (w_syntagmaref05_Sub hx6)) ?_
    refine gdf_p rfl rfl rfl rfl (o_buildSlice (xs := [_, _]) (f := ApiExpr.d) (l := [_, _]) Try.runUnderlying49 Try.sizeOf37 Try.zeroValue37 rfl rfl rfl (fun _ => ⟨rfl, rfl, rfl⟩) rfl) ?_
    refine gdf_p rfl rfl rfl rfl (o_call0 Try.call36 rfl (w_syntagmaref05_Join hx7)) ?_
    refine gdf_fresh (R := fun d A => ∃ b, d = .v (.pointer (some ⟨b, 0, none⟩)) ∧ A = box b 37 [.list 9 ApiNode.d []]) rfl rfl rfl (OpT.mono (o_alloc_own Try.zeroValue37 (cs := [.list 9 ApiNode.d []]) rfl) (by rintro d ms' ⟨b, rfl, rfl⟩; exact ⟨_, ⟨b, rfl, rfl⟩, rfl⟩)) ?_
    refine gdf_nil ?_
    rintro _ _ ⟨b4, rfl, rfl⟩
    refine go_u rfl rfl (o_store_box 0 Try.sizeOf37 rfl rfl rfl rfl rfl rfl rfl rfl (Nat.le_of_ble_eq_true rfl)) ?_
    rintro _ _ rfl
    refine go_ms (ms' := [box b4 37 [_], box b3 40 [_, _, _, _, _, _, _, _, _], box b2 40 [_, _, _, _, _, _, _, _, _], box b1 37 [_]]) rfl ?_
    refine go_nil ?_
    refine g_seq ?_
    refine g_region ?_
    refine go_p rfl rfl rfl (o_fieldAddr_box fi_40_5 rfl) ?_
    refine go_p rfl rfl rfl (o_load_box 1 Try.isAgg9 rfl rfl rfl rfl) ?_
    refine go_p rfl rfl rfl (o_fieldAddr_box fi_40_8 rfl) ?_
    refine go_p rfl rfl rfl (o_load_box 1 Try.isAgg3 rfl rfl rfl rfl) ?_
    refine go_p rfl rfl rfl (o_build (zs := [.v (.int .i64 0), .v (.int .i64 0), .v (.int .i64 0), .v (.int .i64 0), .v (.int .i64 0), .str [], .str [], .list 3 ApiField.d [], .v (.int .i64 0)]) Try.runUnderlying40 Try.zeroValue40 (pl_40 _ Try.runUnderlying40) rfl rfl rfl rfl) ?_
    refine go_p rfl rfl rfl (o_load_box_agg 0 Try.isAgg37 Try.sizeOf37 rfl rfl rfl rfl (Nat.le_of_ble_eq_true rfl)) ?_
    refine go_p rfl rfl rfl (o_buildSlice (xs := [_]) (f := ApiExpr.d) (l := [(⟨x6.l⟩ : ApiExpr)]) Try.runUnderlying49 Try.sizeOf37 Try.zeroValue37 rfl rfl rfl (fun _ => ⟨rfl, rfl, rfl⟩) rfl) ?_
    obtain ⟨x7, hx8, hm⟩ := bind_some hm
    refine go_p rfl rfl rfl (o_call0 Try.call36 rfl (w_syntagmaref05_Join hx8)) ?_
    refine go_u rfl rfl (o_store_box 3 Try.sizeOf37 rfl rfl rfl rfl rfl rfl rfl rfl (Nat.le_of_ble_eq_true rfl)) ?_
    rintro _ _ rfl
    refine go_ms (ms' := [box b4 37 [_], box b3 40 [_, _, _, _, _, _, _, _, _], box b2 40 [_, _, _, _, _, _, _, _, _], box b1 37 [_]]) rfl ?_
    refine go_nil ?_
    refine g_ret ?_
    exact retK (ret_one' rfl (ret_cell 3 rfl rfl rfl Try.isAgg37 Try.sizeOf37 rfl) (perm_drop _)) (congrArg (fun (p : ApiExpr) => (ApiExpr.d p : D)) (some_eq hm))
def m_syntagmaref09_Unfold (e1 : ApiExpr) : Option (ApiExpr × Int) :=
  (m_syntagmaref05_May e1).bind fun x1 =>
  bif (!decide (x1 = 0)) then
    some ((⟨([] : List ApiNode)⟩ : ApiExpr), x1)
  else
    grd (InR ((e1.l.length : Int) - 1)) <|
    (idx e1.l ((e1.l.length : Int) - 1)).bind fun x2 =>
    bif (!decide (x2.kind = 8)) then
      some ((⟨([] : List ApiNode)⟩ : ApiExpr), 2)
    else
      (m_syntagmaref09_RawUnfold e1).bind fun x3 =>
      (m_syntagmaref05_May (⟨x3.l⟩ : ApiExpr)).bind fun x4 =>
      bif (!decide (x4 = 0)) then
        some ((⟨([] : List ApiNode)⟩ : ApiExpr), x4)
      else
        some ((⟨x3.l⟩ : ApiExpr), 0)
theorem w_syntagmaref09_Unfold {e1 : ApiExpr} {r_1 : ApiExpr} {r_2 : Int} (hm : m_syntagmaref09_Unfold e1 = some (r_1, r_2)) : Fn0 Try.prog 63 [ApiExpr.d e1] (.tup [ApiExpr.d r_1, .i64 r_2]) := by
  unfold m_syntagmaref09_Unfold at hm
  refine fn_intro Try.func63 rfl Try.ntmps63 rfl fun H0 fr w0 => ?_
  refine g_seq ?_
  refine g_region ?_
  refine go_p rfl rfl rfl (o_box rfl rfl) ?_
  refine go_op rfl rfl rfl (o_alloc_own Try.zeroValue37 (cs := [.list 9 ApiNode.d []]) rfl) ?_
  rintro _ _ ⟨b1, rfl, rfl⟩
  refine go_p rfl rfl rfl (o_assign rfl) ?_
  refine go_nil ?_
  refine g_seq ?_
  refine g_seq ?_
  refine g_region ?_
  refine go_p rfl rfl rfl (o_load_agg Try.isAgg37 Try.sizeOf37 rfl rfl) ?_
  obtain ⟨x1, hx1, hm⟩ := bind_some hm
  refine go_p rfl rfl rfl (o_call0 Try.call26 rfl (w_syntagmaref05_May hx1)) ?_
  refine go_p rfl rfl rfl (o_assign rfl) ?_
  refine go_nil ?_
  refine g_seq ?_
  refine g_region ?_
  refine go_p rfl rfl rfl (o_move rfl) ?_
  refine go_p rfl rfl rfl (o_cmp rfl rfl rfl) ?_
  refine go_nil ?_
  refine g_cond rfl (fun hc1 => ?_) (fun hc1 => ?_)
  · replace hm := cond_t hc1 hm
    refine g_seq ?_
    refine g_region ?_
    refine go_p rfl rfl rfl (o_build (zs := [.list 9 ApiNode.d []]) Try.runUnderlying37 Try.zeroValue37 (pl_37 _ Try.runUnderlying37) rfl rfl rfl rfl) ?_
    refine go_p rfl rfl rfl (o_move rfl) ?_
    refine go_u rfl rfl (o_store_box 0 Try.sizeOf37 rfl rfl rfl rfl rfl rfl rfl rfl (Nat.le_of_ble_eq_true rfl)) ?_
    rintro _ _ rfl
    refine go_ms (ms' := [box b1 37 [_]]) rfl ?_
    refine go_p rfl rfl rfl (o_assign rfl) ?_
    refine go_nil ?_
    refine g_ret ?_
    exact retK (ret_many (ds := [_, _]) rfl (by decide) ⟨ret_cell 0 rfl rfl rfl Try.isAgg37 Try.sizeOf37 rfl, ⟨ret_tmp rfl, rfl⟩⟩ (perm_drop _)) (congrArg (fun (p : (ApiExpr × Int)) => D.tup [ApiExpr.d p.1, .i64 p.2]) (some_eq hm))
  · replace hm := cond_f hc1 hm
    refine g_skip ?_
    refine g_seq ?_
    refine g_seq ?_
    refine g_region ?_
    refine go_p rfl rfl rfl (o_fieldAddr fi_37_0 rfl rfl rfl) ?_
    refine go_p rfl rfl rfl (o_load Try.isAgg35 rfl rfl) ?_
    refine go_p rfl rfl rfl (o_fieldAddr fi_37_0 rfl rfl rfl) ?_
    refine go_p rfl rfl rfl (o_load Try.isAgg35 rfl rfl) ?_
    refine go_p rfl rfl rfl (o_len Try.runUnderlying35 rfl) ?_
    obtain ⟨hg2, hm⟩ := grd_some hm
    refine go_p rfl rfl rfl (o_sub rfl rfl (i64_id hg2)) ?_
    obtain ⟨x2, hx3, hm⟩ := bind_some hm
    refine go_p rfl rfl rfl (o_indexAddr_m Try.runUnderlying35 Try.sizeOf40 rfl rfl hx3) ?_
    refine go_p rfl rfl rfl (o_fieldAddr fi_40_0 rfl rfl rfl) ?_
    refine go_p rfl rfl rfl (o_load Try.isAgg3 rfl rfl) ?_
    refine go_p rfl rfl rfl (o_cmp rfl rfl rfl) ?_
    refine go_nil ?_
    refine g_cond rfl (fun hc2 => ?_) (fun hc2 => ?_)
    · replace hm := cond_t hc2 hm
      refine g_seq ?_
      refine g_region ?_
      refine go_p rfl rfl rfl (o_build (zs := [.list 9 ApiNode.d []]) Try.runUnderlying37 Try.zeroValue37 (pl_37 _ Try.runUnderlying37) rfl rfl rfl rfl) ?_
      refine go_u rfl rfl (o_store_box 0 Try.sizeOf37 rfl rfl rfl rfl rfl rfl rfl rfl (Nat.le_of_ble_eq_true rfl)) ?_
      rintro _ _ rfl
      refine go_ms (ms' := [box b1 37 [_]]) rfl ?_
      refine go_p rfl rfl rfl (o_assign rfl) ?_
      refine go_nil ?_
      refine g_ret ?_
      exact retK (ret_many (ds := [_, _]) rfl (by decide) ⟨ret_cell 0 rfl rfl rfl Try.isAgg37 Try.sizeOf37 rfl, ⟨ret_tmp rfl, rfl⟩⟩ (perm_drop _)) (congrArg (fun (p : (ApiExpr × Int)) => D.tup [ApiExpr.d p.1, .i64 p.2]) (some_eq hm))
    · replace hm := cond_f hc2 hm
      refine g_skip ?_
      refine g_seq ?_
      refine g_region ?_
      refine go_p rfl rfl rfl (o_load_agg Try.isAgg37 Try.sizeOf37 rfl rfl) ?_
      obtain ⟨x3, hx4, hm⟩ := bind_some hm
      refine go_p rfl rfl rfl (o_call0 Try.call100 rfl (w_syntagmaref09_RawUnfold hx4)) ?_
      refine go_op rfl rfl rfl (o_alloc_own Try.zeroValue37 (cs := [.list 9 ApiNode.d []]) rfl) ?_
      rintro _ _ ⟨b2, rfl, rfl⟩
      refine go_u rfl rfl (o_store_box 0 Try.sizeOf37 rfl rfl rfl rfl rfl rfl rfl rfl (Nat.le_of_ble_eq_true rfl)) ?_
      rintro _ _ rfl
      refine go_ms (ms' := [box b2 37 [_], box b1 37 [_]]) rfl ?_
      refine go_nil ?_
      refine g_seq ?_
      refine g_seq ?_
      refine g_region ?_
      refine go_p rfl rfl rfl (o_load_box_agg 0 Try.isAgg37 Try.sizeOf37 rfl rfl rfl rfl (Nat.le_of_ble_eq_true rfl)) ?_
      obtain ⟨x4, hx5, hm⟩ := bind_some hm
      refine go_p rfl rfl rfl (o_call0 Try.call26 rfl (w_syntagmaref05_May hx5)) ?_
      refine go_p rfl rfl rfl (o_assign rfl) ?_
      refine go_nil ?_
      refine g_seq ?_
      refine g_region ?_
      refine go_p rfl rfl rfl (o_move rfl) ?_
      refine go_p rfl rfl rfl (o_cmp rfl rfl rfl) ?_
      refine go_nil ?_
      refine g_cond rfl (fun hc3 => ?_) (fun hc3 => ?_)
      · replace hm := cond_t hc3 hm
        refine g_seq ?_
        refine g_region ?_
        refine go_p rfl rfl rfl (o_build (zs := [.list 9 ApiNode.d []]) Try.runUnderlying37 Try.zeroValue37 (pl_37 _ Try.runUnderlying37) rfl rfl rfl rfl) ?_
        refine go_p rfl rfl rfl (o_move rfl) ?_
        refine go_u rfl rfl (o_store_box 1 Try.sizeOf37 rfl rfl rfl rfl rfl rfl rfl rfl (Nat.le_of_ble_eq_true rfl)) ?_
        rintro _ _ rfl
        refine go_ms (ms' := [box b2 37 [_], box b1 37 [_]]) rfl ?_
        refine go_p rfl rfl rfl (o_assign rfl) ?_
        refine go_nil ?_
        refine g_ret ?_
        exact retK (ret_many (ds := [_, _]) rfl (by decide) ⟨ret_cell 1 rfl rfl rfl Try.isAgg37 Try.sizeOf37 rfl, ⟨ret_tmp rfl, rfl⟩⟩ (perm_drop _)) (congrArg (fun (p : (ApiExpr × Int)) => D.tup [ApiExpr.d p.1, .i64 p.2]) (some_eq hm))
      · replace hm := cond_f hc3 hm
        refine g_skip ?_
        refine g_seq ?_
        refine g_region ?_
        refine go_p rfl rfl rfl (o_load_box_agg 0 Try.isAgg37 Try.sizeOf37 rfl rfl rfl rfl (Nat.le_of_ble_eq_true rfl)) ?_
        refine go_u rfl rfl (o_store_box 1 Try.sizeOf37 rfl rfl rfl rfl rfl rfl rfl rfl (Nat.le_of_ble_eq_true rfl)) ?_
        rintro _ _ rfl
        refine go_ms (ms' := [box b2 37 [_], box b1 37 [_]]) rfl ?_
        refine go_p rfl rfl rfl (o_assign rfl) ?_
        refine go_nil ?_
        refine g_ret ?_
        exact retK (ret_many (ds := [_, _]) rfl (by decide) ⟨ret_cell 1 rfl rfl rfl Try.isAgg37 Try.sizeOf37 rfl, ⟨ret_tmp rfl, rfl⟩⟩ (perm_drop _)) (congrArg (fun (p : (ApiExpr × Int)) => D.tup [ApiExpr.d p.1, .i64 p.2]) (some_eq hm))
def m_syntagmaref09_Value_l1 (self : ApiExpr → Int → Option Bool) (e1 : ApiExpr) (x1 : ApiNode) : Nat → Int → Option (Out Bool Unit)
  | 0, _ => none
  | n + 1, k1 =>
    bif (decide (k1 < (x1.l.length : Int))) then
      (idx x1.l k1).bind fun x2 =>
      (self e1 x2.at_).bind fun x3 =>
      bif (!x3) then
        some (Out.ret false)
      else
        grd (InR (k1 + 1)) <|
        m_syntagmaref09_Value_l1 self e1 x1 n (k1 + 1)
    else
      some (Out.go (()))
def m_syntagmaref09_ValueF (self : ApiExpr → Int → Option Bool) (e1 : ApiExpr) (i1 : Int)  : Option Bool :=
  (idx e1.l i1).bind fun x1 =>
  bif (decide (x1.kind = 11)) then
    ((m_syntagmaref09_Value_l1 self e1 x1 FU 0 : Option (Out Bool Unit))).bind (fun oo => oo.on (fun r1 => some r1) (fun _ =>
    some true))
  else
    (bif ((((decide (x1.kind = 1)) || (decide (x1.kind = 2))) || (decide (x1.kind = 3))) || (decide (x1.kind = 5))) then (some true) else ((bif (decide (x1.kind = 13)) then ((self e1 x1.a).bind fun x4 =>
    some x4) else (some false)).bind fun p2 =>
    some p2)).bind fun p1 =>
    some p1
def m_syntagmaref09_Value  : Nat → ApiExpr → Int → Option Bool
  | 0 => fun _ _ => none
  | n + 1 => fun e1 i1 => m_syntagmaref09_ValueF (m_syntagmaref09_Value n) e1 i1
theorem wF_syntagmaref09_Value  (self : ApiExpr → Int → Option Bool) (hself : ∀ {e1 : ApiExpr} {i1 : Int} {r_1 : Bool}, self e1 i1 = some r_1 → Fn0 Try.prog 64 [ApiExpr.d e1, .i64 i1] (.bool r_1)) {e1 : ApiExpr} {i1 : Int} {r_1 : Bool} (hm : m_syntagmaref09_ValueF self e1 i1 = some r_1) : Fn0 Try.prog 64 [ApiExpr.d e1, .i64 i1] (.bool r_1) := by
  unfold m_syntagmaref09_ValueF at hm
  refine fn_intro Try.func64 rfl Try.ntmps64 rfl fun H0 fr w0 => ?_
  refine g_seq ?_
  refine g_region ?_
  refine go_p rfl rfl rfl (o_box rfl rfl) ?_
  refine go_p rfl rfl rfl (o_assign rfl) ?_
  refine go_nil ?_
  refine g_seq ?_
  refine g_region ?_
  refine go_p rfl rfl rfl (o_fieldAddr fi_37_0 rfl rfl rfl) ?_
  refine go_p rfl rfl rfl (o_load Try.isAgg35 rfl rfl) ?_
  refine go_p rfl rfl rfl (o_move rfl) ?_
  obtain ⟨x1, hx1, hm⟩ := bind_some hm
  refine go_p rfl rfl rfl (o_indexAddr_m Try.runUnderlying35 Try.sizeOf40 rfl rfl hx1) ?_
  refine go_p rfl rfl rfl (o_load_agg Try.isAgg40 Try.sizeOf40 rfl rfl) ?_
  refine go_op rfl rfl rfl (o_alloc_own Try.zeroValue40 (cs := [.i64 0, .i64 0, .i64 0, .i64 0, .i64 0, .str ([] : List UInt8), .str ([] : List UInt8), .list 3 ApiField.d [], .i64 0]) rfl) ?_
  rintro _ _ ⟨b1, rfl, rfl⟩
  refine go_u rfl rfl (o_store_box 0 Try.sizeOf40 rfl rfl rfl rfl rfl rfl rfl rfl (Nat.le_of_ble_eq_true rfl)) ?_
  rintro _ _ rfl
  refine go_ms (ms' := [box b1 40 [_, _, _, _, _, _, _, _, _]]) rfl ?_
  refine go_nil ?_
  refine g_seq ?_
  refine g_seq ?_
  refine g_region ?_
  refine go_p rfl rfl rfl (o_fieldAddr_box fi_40_0 rfl) ?_
  refine go_p rfl rfl rfl (o_load_box 0 Try.isAgg3 rfl rfl rfl rfl) ?_
  refine go_p rfl rfl rfl (o_cmp rfl rfl rfl) ?_
  refine go_nil ?_
  refine g_cond rfl (fun hc1 => ?_) (fun hc1 => ?_)
  · replace hm := cond_t hc1 hm
    refine g_seq ?_
    refine g_seq ?_
    refine g_region ?_
    refine go_p rfl rfl rfl (o_assign rfl) ?_
    refine go_nil ?_
    obtain ⟨o_1, hj1, hm1⟩ := bind_some hm
    refine g_cut_m [] [(0, _)] (fun (st : Unit) (hid : Unit) => match st, hid with | _, _ => []) (fun F (st : Unit) (hid : Unit) => match st, hid with | _, _ => [(nthF F 0)]) (fun st => Out.go (st) = o_1) trivial ⟨rfl, trivial⟩ ?_ ?_
    · skip
      refine g_block ?_
      refine g_loop_m [(2, _), (5, _)] [(0, _)] (fun (st : Int) (hid : Unit) => match st, hid with | k1, _ => [(6, .i64 k1)]) (fun F (st : Int) (hid : Unit) => match st, hid with | k1, _ => [(nthF F 0)]) () hj1 (fun _ => rfl) ⟨rfl, rfl, trivial⟩ ⟨rfl, trivial⟩ ⟨rfl, trivial⟩ rfl ?_
      rintro n k1 _ hj1
      rw [m_syntagmaref09_Value_l1] at hj1
      refine g_norm (L' := [(6, .i64 k1), (2, _), (5, _)]) (ms' := [_]) rfl rfl ?_
      refine g_seq ?_
      refine g_seq ?_
      refine g_region ?_
      refine go_p rfl rfl rfl (o_move rfl) ?_
      refine go_p rfl rfl rfl (o_fieldAddr_box fi_40_7 rfl) ?_
      refine go_p rfl rfl rfl (o_load_box 0 Try.isAgg38 rfl rfl rfl rfl) ?_
      refine go_p rfl rfl rfl (o_len Try.runUnderlying38 rfl) ?_
      refine go_p rfl rfl rfl (o_cmp rfl rfl rfl) ?_
      refine go_nil ?_
      refine g_cond rfl (fun hc2 => ?_) (fun hc2 => ?_)
      · replace hj1 := cond_t hc2 hj1
        refine g_skip ?_
        refine g_seq ?_
        refine g_block ?_
        refine g_seq ?_
        obtain ⟨x2, hx2, hj1⟩ := bind_some hj1
        obtain ⟨x3, hx3, hj1⟩ := bind_some hj1
        refine g_draw 9 Try_mixed (by decide +kernel) ?_
        refine gd_p rfl rfl rfl (o_load_agg Try.isAgg37 Try.sizeOf37 rfl rfl) ?_
        refine gd_p rfl rfl rfl (o_fieldAddr_box fi_40_7 rfl) ?_
        refine gd_p rfl rfl rfl (o_load_box 0 Try.isAgg38 rfl rfl rfl rfl) ?_
        refine gd_p rfl rfl rfl (o_move rfl) ?_
        refine gd_p rfl rfl rfl (o_indexAddr_m Try.runUnderlying38 Try.sizeOf102 rfl rfl hx2) ?_
        refine gd_p rfl rfl rfl (o_fieldAddr fi_102_2 rfl rfl rfl) ?_
        refine gd_p rfl rfl rfl (o_load Try.isAgg3 rfl rfl) ?_
        refine gd_p rfl rfl rfl (o_call0 Try.call64 rfl (hself hx3)) ?_
        refine gd_p rfl rfl rfl (o_not rfl) ?_
        refine gd_nil ?_
        refine go_nil ?_
        refine g_cond rfl (fun hc3 => ?_) (fun hc3 => ?_)
        · replace hj1 := cond_t hc3 hj1
          refine g_seq ?_
          refine g_region ?_
          refine go_p rfl rfl rfl (o_assign rfl) ?_
          refine go_nil ?_
          refine g_ret ?_
          obtain rfl := some_eq hj1
          replace hm1 := on_ret hm1
          exact retK (ret_one' rfl (ret_tmp rfl) (perm_drop _)) (congrArg (fun (p : Bool) => (.bool p : D)) (some_eq hm1))
        · replace hj1 := cond_f hc3 hj1
          refine g_skip ?_
          refine g_region ?_
          refine go_p rfl rfl rfl (o_move rfl) ?_
          obtain ⟨hg4, hj1⟩ := grd_some hj1
          refine go_p rfl rfl rfl (o_add rfl rfl (i64_id hg4)) ?_
          refine go_p rfl rfl rfl (o_assign rfl) ?_
          refine go_nil ?_
          exact ⟨_, (), hj1, ⟨rfl, trivial⟩, ⟨rfl, rfl, trivial⟩, [], rfl⟩
      · replace hj1 := cond_f hc2 hj1
        refine g_exit ?_
        exact ⟨_, (), some_eq hj1, trivial, trivial, [], rfl⟩
    · rintro _ _ hst
      subst hst
      replace hm1 := on_go hm1
      refine k_norm (L' := []) (ms' := [_]) rfl rfl ?_
      refine g_seq ?_
      refine g_region ?_
      refine go_p rfl rfl rfl (o_assign rfl) ?_
      refine go_nil ?_
      refine g_ret ?_
      exact retK (ret_one' rfl (ret_tmp rfl) (perm_drop _)) (congrArg (fun (p : Bool) => (.bool p : D)) (some_eq hm1))
  · replace hm := cond_f hc1 hm
    refine g_skip ?_
    refine g_seq ?_
    refine g_region ?_
    refine go_p rfl rfl rfl (o_fieldAddr_box fi_40_0 rfl) ?_
    refine go_p rfl rfl rfl (o_load_box 0 Try.isAgg3 rfl rfl rfl rfl) ?_
    refine go_p rfl rfl rfl (o_cmp rfl rfl rfl) ?_
    refine go_p rfl rfl rfl (o_move rfl) ?_
    apply go_or [(2, _), (5, _)] 4 38 (t := 34) ⟨rfl, rfl, trivial⟩ rfl
    · intro hg_1 hk1
      refine go_wantp rfl rfl rfl hg_1 rfl rfl (o_fieldAddr_box fi_40_0 rfl) ?_
      refine go_wantp rfl rfl rfl hg_1 rfl rfl (o_load_box 0 Try.isAgg3 rfl rfl rfl rfl) ?_
      refine go_wantp rfl rfl rfl hg_1 rfl rfl (o_cmp rfl rfl rfl) ?_
      refine go_p rfl rfl rfl (o_pickF rfl hg_1 rfl) ?_
      exact go_meet hk1 (rfl) ⟨rfl, rfl, trivial⟩
    · intro hg_1 hk1
      refine go_skip rfl rfl rfl hg_1 rfl rfl ?_
      refine go_skip rfl rfl rfl hg_1 rfl rfl ?_
      refine go_skip rfl rfl rfl hg_1 rfl rfl ?_
      refine go_p rfl rfl rfl (o_pickT rfl hg_1 rfl) ?_
      exact go_meet hk1 (rfl) ⟨rfl, rfl, trivial⟩
    refine go_p rfl rfl rfl (o_move rfl) ?_
    apply go_or [(2, _), (5, _)] 4 43 (t := 39) ⟨rfl, rfl, trivial⟩ rfl
    · intro hg_2 hk2
      refine go_wantp rfl rfl rfl hg_2 rfl rfl (o_fieldAddr_box fi_40_0 rfl) ?_
      refine go_wantp rfl rfl rfl hg_2 rfl rfl (o_load_box 0 Try.isAgg3 rfl rfl rfl rfl) ?_
      refine go_wantp rfl rfl rfl hg_2 rfl rfl (o_cmp rfl rfl rfl) ?_
      refine go_p rfl rfl rfl (o_pickF rfl hg_2 rfl) ?_
      exact go_meet hk2 (rfl) ⟨rfl, rfl, trivial⟩
    · intro hg_2 hk2
      refine go_skip rfl rfl rfl hg_2 rfl rfl ?_
      refine go_skip rfl rfl rfl hg_2 rfl rfl ?_
      refine go_skip rfl rfl rfl hg_2 rfl rfl ?_
      refine go_p rfl rfl rfl (o_pickT rfl hg_2 rfl) ?_
      exact go_meet hk2 (rfl) ⟨rfl, rfl, trivial⟩
    refine go_p rfl rfl rfl (o_move rfl) ?_
    apply go_or [(2, _), (5, _)] 4 48 (t := 44) ⟨rfl, rfl, trivial⟩ rfl
    · intro hg_3 hk3
      refine go_wantp rfl rfl rfl hg_3 rfl rfl (o_fieldAddr_box fi_40_0 rfl) ?_
      refine go_wantp rfl rfl rfl hg_3 rfl rfl (o_load_box 0 Try.isAgg3 rfl rfl rfl rfl) ?_
      refine go_wantp rfl rfl rfl hg_3 rfl rfl (o_cmp rfl rfl rfl) ?_
      refine go_p rfl rfl rfl (o_pickF rfl hg_3 rfl) ?_
      exact go_meet hk3 (rfl) ⟨rfl, rfl, trivial⟩
    · intro hg_3 hk3
      refine go_skip rfl rfl rfl hg_3 rfl rfl ?_
      refine go_skip rfl rfl rfl hg_3 rfl rfl ?_
      refine go_skip rfl rfl rfl hg_3 rfl rfl ?_
      refine go_p rfl rfl rfl (o_pickT rfl hg_3 rfl) ?_
      exact go_meet hk3 (rfl) ⟨rfl, rfl, trivial⟩
    refine go_p rfl rfl rfl (o_move rfl) ?_
    obtain ⟨p1, hp_4, hm⟩ := bind_some hm
    refine go_two [] 10 59 p1 (t := 49) trivial rfl (fun hg_4 hk4 => ?_) (fun hg_4 hk4 => ?_) ?_
    · replace hp_4 := cond_t hg_4 hp_4
      refine go_skip rfl rfl rfl hg_4 rfl rfl ?_
      refine go_skip rfl rfl rfl hg_4 rfl rfl ?_
      refine go_skip rfl rfl rfl hg_4 rfl rfl ?_
      refine go_skip rfl rfl rfl hg_4 rfl rfl ?_
      refine go_skipu rfl rfl rfl rfl rfl ?_
      refine go_skipu rfl rfl rfl rfl rfl ?_
      refine go_skipu rfl rfl rfl rfl rfl ?_
      refine go_skipu rfl rfl rfl rfl rfl ?_
      refine go_skip rfl rfl rfl hg_4 rfl rfl ?_
      refine go_p rfl rfl rfl (o_pickT rfl hg_4 rfl) ?_
      exact go_meet hk4 (congrArg (fun b => some (D.bool b)) (some_eq hp_4)) trivial
    · replace hp_4 := cond_f hg_4 hp_4
      refine go_wantp rfl rfl rfl hg_4 rfl rfl (o_fieldAddr_box fi_40_0 rfl) ?_
      refine go_wantp rfl rfl rfl hg_4 rfl rfl (o_load_box 0 Try.isAgg3 rfl rfl rfl rfl) ?_
      refine go_wantp rfl rfl rfl hg_4 rfl rfl (o_cmp rfl rfl rfl) ?_
      refine go_wantp rfl rfl rfl hg_4 rfl rfl (o_move rfl) ?_
      obtain ⟨p2, hp_5, hp_4⟩ := bind_some hp_4
      refine go_two [(49, _)] 5 58 p2 (t := 53) ⟨rfl, trivial⟩ rfl (fun hg_5 hk5 => ?_) (fun hg_5 hk5 => ?_) ?_
      · replace hp_5 := cond_t hg_5 hp_5
        refine go_wantp rfl rfl rfl hg_5 rfl rfl (o_load_agg Try.isAgg37 Try.sizeOf37 rfl rfl) ?_
        refine go_wantp rfl rfl rfl hg_5 rfl rfl (o_fieldAddr_box fi_40_1 rfl) ?_
        refine go_wantp rfl rfl rfl hg_5 rfl rfl (o_load_box 0 Try.isAgg3 rfl rfl rfl rfl) ?_
        obtain ⟨x4, hx5, hp_5⟩ := bind_some hp_5
        refine go_wantp rfl rfl rfl hg_5 rfl rfl (o_call0 Try.call64 rfl (hself hx5)) ?_
        refine go_wantp rfl rfl rfl hg_4 rfl rfl (o_pickT rfl hg_5 rfl) ?_
        exact go_meet hk5 (congrArg (fun b => some (D.bool b)) (some_eq hp_5)) ⟨rfl, trivial⟩
      · replace hp_5 := cond_f hg_5 hp_5
        refine go_skip rfl rfl rfl hg_5 rfl rfl ?_
        refine go_skip rfl rfl rfl hg_5 rfl rfl ?_
        refine go_skip rfl rfl rfl hg_5 rfl rfl ?_
        refine go_skip rfl rfl rfl hg_5 rfl rfl ?_
        refine go_wantp rfl rfl rfl hg_4 rfl rfl (o_pickF rfl hg_5 rfl) ?_
        exact go_meet hk5 (congrArg (fun b => some (D.bool b)) (some_eq hp_5)) ⟨rfl, trivial⟩
      refine go_p rfl rfl rfl (o_pickF rfl hg_4 rfl) ?_
      exact go_meet hk4 (congrArg (fun b => some (D.bool b)) (some_eq hp_4)) trivial
    refine go_p rfl rfl rfl (o_assign rfl) ?_
    refine go_nil ?_
    refine g_ret ?_
    exact retK (ret_one' rfl (ret_tmp rfl) (perm_drop _)) (congrArg (fun (p : Bool) => (.bool p : D)) (some_eq hm))
theorem wn_syntagmaref09_Value  : ∀ (n : Nat) {e1 : ApiExpr} {i1 : Int} {r_1 : Bool}, m_syntagmaref09_Value n e1 i1 = some r_1 → Fn0 Try.prog 64 [ApiExpr.d e1, .i64 i1] (.bool r_1)
  | 0 => by intros; rename_i h; cases h
  | n + 1 => by intros; rename_i h; exact wF_syntagmaref09_Value (m_syntagmaref09_Value n) (fun h => wn_syntagmaref09_Value n h) h
theorem w_syntagmaref09_Value  {e1 : ApiExpr} {i1 : Int} {r_1 : Bool} (hm : m_syntagmaref09_Value FU e1 i1 = some r_1) : Fn0 Try.prog 64 [ApiExpr.d e1, .i64 i1] (.bool r_1) := wn_syntagmaref09_Value FU hm
def m_syntagmalaw09_SubstUnfolds (e1 : ApiExpr) : Option Bool :=
  (m_syntagmalaw05_Few (⟨e1.l⟩ : ApiExpr)).bind fun x1 =>
  (m_syntagmalaw05_Few (⟨x1.l⟩ : ApiExpr)).bind fun x2 =>
  (m_subst_Unfold x2).bind fun (x3, x4) =>
  (m_syntagmaref09_Unfold (⟨x1.l⟩ : ApiExpr)).bind fun (x5, x6) =>
  (m_syntagmaref05_May (⟨x1.l⟩ : ApiExpr)).bind fun x7 =>
  (bif (decide (x7 = 0)) then (grd (InR ((x1.l.length : Int) - 1)) <|
  (m_syntagmaref09_Value FU (⟨x1.l⟩ : ApiExpr) ((x1.l.length : Int) - 1)).bind fun x8 =>
  some x8) else (some false)).bind fun p1 =>
  (m_syntagmalaw09_same (⟨x3.l⟩ : ApiExpr) (⟨x5.l⟩ : ApiExpr)).bind fun x9 =>
  (bif (x9 && (decide (x4 = x6))) then ((m_syntagmalaw05_Few (⟨x1.l⟩ : ApiExpr)).bind fun x10 =>
  (m_subst_Value x10).bind fun x11 =>
  some (x11 == p1)) else (some false)).bind fun p2 =>
  (bif p2 then ((m_syntagmalaw09_works).bind fun x12 =>
  some x12) else (some false)).bind fun p3 =>
  some p3
theorem w_syntagmalaw09_SubstUnfolds {e1 : ApiExpr} {r_1 : Bool} (hm : m_syntagmalaw09_SubstUnfolds e1 = some r_1) : Fn0 Try.prog 14 [ApiExpr.d e1] (.bool r_1) := by
  unfold m_syntagmalaw09_SubstUnfolds at hm
  refine fn_intro Try.func14 rfl Try.ntmps14 rfl fun H0 fr w0 => ?_
  refine g_seq ?_
  refine g_region ?_
  refine go_op rfl rfl rfl (o_box_own rfl rfl rfl) ?_
  rintro _ _ ⟨b1, rfl, rfl⟩
  refine go_p rfl rfl rfl (o_assign rfl) ?_
  refine go_nil ?_
  refine g_seq ?_
  refine g_region ?_
  refine go_p rfl rfl rfl (o_load_box_agg 0 Try.isAgg37 Try.sizeOf37 rfl rfl rfl rfl (Nat.le_of_ble_eq_true rfl)) ?_
  obtain ⟨x1, hx1, hm⟩ := bind_some hm
  refine go_p rfl rfl rfl (o_call0 Try.call25 rfl (w_syntagmalaw05_Few hx1)) ?_
  refine go_u rfl rfl (o_store_box 0 Try.sizeOf37 rfl rfl rfl rfl rfl rfl rfl rfl (Nat.le_of_ble_eq_true rfl)) ?_
  rintro _ _ rfl
  refine go_ms (ms' := [box b1 37 [_]]) rfl ?_
  refine go_nil ?_
  refine g_seq ?_
  refine g_region ?_
  refine go_p rfl rfl rfl (o_load_box_agg 0 Try.isAgg37 Try.sizeOf37 rfl rfl rfl rfl (Nat.le_of_ble_eq_true rfl)) ?_
  obtain ⟨x2, hx2, hm⟩ := bind_some hm
  refine go_p rfl rfl rfl (o_call0 Try.call25 rfl (w_syntagmalaw05_Few hx2)) ?_
  obtain ⟨⟨x3, x4⟩, hx3, hm⟩ := bind_some hm
  refine go_p rfl rfl rfl (o_call0 Try.call62 rfl (w_subst_Unfold hx3)) ?_
  refine go_p rfl rfl rfl (o_move rfl) ?_
  refine go_p rfl rfl rfl (o_extract rfl rfl) ?_
  refine go_p rfl rfl rfl (o_extract rfl rfl) ?_
  refine go_op rfl rfl rfl (o_alloc_own Try.zeroValue37 (cs := [.list 9 ApiNode.d []]) rfl) ?_
  rintro _ _ ⟨b2, rfl, rfl⟩
  refine go_u rfl rfl (o_store_box 0 Try.sizeOf37 rfl rfl rfl rfl rfl rfl rfl rfl (Nat.le_of_ble_eq_true rfl)) ?_
  rintro _ _ rfl
  refine go_ms (ms' := [box b2 37 [_], box b1 37 [_]]) rfl ?_
  refine go_p rfl rfl rfl (o_assign rfl) ?_
  refine go_nil ?_
  refine g_seq ?_
  refine g_region ?_
  refine go_p rfl rfl rfl (o_load_box_agg 1 Try.isAgg37 Try.sizeOf37 rfl rfl rfl rfl (Nat.le_of_ble_eq_true rfl)) ?_
  obtain ⟨⟨x5, x6⟩, hx4, hm⟩ := bind_some hm
  refine go_p rfl rfl rfl (o_call0 Try.call63 rfl (w_syntagmaref09_Unfold hx4)) ?_
  refine go_p rfl rfl rfl (o_move rfl) ?_
  refine go_p rfl rfl rfl (o_extract rfl rfl) ?_
  refine go_p rfl rfl rfl (o_extract rfl rfl) ?_
  refine go_op rfl rfl rfl (o_alloc_own Try.zeroValue37 (cs := [.list 9 ApiNode.d []]) rfl) ?_
  rintro _ _ ⟨b3, rfl, rfl⟩
  refine go_u rfl rfl (o_store_box 0 Try.sizeOf37 rfl rfl rfl rfl rfl rfl rfl rfl (Nat.le_of_ble_eq_true rfl)) ?_
  rintro _ _ rfl
  refine go_ms (ms' := [box b3 37 [_], box b2 37 [_], box b1 37 [_]]) rfl ?_
  refine go_p rfl rfl rfl (o_assign rfl) ?_
  refine go_nil ?_
  refine g_seq ?_
  refine g_region ?_
  refine go_p rfl rfl rfl (o_load_box_agg 2 Try.isAgg37 Try.sizeOf37 rfl rfl rfl rfl (Nat.le_of_ble_eq_true rfl)) ?_
  obtain ⟨x7, hx5, hm⟩ := bind_some hm
  refine go_p rfl rfl rfl (o_call0 Try.call26 rfl (w_syntagmaref05_May hx5)) ?_
  refine go_p rfl rfl rfl (o_cmp rfl rfl rfl) ?_
  refine go_p rfl rfl rfl (o_move rfl) ?_
  obtain ⟨p1, hp_1, hm⟩ := bind_some hm
  refine go_two [(1, _), (3, _), (4, _), (5, _), (6, _)] 7 31 p1 (t := 24) ⟨rfl, rfl, rfl, rfl, rfl, trivial⟩ rfl (fun hg_1 hk1 => ?_) (fun hg_1 hk1 => ?_) ?_
  · replace hp_1 := cond_t hg_1 hp_1
    refine go_wantp rfl rfl rfl hg_1 rfl rfl (o_load_box_agg 2 Try.isAgg37 Try.sizeOf37 rfl rfl rfl rfl (Nat.le_of_ble_eq_true rfl)) ?_
    refine go_wantp rfl rfl rfl hg_1 rfl rfl (o_fieldAddr_box fi_37_0 rfl) ?_
    refine go_wantp rfl rfl rfl hg_1 rfl rfl (o_load_box 2 Try.isAgg35 rfl rfl rfl rfl) ?_
    refine go_wantp rfl rfl rfl hg_1 rfl rfl (o_len Try.runUnderlying35 rfl) ?_
    obtain ⟨hg6, hp_1⟩ := grd_some hp_1
    refine go_wantp rfl rfl rfl hg_1 rfl rfl (o_sub rfl rfl (i64_id hg6)) ?_
    obtain ⟨x8, hx7, hp_1⟩ := bind_some hp_1
    refine go_wantp rfl rfl rfl hg_1 rfl rfl (o_call0 Try.call64 rfl (w_syntagmaref09_Value hx7)) ?_
    refine go_p rfl rfl rfl (o_pickT rfl hg_1 rfl) ?_
    exact go_meet hk1 (congrArg (fun b => some (D.bool b)) (some_eq hp_1)) ⟨rfl, rfl, rfl, rfl, rfl, trivial⟩
  · replace hp_1 := cond_f hg_1 hp_1
    refine go_skip rfl rfl rfl hg_1 rfl rfl ?_
    refine go_skip rfl rfl rfl hg_1 rfl rfl ?_
    refine go_skip rfl rfl rfl hg_1 rfl rfl ?_
    refine go_skip rfl rfl rfl hg_1 rfl rfl ?_
    refine go_skip rfl rfl rfl hg_1 rfl rfl ?_
    refine go_skip rfl rfl rfl hg_1 rfl rfl ?_
    refine go_p rfl rfl rfl (o_pickF rfl hg_1 rfl) ?_
    exact go_meet hk1 (congrArg (fun b => some (D.bool b)) (some_eq hp_1)) ⟨rfl, rfl, rfl, rfl, rfl, trivial⟩
  refine go_p rfl rfl rfl (o_assign rfl) ?_
  refine go_nil ?_
  refine g_seq ?_
  refine g_region ?_
  refine go_p rfl rfl rfl (o_load_box_agg 1 Try.isAgg37 Try.sizeOf37 rfl rfl rfl rfl (Nat.le_of_ble_eq_true rfl)) ?_
  refine go_p rfl rfl rfl (o_load_box_agg 0 Try.isAgg37 Try.sizeOf37 rfl rfl rfl rfl (Nat.le_of_ble_eq_true rfl)) ?_
  obtain ⟨x9, hx8, hm⟩ := bind_some hm
  refine go_p rfl rfl rfl (o_call0 Try.call59 rfl (w_syntagmalaw09_same hx8)) ?_
  refine go_p rfl rfl rfl (o_move rfl) ?_
  apply go_and [(1, _), (7, _)] 4 39 (t := 35) ⟨rfl, rfl, trivial⟩ rfl
  · intro hg_2 hk2
    refine go_wantp rfl rfl rfl hg_2 rfl rfl (o_move rfl) ?_
    refine go_wantp rfl rfl rfl hg_2 rfl rfl (o_move rfl) ?_
    refine go_wantp rfl rfl rfl hg_2 rfl rfl (o_cmp rfl rfl rfl) ?_
    refine go_p rfl rfl rfl (o_pickT rfl hg_2 rfl) ?_
    exact go_meet hk2 (rfl) ⟨rfl, rfl, trivial⟩
  · intro hg_2 hk2
    refine go_skip rfl rfl rfl hg_2 rfl rfl ?_
    refine go_skip rfl rfl rfl hg_2 rfl rfl ?_
    refine go_skip rfl rfl rfl hg_2 rfl rfl ?_
    refine go_p rfl rfl rfl (o_pickF rfl hg_2 rfl) ?_
    exact go_meet hk2 (rfl) ⟨rfl, rfl, trivial⟩
  refine go_p rfl rfl rfl (o_move rfl) ?_
  obtain ⟨p2, hp_3, hm⟩ := bind_some hm
  refine go_two [] 6 46 p2 (t := 40) trivial rfl (fun hg_3 hk3 => ?_) (fun hg_3 hk3 => ?_) ?_
  · replace hp_3 := cond_t hg_3 hp_3
    refine go_wantp rfl rfl rfl hg_3 rfl rfl (o_load_box_agg 2 Try.isAgg37 Try.sizeOf37 rfl rfl rfl rfl (Nat.le_of_ble_eq_true rfl)) ?_
    obtain ⟨x10, hx9, hp_3⟩ := bind_some hp_3
    refine go_wantp rfl rfl rfl hg_3 rfl rfl (o_call0 Try.call25 rfl (w_syntagmalaw05_Few hx9)) ?_
    obtain ⟨x11, hx10, hp_3⟩ := bind_some hp_3
    refine go_wantp rfl rfl rfl hg_3 rfl rfl (o_call0 Try.call65 rfl (w_subst_Value hx10)) ?_
    refine go_wantp rfl rfl rfl hg_3 rfl rfl (o_move rfl) ?_
    refine go_wantp rfl rfl rfl hg_3 rfl rfl (o_cmpb Try.runUnderlying4 rfl rfl) ?_
    refine go_p rfl rfl rfl (o_pickT rfl hg_3 rfl) ?_
    exact go_meet hk3 (congrArg (fun b => some (D.bool b)) (some_eq hp_3)) trivial
  · replace hp_3 := cond_f hg_3 hp_3
    refine go_skip rfl rfl rfl hg_3 rfl rfl ?_
    refine go_skip rfl rfl rfl hg_3 rfl rfl ?_
    refine go_skip rfl rfl rfl hg_3 rfl rfl ?_
    refine go_skip rfl rfl rfl hg_3 rfl rfl ?_
    refine go_skip rfl rfl rfl hg_3 rfl rfl ?_
    refine go_p rfl rfl rfl (o_pickF rfl hg_3 rfl) ?_
    exact go_meet hk3 (congrArg (fun b => some (D.bool b)) (some_eq hp_3)) trivial
  refine go_p rfl rfl rfl (o_move rfl) ?_
  obtain ⟨p3, hp_4, hm⟩ := bind_some hm
  refine go_two [] 2 49 p3 (t := 47) trivial rfl (fun hg_4 hk4 => ?_) (fun hg_4 hk4 => ?_) ?_
  · replace hp_4 := cond_t hg_4 hp_4
    obtain ⟨x12, hx11, hp_4⟩ := bind_some hp_4
    refine go_wantp rfl rfl rfl hg_4 rfl rfl (o_call0 Try.call60 rfl (w_syntagmalaw09_works hx11)) ?_
    refine go_p rfl rfl rfl (o_pickT rfl hg_4 rfl) ?_
    exact go_meet hk4 (congrArg (fun b => some (D.bool b)) (some_eq hp_4)) trivial
  · replace hp_4 := cond_f hg_4 hp_4
    refine go_skip rfl rfl rfl hg_4 rfl rfl ?_
    refine go_p rfl rfl rfl (o_pickF rfl hg_4 rfl) ?_
    exact go_meet hk4 (congrArg (fun b => some (D.bool b)) (some_eq hp_4)) trivial
  refine go_p rfl rfl rfl (o_assign rfl) ?_
  refine go_nil ?_
  refine g_ret ?_
  exact retK (ret_one' rfl (ret_tmp rfl) (perm_drop _)) (congrArg (fun (p : Bool) => (.bool p : D)) (some_eq hm))
end Go.Proofs.Ytnnjgbcojdnhhaa
set_option linter.unusedVariables false
set_option linter.unusedSimpArgs false
set_option maxRecDepth 100000
namespace Go.Proofs.Ytnnjgbcojdnhhaa
open Go.V
open Classical
theorem FUv : FU = 18446744073709551616 := rfl
theorem bt (b c : Bool) : (bif b then some true else some c : Option Bool) = some (b || c) := by cases b <;> rfl
theorem bf (b c : Bool) : (bif b then some c else some false : Option Bool) = some (b && c) := by cases b <;> rfl
def smallB (c : UInt8) : Bool := (decide (97 ≤ (c.toNat : Int)) && decide ((c.toNat : Int) ≤ 122)) || decide ((c.toNat : Int) = 95)
def greatB (c : UInt8) : Bool := decide (65 ≤ (c.toNat : Int)) && decide ((c.toNat : Int) ≤ 90)
def moreB (c : UInt8) : Bool := (smallB c || greatB c) || (decide (48 ≤ (c.toNat : Int)) && decide ((c.toNat : Int) ≤ 57))
def wordP : List UInt8 → Nat
  | [] => 0
  | c :: r => if smallB c = true ∨ greatB c = true then 1 + (r.takeWhile moreB).length else 0
theorem word_c (c : UInt8) (r : List UInt8) : wordP (c :: r) = if smallB c = true ∨ greatB c = true then 1 + (r.takeWhile moreB).length else 0 := rfl
theorem word_eq (s : List UInt8) (h : s.length ≤ 1000000000000) : m_name_Word s = some (wordP s : Int) := by
  unfold m_name_Word
  rcases s with _ | ⟨c, r⟩
  · rfl
  · rw [decide_eq_false (by simp), cond_false, idx_c0, Option.bind_some]
    simp only [m_name_small, m_name_great, Option.bind_some, bf]
    rw [show (((decide (97 ≤ (c.toNat : Int))) && (decide ((c.toNat : Int) ≤ 122))) || (decide ((c.toNat : Int) = 95))) = smallB c from rfl, show ((decide (65 ≤ (c.toNat : Int))) && (decide ((c.toNat : Int) ≤ 90))) = greatB c from rfl]
    rw [word_c]
    cases h1 : smallB c || greatB c with
    | false =>
      simp only [Bool.or_eq_false_iff] at h1
      rw [h1.1, h1.2]; simp
    | true =>
      rw [if_pos (by simpa using h1)]
      have : (!smallB c && !greatB c) = false := by cases hs : smallB c <;> cases hg : greatB c <;> simp_all
      rw [this, cond_false]
      simp only [List.length_cons] at h
      refine bnd (loop_while (φ := m_name_Word_l1 (c :: r)) (l := c :: r) moreB (fun i => (i : Int)) ?_ ?_ FU 1 (by simp) (by rw [FUv]; simp; omega)) rfl
      · intro n i x hx hi
        simp only [List.length_cons] at hi
        simp only [m_name_Word_l1]
        rw [decide_eq_true (by simp only [List.length_cons]; omega), cond_true, getI hx, Option.bind_some]
        simp only [m_name_more, m_name_small, m_name_great, Option.bind_some, bt]
        constructor
        · intro hq
          simp only [moreB, smallB, greatB] at hq
          rw [hq, cond_true, grd_pos (by omega)]
        · intro hq
          simp only [moreB, smallB, greatB] at hq
          rw [hq, cond_false]
      · intro n
        simp only [m_name_Word_l1]
        rw [decide_eq_false (by omega), cond_false, Option.bind_some, cond_false]
theorem rword_eq (s : List UInt8) (h : s.length ≤ 1000000000000) : m_syntagmaref03_Word s = some (wordP s : Int) := by
  unfold m_syntagmaref03_Word
  rcases s with _ | ⟨c, r⟩
  · rfl
  · rw [decide_eq_false (by simp; omega), cond_false, idx_c0, Option.bind_some]
    simp only [m_syntagmaref03_small, m_syntagmaref03_great, Option.bind_some, bf]
    rw [show (((decide (97 ≤ (c.toNat : Int))) && (decide ((c.toNat : Int) ≤ 122))) || (decide ((c.toNat : Int) = 95))) = smallB c from rfl, show ((decide (65 ≤ (c.toNat : Int))) && (decide ((c.toNat : Int) ≤ 90))) = greatB c from rfl]
    rw [word_c]
    cases h1 : smallB c || greatB c with
    | false =>
      simp only [Bool.or_eq_false_iff] at h1
      rw [h1.1, h1.2]; simp
    | true =>
      rw [if_pos (by simpa using h1)]
      have : (!smallB c && !greatB c) = false := by cases hs : smallB c <;> cases hg : greatB c <;> simp_all
      rw [this, cond_false]
      simp only [List.length_cons] at h
      refine bnd (loop_while (φ := m_syntagmaref03_Word_l1 (c :: r)) (l := c :: r) moreB (fun i => (i : Int)) ?_ ?_ FU 1 (by simp) (by rw [FUv]; simp; omega)) rfl
      · intro n i x hx hi
        simp only [List.length_cons] at hi
        simp only [m_syntagmaref03_Word_l1]
        rw [decide_eq_true (by simp only [List.length_cons]; omega), cond_true, getI hx, Option.bind_some]
        simp only [m_syntagmaref03_small, m_syntagmaref03_great, Option.bind_some, bt, bf]
        constructor
        · intro hq
          simp only [moreB, smallB, greatB] at hq
          rw [hq, cond_true, grd_pos (by omega)]
        · intro hq
          simp only [moreB, smallB, greatB] at hq
          rw [hq, cond_false]
      · intro n
        simp only [m_syntagmaref03_Word_l1]
        rw [decide_eq_false (by omega), cond_false, Option.bind_some, cond_false]
def keysL : List (List UInt8) := match m_name_Keywords with | some l => l | none => []
theorem keys_eq : m_name_Keywords = some keysL := rfl
theorem rkeys_eq : m_syntagmaref03_Keywords = some keysL := rfl
theorem isKey_eq (l : List (List UInt8)) (s : List UInt8) (h : l.length ≤ 1000) : m_slices_Contains_string_string l s = some (decide (s ∈ l)) := by
  unfold m_slices_Contains_string_string m_slices_Index_string_string
  have e := loop_find (φ := m_slices_Index_string_string_l1 l s) (l := l) (fun i => (i : Int)) (fun x => decide (s = x)) (by
    intro n i x hx hi
    simp only [m_slices_Index_string_string_l1]
    rw [decide_eq_true (show (i : Int) < l.length by omega), cond_true, getI hx, Option.bind_some]
    constructor
    · intro hq; rw [show decide (s = x) = false from by simpa using hq, cond_false, grd_pos (by omega)]
    · intro hq; rw [show decide (s = x) = true from by simpa using hq, cond_true]) (by
    intro n
    simp only [m_slices_Index_string_string_l1]
    rw [decide_eq_false (by omega), cond_false]) (by rw [FUv]; omega)
  rw [bind_of e]
  cases hf : l.findIdx? (fun x => decide (s = x)) with
  | none =>
    rw [List.findIdx?_eq_none_iff] at hf
    show some (decide _) = _
    congr 1
    rw [decide_eq_false (by omega), decide_eq_false]
    intro hs
    have := hf s hs
    simp at this
  | some k =>
    rw [List.findIdx?_eq_some_iff_getElem] at hf
    obtain ⟨hk, h1, _⟩ := hf
    show some (decide _) = _
    congr 1
    rw [decide_eq_true (by omega), decide_eq_true]
    simp only [decide_eq_true_eq] at h1
    rw [h1]
    exact List.getElem_mem hk
theorem rIsKey_eq (l : List (List UInt8)) (s : List UInt8) (h : l.length ≤ 1000) : m_syntagmaref03_In s l = some (decide (s ∈ l)) := by
  unfold m_syntagmaref03_In
  refine bnd (loop_any (φ := m_syntagmaref03_In_l1 s l) (l := l) true (fun _ x => x = s) ?_ ?_ (by rw [FUv]; omega)) ?_
  · intro n i x hx hi
    simp only [m_syntagmaref03_In_l1]
    rw [decide_eq_true (by omega), cond_true, getI hx, Option.bind_some]
    constructor
    · intro hq; rw [decide_eq_false hq, cond_false, grd_pos (by omega)]
    · intro hq; rw [decide_eq_true hq, cond_true]
  · intro n
    simp only [m_syntagmaref03_In_l1]
    rw [decide_eq_false (by omega), cond_false]
  · by_cases hs : s ∈ l
    · obtain ⟨i, hi, h2⟩ := List.getElem_of_mem hs
      rw [if_pos ⟨i, s, by rw [← h2]; exact List.getElem?_eq_getElem hi, rfl⟩, decide_eq_true hs]; rfl
    · rw [if_neg, decide_eq_false hs]; rfl
      rintro ⟨i, x, h1, rfl⟩
      exact hs (List.mem_of_getElem? h1)
def headP (p : UInt8 → Bool) : List UInt8 → Bool
  | [] => false
  | c :: _ => p c
def wholeP (s : List UInt8) : Bool := decide (s ≠ []) && decide (s.length ≤ 20) && decide (wordP s = s.length)
def nameP (s : List UInt8) : Bool := wholeP s && headP smallB s && !decide (s ∈ keysL)
def tagP (s : List UInt8) : Bool := wholeP s && headP greatB s
theorem whole_eq (s : List UInt8) : m_name_whole s = some (wholeP s) := by
  unfold m_name_whole wholeP
  by_cases h1 : s = []
  · subst h1; rfl
  by_cases h2 : s.length ≤ 20
  · rw [decide_eq_false h1, decide_eq_true (show (s.length : Int) ≤ 20 by omega), word_eq s (by omega)]
    simp only [Bool.not_false, Bool.true_and, cond_true, Option.bind_some, decide_eq_true (show s ≠ [] from h1), decide_eq_true h2]
    congr 1
    exact decide_eq_decide.2 (by omega)
  · rw [decide_eq_false (show ¬ (s.length : Int) ≤ 20 by omega), decide_eq_false h2]; simp
theorem name_eq (s : List UInt8) : m_name_Name s = some (nameP s) := by
  unfold m_name_Name nameP
  rw [whole_eq, Option.bind_some]
  cases hw : wholeP s with
  | false => rfl
  | true =>
    rcases s with _ | ⟨c, r⟩
    · simp [wholeP] at hw
    · rw [cond_true, idx_c0, Option.bind_some]
      simp only [m_name_small, Option.bind_some, m_name_Keyword, keys_eq, Bool.true_and]
      rw [isKey_eq _ _ (by decide), Option.bind_some, Option.bind_some, bf, Option.bind_some]; rfl
theorem tag_eq (s : List UInt8) : m_name_Tag s = some (tagP s) := by
  unfold m_name_Tag tagP
  rw [whole_eq, Option.bind_some]
  cases hw : wholeP s with
  | false => rfl
  | true =>
    rcases s with _ | ⟨c, r⟩
    · simp [wholeP] at hw
    · rw [cond_true, idx_c0, Option.bind_some]; rfl
theorem rwhole_eq (s : List UInt8) : (bif ((decide (0 < (s.length : Int))) && (decide ((s.length : Int) ≤ 20))) then ((m_syntagmaref03_Word s).bind fun x1 => some (decide (x1 = (s.length : Int)))) else (some false)) = some (wholeP s) := by
  unfold wholeP
  by_cases h1 : s = []
  · subst h1; rfl
  have h0 : 0 < s.length := List.length_pos_iff.2 h1
  by_cases h2 : s.length ≤ 20
  · rw [decide_eq_true (show 0 < (s.length : Int) by omega), decide_eq_true (show (s.length : Int) ≤ 20 by omega), rword_eq s (by omega)]
    simp only [Bool.true_and, cond_true, Option.bind_some, decide_eq_true (show s ≠ [] from h1), decide_eq_true h2]
    congr 1
    exact decide_eq_decide.2 (by omega)
  · rw [decide_eq_false (show ¬ (s.length : Int) ≤ 20 by omega), decide_eq_false h2]; simp
theorem rname_eq (s : List UInt8) : m_syntagmaref03_Name s = some (nameP s) := by
  unfold m_syntagmaref03_Name nameP
  refine bnd (rwhole_eq s) ?_
  cases hw : wholeP s with
  | false => rfl
  | true =>
    rcases s with _ | ⟨c, r⟩
    · simp [wholeP] at hw
    · rw [cond_true, idx_c0, Option.bind_some]
      simp only [m_syntagmaref03_small, Option.bind_some, m_syntagmaref03_Keyword, rkeys_eq, Bool.true_and]
      rw [rIsKey_eq _ _ (by decide), Option.bind_some, Option.bind_some, bf, Option.bind_some]; rfl
theorem rtag_eq (s : List UInt8) : m_syntagmaref03_Tag s = some (tagP s) := by
  unfold m_syntagmaref03_Tag tagP
  refine bnd (rwhole_eq s) ?_
  cases hw : wholeP s with
  | false => rfl
  | true =>
    rcases s with _ | ⟨c, r⟩
    · simp [wholeP] at hw
    · rw [cond_true, idx_c0, Option.bind_some]; rfl
def abcN (k : Int) : Nat := if k = 5 then 1 else if k = 12 then 1 else if k = 13 then 1 else if k = 6 then 2 else if k = 7 then 2 else if k = 8 then 2 else if k = 10 then 2 else if k = 9 then 3 else if k = 14 then 1 else 0
def partsB (k : Int) : Bool := decide (k = 11) || decide (k = 14)
theorem shape_eq (k : Int) : m_tree_shapeOf k = some ⟨(abcN k : Int), partsB k⟩ := by
  by_cases h5 : k = 5
  · subst h5; rfl
  by_cases h12 : k = 12
  · subst h12; rfl
  by_cases h13 : k = 13
  · subst h13; rfl
  by_cases h6 : k = 6
  · subst h6; rfl
  by_cases h7 : k = 7
  · subst h7; rfl
  by_cases h8 : k = 8
  · subst h8; rfl
  by_cases h10 : k = 10
  · subst h10; rfl
  by_cases h9 : k = 9
  · subst h9; rfl
  by_cases h11 : k = 11
  · subst h11; rfl
  by_cases h14 : k = 14
  · subst h14; rfl
  unfold m_tree_shapeOf abcN partsB
  rw [decide_eq_false h5, decide_eq_false h12, decide_eq_false h13, decide_eq_false h6, decide_eq_false h7, decide_eq_false h8, decide_eq_false h10, decide_eq_false h9, decide_eq_false h11, decide_eq_false h14, if_neg h5, if_neg h12, if_neg h13, if_neg h6, if_neg h7, if_neg h8, if_neg h10, if_neg h9, if_neg h14]
  rfl
theorem abc_le (k : Int) : abcN k ≤ 3 := by
  unfold abcN
  repeat' split
  all_goals omega
def kidsP (n : ApiNode) : List Int := [n.a, n.b, n.c].take (abcN n.kind) ++ (if partsB n.kind = true then n.l.map (·.at_) else [])
def NB (n : ApiNode) : Prop := n.l.length ≤ 60
theorem kids_len (n : ApiNode) (h : NB n) : (kidsP n).length ≤ 63 := by
  unfold kidsP NB at *
  have := abc_le n.kind
  split <;> simp <;> omega
theorem abc_sli (n : ApiNode) : sli [n.a, n.b, n.c] 0 (abcN n.kind : Int) = some ([n.a, n.b, n.c].take (abcN n.kind)) := sli_take (by have := abc_le n.kind; simpa using this)
theorem kids_eq (n : ApiNode) (h : NB n) : m_tree_Kids n = some (kidsP n) := by
  unfold m_tree_Kids
  have h3 := abc_le n.kind
  unfold NB at h
  rw [shape_eq, Option.bind_some, abc_sli, Option.bind_some, grd_pos (by simp; omega)]
  simp only
  unfold kidsP
  cases partsB n.kind with
  | false => simp
  | true =>
    rw [cond_true, if_pos rfl]
    refine bnd (loop_map (φ := fun i k s => m_tree_Kids_l1 n i (k, s)) (l := n.l) (fun x => x.at_) id _ ?_ ?_ (by rw [FUv]; omega) _ rfl) rfl
    · intro m i x s hx hi hs
      simp only [List.length_take] at hs
      simp only [m_tree_Kids_l1]
      rw [decide_eq_true (show (i : Int) < n.l.length by omega), cond_true, getI hx, Option.bind_some, grd_pos (by simp; omega), grd_pos (by omega)]
    · intro m s hs
      simp only [m_tree_Kids_l1]
      rw [decide_eq_false (by omega), cond_false]; rfl
theorem kidsO_l (n : ApiNode) : ∀ (k : Nat) (x : Int × List Int), m_tree_KidsO_l1 n k x = m_tree_Kids_l1 n k x
  | 0, x => rfl
  | k + 1, (i, s) => by
    simp only [m_tree_KidsO_l1, m_tree_Kids_l1, kidsO_l n k]
theorem kidsO_eq (n : ApiNode) (h : NB n) : m_tree_KidsO n = some (kidsP n) := by
  rw [← kids_eq n h]
  unfold m_tree_KidsO m_tree_Kids
  simp only [kidsO_l]
theorem rkids_pre (n : ApiNode) : (((bif (decide (n.kind = 5)) then some (decide (n.kind = 5)) else bif (decide (n.kind = 12)) then some (decide (n.kind = 12)) else some (decide (n.kind = 13)) : Option Bool).bind fun x1 => bif x1 then some [n.a] else (bif (decide (n.kind = 6)) then some (decide (n.kind = 6)) else bif (decide (n.kind = 7)) then some (decide (n.kind = 7)) else bif (decide (n.kind = 8)) then some (decide (n.kind = 8)) else some (decide (n.kind = 10)) : Option Bool).bind fun x2 => bif x2 then some [n.a, n.b] else bif (decide (n.kind = 9)) then some [n.a, n.b, n.c] else bif (decide (n.kind = 14)) then some [n.a] else some []) : Option (List Int)) = some ([n.a, n.b, n.c].take (abcN n.kind)) := by
  generalize n.kind = k
  by_cases h5 : k = 5
  · subst h5; rfl
  by_cases h12 : k = 12
  · subst h12; rfl
  by_cases h13 : k = 13
  · subst h13; rfl
  by_cases h6 : k = 6
  · subst h6; rfl
  by_cases h7 : k = 7
  · subst h7; rfl
  by_cases h8 : k = 8
  · subst h8; rfl
  by_cases h10 : k = 10
  · subst h10; rfl
  by_cases h9 : k = 9
  · subst h9; rfl
  by_cases h14 : k = 14
  · subst h14; rfl
  unfold abcN
  rw [decide_eq_false h5, decide_eq_false h12, decide_eq_false h13, decide_eq_false h6, decide_eq_false h7, decide_eq_false h8, decide_eq_false h10, decide_eq_false h9, decide_eq_false h14, if_neg h5, if_neg h12, if_neg h13, if_neg h6, if_neg h7, if_neg h8, if_neg h10, if_neg h9, if_neg h14]
  rfl
theorem rkids_eq (n : ApiNode) (h : NB n) : m_syntagmaref05_Kids n = some (kidsP n) := by
  unfold m_syntagmaref05_Kids
  have h3 := abc_le n.kind
  unfold NB at h
  rw [rkids_pre, Option.bind_some, show (decide (n.kind = 11) || decide (n.kind = 14)) = partsB n.kind from rfl]
  unfold kidsP
  cases partsB n.kind with
  | false => simp
  | true =>
    rw [cond_true, if_pos rfl]
    refine bnd (loop_map (φ := fun i k s => m_syntagmaref05_Kids_l1 n i (k, s)) (l := n.l) (fun x => x.at_) id _ ?_ ?_ (by rw [FUv]; omega) _ rfl) rfl
    · intro m i x s hx hi hs
      simp only [List.length_take] at hs
      simp only [m_syntagmaref05_Kids_l1]
      rw [decide_eq_true (show (i : Int) < n.l.length by omega), cond_true, getI hx, Option.bind_some, grd_pos (by simp; omega), grd_pos (by omega)]
    · intro m s hs
      simp only [m_syntagmaref05_Kids_l1]
      rw [decide_eq_false (by omega), cond_false]; rfl
theorem twice_eq (l : List (List UInt8)) (h : l.length ≤ 1000) : m_name_Twice l = some (decide (dupP l)) := by
  unfold m_name_Twice
  obtain ⟨o, h1, h2⟩ := loop_rng (φ := fun n i s => m_name_Twice_l1 l n (i, s)) (l := l) (fun i mm => (∀ k, (mget mm k).getD false = decide (k ∈ l.take i)) ∧ ∀ (j : Nat) x, j < i → l[j]? = some x → x ∉ l.take j) (fun o => o.on (fun r => some r) (fun _ => some false) = some (decide (dupP l))) (by
    rintro n i x s hx hi ⟨hI1, hI2⟩
    simp only [m_name_Twice_l1]
    rw [decide_eq_true (show (i : Int) < l.length by omega), cond_true, getI hx, Option.bind_some, hI1]
    by_cases hd : x ∈ l.take i
    · rw [decide_eq_true hd, cond_true]
      exact .inr ⟨_, rfl, by rw [decide_eq_true (p := dupP l) ⟨i, x, hx, hd⟩]; rfl⟩
    · rw [decide_eq_false hd, cond_false, grd_pos (by omega)]
      refine .inl ⟨_, rfl, fun k => ?_, fun j y hj hy => ?_⟩
      · rw [mget_set, take_snoc hx]
        by_cases hk : k = x
        · rw [if_pos hk, hk]; simp
        · rw [if_neg hk, hI1]
          exact decide_eq_decide.2 (by simp [hk])
      · by_cases hji : j = i
        · subst hji
          rw [hx] at hy
          rw [← Option.some.inj hy]; exact hd
        · exact hI2 j y (by omega) hy) (by
    rintro n s ⟨hI1, hI2⟩
    simp only [m_name_Twice_l1]
    rw [decide_eq_false (by omega), cond_false]
    refine ⟨_, rfl, ?_⟩
    rw [decide_eq_false (p := dupP l)]
    · rfl
    · rintro ⟨i, x, hx, hd⟩
      exact hI2 i x (getLt hx) hx hd) (by rw [FUv]; omega) [] ⟨fun k => by simp [mget], fun j x hj => by omega⟩
  refine bnd h1 ?_
  exact h2
theorem rtwice_eq (l : List (List UInt8)) (h : l.length ≤ 1000) : m_syntagmaref03_Twice l = some (decide (dupP l)) := by
  unfold m_syntagmaref03_Twice
  refine bnd (loop_any (φ := m_syntagmaref03_Twice_l1 l) (l := l) true (fun i x => x ∈ l.take i) ?_ ?_ (by rw [FUv]; omega)) ?_
  · intro n i x hx hi
    simp only [m_syntagmaref03_Twice_l1]
    rw [decide_eq_true (show (i : Int) < l.length by omega), cond_true, getI hx, Option.bind_some, sli_take (by omega), Option.bind_some, rIsKey_eq _ _ (by simp; omega), Option.bind_some]
    exact ⟨fun hq => by rw [decide_eq_false hq, cond_false, grd_pos (by omega)], fun hq => by rw [decide_eq_true hq, cond_true]⟩
  · intro n
    simp only [m_syntagmaref03_Twice_l1]
    rw [decide_eq_false (by omega), cond_false]
  · by_cases hd : dupP l
    · rw [if_pos (show ∃ (i : Nat) (x : List UInt8), l[i]? = some x ∧ x ∈ l.take i from hd), decide_eq_true hd]; rfl
    · rw [if_neg (show ¬ ∃ (i : Nat) (x : List UInt8), l[i]? = some x ∧ x ∈ l.take i from hd), decide_eq_false hd]; rfl
def partB (k : Int) (x : ApiField) : Bool := if k = 11 then nameP x.name && decide (x.var = []) else tagP x.name && nameP x.var
theorem part_eq (k : Int) (x : ApiField) : m_tree_part k x = some (partB k x) := by
  unfold m_tree_part partB
  by_cases h : k = 11
  · rw [decide_eq_true h, cond_true, if_pos h, name_eq]; rfl
  · rw [decide_eq_false h, cond_false, if_neg h, tag_eq, Option.bind_some, name_eq]
    cases tagP x.name <;> rfl
noncomputable def partedB (n : ApiNode) : Bool := if partsB n.kind = true then decide (∀ x ∈ n.l, partB n.kind x = true) && (decide ((if n.kind = 14 then 1 else 0 : Int) ≤ (n.l.length : Int)) && decide ((n.l.length : Int) ≤ 30)) && !decide (dupP (n.l.map (·.name))) else decide ((n.l.length : Int) = 0)
theorem parted_eq (n : ApiNode) (h : NB n) : m_tree_parted n = some (partedB n) := by
  unfold NB at h
  unfold m_tree_parted partedB
  rw [shape_eq, Option.bind_some]
  simp only
  cases hp : partsB n.kind with
  | false => rfl
  | true =>
    rw [Bool.not_true, cond_false, if_pos rfl]
    refine bnd (loop_allmap (φ := fun m i s => m_tree_parted_l1 n m (i, s)) (l := n.l) false (fun x => partB n.kind x = true) (fun x => x.name) ?_ ?_ (by rw [FUv]; omega)) ?_
    · intro m i x s hx hi hs
      simp only [m_tree_parted_l1]
      rw [decide_eq_true (show (i : Int) < n.l.length by omega), cond_true, getI hx, Option.bind_some, part_eq, Option.bind_some]
      cases hb : partB n.kind x with
      | true => exact ⟨fun _ => by rw [Bool.not_true, cond_false, grd_pos (by simp; omega), grd_pos (by omega)], fun hq => absurd rfl hq⟩
      | false => exact ⟨fun hq => absurd hq (by simp), fun _ => rfl⟩
    · intro m s hs
      simp only [m_tree_parted_l1]
      rw [decide_eq_false (by omega), cond_false]
    · by_cases ha : ∀ x ∈ n.l, partB n.kind x = true
      · rw [if_pos ha, decide_eq_true ha, go_on]
        have e : ((bif decide (n.kind = 14) then some 1 else some 0 : Option Int)) = some (if n.kind = 14 then 1 else 0) := by
          by_cases h14 : n.kind = 14
          · rw [decide_eq_true h14, if_pos h14]; rfl
          · rw [decide_eq_false h14, if_neg h14]; rfl
        rw [e, Option.bind_some, twice_eq _ (by simp; omega), List.length_map, Option.bind_some, bf, Option.bind_some, Bool.true_and]
      · rw [if_neg ha, decide_eq_false ha]; rfl
noncomputable def labelsB (n : ApiNode) : Bool := decide (∀ x ∈ n.l, partB n.kind x = true) && ((decide ((n.l.length : Int) ≤ 30) && (decide (n.kind = 11) || decide (0 < (n.l.length : Int)))) && !decide (dupP (n.l.map (·.name))))
theorem rlabels_eq (n : ApiNode) (h : n.l.length * 40 ≤ 140737488355328) (hk : n.kind = 11 ∨ n.kind = 14) : m_syntagmaref05_labels n = some (labelsB n) := by
  unfold m_syntagmaref05_labels labelsB
  refine bnd (loop_allmap (φ := fun m i s => m_syntagmaref05_labels_l1 n m (i, s)) (l := n.l) false (fun x => partB n.kind x = true) (fun x => x.name) ?_ ?_ (by rw [FUv]; omega)) ?_
  · intro m i x s hx hi hs
    simp only [m_syntagmaref05_labels_l1]
    rw [decide_eq_true (show (i : Int) < n.l.length by omega), cond_true, getI hx, Option.bind_some, rname_eq, rtag_eq, rname_eq]
    have e : ((bif (decide (n.kind = 11)) then ((some (nameP x.name)).bind fun x2 => some ((!x2) || (!decide ((x.var : List UInt8) = ([] : List UInt8))))) else (some false)).bind fun p1 => (bif p1 then (some true) else ((bif (decide (n.kind = 14)) then ((some (tagP x.name)).bind fun x3 => (bif (!x3) then (some true) else ((some (nameP x.var)).bind fun x4 => some (!x4))).bind fun p4 => some p4) else (some false)).bind fun p3 => some p3))) = some (!partB n.kind x) := by
      unfold partB
      rcases hk with hk | hk
      · rw [hk, decide_eq_true rfl, decide_eq_false (show ¬ (11 : Int) = 14 by decide), if_pos rfl]
        cases nameP x.name <;> cases decide (x.var = []) <;> rfl
      · rw [hk, decide_eq_true rfl, decide_eq_false (show ¬ (14 : Int) = 11 by decide), if_neg (by decide)]
        cases tagP x.name <;> cases nameP x.var <;> rfl
    rw [← Option.bind_assoc, e, Option.bind_some]
    cases hb : partB n.kind x with
    | true => exact ⟨fun _ => by rw [Bool.not_true, cond_false, grd_pos (by simp; omega), grd_pos (by omega)], fun hq => absurd rfl hq⟩
    | false => exact ⟨fun hq => absurd hq (by simp), fun _ => rfl⟩
  · intro m s hs
    simp only [m_syntagmaref05_labels_l1]
    rw [decide_eq_false (by omega), cond_false]
  · by_cases ha : ∀ x ∈ n.l, partB n.kind x = true
    · by_cases h3 : (n.l.length : Int) ≤ 30
      · rw [if_pos ha, decide_eq_true ha, go_on, rtwice_eq _ (by simp; omega), List.length_map, Option.bind_some, bf, Option.bind_some, Bool.true_and]
      · rw [if_pos ha, decide_eq_true ha, go_on, List.length_map, decide_eq_false h3]; rfl
    · rw [if_neg ha, decide_eq_false ha]; rfl
def unusedB (n : ApiNode) : Bool := ([n.a, n.b, n.c].drop (abcN n.kind)).all fun x => decide (x = 0)
theorem unused_eq (n : ApiNode) : m_tree_unused n = some (unusedB n) := by
  unfold m_tree_unused unusedB
  have h3 := abc_le n.kind
  rw [shape_eq, Option.bind_some]
  simp only
  rw [show sli [n.a, n.b, n.c] (abcN n.kind : Int) (([n.a, n.b, n.c] : List _).length : Int) = some ([n.a, n.b, n.c].drop (abcN n.kind)) from sli_from rfl (by simpa using h3), Option.bind_some]
  generalize hl : [n.a, n.b, n.c].drop (abcN n.kind) = l
  have hlen : l.length ≤ 3 := by rw [← hl]; simp
  refine bnd (loop_all (φ := m_tree_unused_l1 l) (l := l) false (fun _ x => x = 0) ?_ ?_ (by rw [FUv]; omega)) ?_
  · intro m i x hx hi
    simp only [m_tree_unused_l1]
    rw [decide_eq_true (show (i : Int) < l.length by omega), cond_true, getI hx, Option.bind_some]
    exact ⟨fun hq => by rw [decide_eq_true hq, Bool.not_true, cond_false, grd_pos (by omega)], fun hq => by rw [decide_eq_false hq, Bool.not_false, cond_true]⟩
  · intro m
    simp only [m_tree_unused_l1]
    rw [decide_eq_false (by omega), cond_false]
  · by_cases ha : ∀ (i : Nat) x, l[i]? = some x → x = 0
    · rw [if_pos ha, List.all_eq_true.2]
      · rfl
      · intro x hx
        obtain ⟨i, hi, h2⟩ := List.getElem_of_mem hx
        rw [decide_eq_true_eq]
        exact ha i x (by rw [← h2]; exact List.getElem?_eq_getElem hi)
    · rw [if_neg ha]
      have : (l.all fun x => decide (x = 0)) = false := by
        rw [← Bool.not_eq_true, List.all_eq_true]
        intro hh
        exact ha fun i x hx => by simpa using hh x (List.mem_of_getElem? hx)
      rw [this]; rfl
def isNm (k : Int) : Bool := decide (k = 4) || (decide (k = 5) || (decide (k = 7) || (decide (k = 8) || decide (k = 12))))
def namedB (n : ApiNode) : Bool := if isNm n.kind = true then nameP n.name else if n.kind = 13 then tagP n.name else decide ((n.name : List UInt8) = [])
theorem named_eq (n : ApiNode) : m_tree_named n = some (namedB n) := by
  unfold m_tree_named namedB isNm
  rw [name_eq, tag_eq]
  cases decide (n.kind = 4) <;> cases decide (n.kind = 5) <;> cases decide (n.kind = 7) <;> cases decide (n.kind = 8) <;> cases decide (n.kind = 12) <;> first | rfl | skip
  by_cases h : n.kind = 13
  · rw [if_neg (by decide), if_pos h, decide_eq_true h]; rfl
  · rw [if_neg (by decide), if_neg h, decide_eq_false h]; rfl
def countedB (n : ApiNode) : Bool := if n.kind = 1 then decide ((n.s : List UInt8) = []) else if n.kind = 2 then (decide (n.n_ = 0) || decide (n.n_ = 1)) && decide ((n.s : List UInt8) = []) else if n.kind = 10 then (decide (1 ≤ n.n_) && decide (n.n_ ≤ 7)) && decide ((n.s : List UInt8) = []) else if n.kind = 3 then decide (n.n_ = 0) && decide ((n.s.length : Int) ≤ 200) else decide (n.n_ = 0) && decide ((n.s : List UInt8) = [])
theorem counted_eq (n : ApiNode) : m_tree_counted n = some (countedB n) := by
  unfold m_tree_counted countedB
  by_cases h1 : n.kind = 1
  · rw [decide_eq_true h1, if_pos h1]; rfl
  rw [decide_eq_false h1, if_neg h1, cond_false]
  by_cases h2 : n.kind = 2
  · rw [decide_eq_true h2, if_pos h2]; rfl
  rw [decide_eq_false h2, if_neg h2, cond_false]
  by_cases h10 : n.kind = 10
  · rw [decide_eq_true h10, if_pos h10]; rfl
  rw [decide_eq_false h10, if_neg h10, cond_false]
  by_cases h3 : n.kind = 3
  · rw [decide_eq_true h3, if_pos h3]; rfl
  rw [decide_eq_false h3, if_neg h3, cond_false]
def boundsB (n : ApiNode) : Bool := !(((decide (n.kind < 1) || decide (14 < n.kind)) || decide (n.pos < 0)) || decide (1048576 < n.pos))
noncomputable def rightB (n : ApiNode) : Bool := boundsB n && (((namedB n && countedB n) && partedB n) && unusedB n)
theorem right_eq (n : ApiNode) (h : NB n) : m_tree_right n = some (rightB n) := by
  unfold m_tree_right rightB boundsB
  rw [named_eq, counted_eq, parted_eq n h, unused_eq]
  cases (((decide (n.kind < 1) || decide (14 < n.kind)) || decide (n.pos < 0)) || decide (1048576 < n.pos))
  · cases namedB n <;> cases countedB n <;> cases partedB n <;> cases unusedB n <;> rfl
  · rfl
theorem parted_lab (n : ApiNode) (hk : n.kind = 11 ∨ n.kind = 14) : partedB n = labelsB n := by
  unfold partedB labelsB
  rcases hk with hk | hk
  · rw [hk, if_pos (show partsB 11 = true by decide), if_neg (by decide), decide_eq_true (show (0 : Int) ≤ (n.l.length : Int) by omega), Bool.true_and, decide_eq_true (show (11 : Int) = 11 from rfl), Bool.true_or, Bool.and_true, Bool.and_assoc]
  · rw [hk, if_pos (show partsB 14 = true by decide), if_pos rfl, decide_eq_false (show ¬ (14 : Int) = 11 by decide), Bool.false_or, decide_eq_decide.2 (show (1 : Int) ≤ (n.l.length : Int) ↔ (0 : Int) < (n.l.length : Int) by omega), Bool.and_comm (decide ((0 : Int) < _)), Bool.and_assoc]
theorem parted_no (n : ApiNode) (hk : partsB n.kind = false) : partedB n = !decide (0 < (n.l.length : Int)) := by
  unfold partedB
  rw [if_neg (by simp [hk])]
  by_cases h : (n.l.length : Int) = 0
  · rw [decide_eq_true h, decide_eq_false (by omega)]; rfl
  · rw [decide_eq_false h, decide_eq_true (by omega)]; rfl
theorem unusedB_eq (n : ApiNode) : unusedB n = match abcN n.kind with | 0 => decide (n.a = 0) && (decide (n.b = 0) && (decide (n.c = 0) && true)) | 1 => decide (n.b = 0) && (decide (n.c = 0) && true) | 2 => decide (n.c = 0) && true | _ => true := by
  have := abc_le n.kind
  unfold unusedB
  generalize abcN n.kind = m at *
  match m with
  | 0 => rfl
  | 1 => rfl
  | 2 => rfl
  | 3 => rfl
  | m + 4 => omega
theorem rright_out (n : ApiNode) (h : boundsB n = false) : m_syntagmaref05_right n = some false := by
  unfold m_syntagmaref05_right
  unfold boundsB at h
  rw [show ((((decide (n.pos < 0)) || (decide (1048576 < n.pos))) || (decide (n.kind < 1))) || (decide (14 < n.kind))) = true by
    revert h
    cases decide (n.pos < 0) <;> cases decide (1048576 < n.pos) <;> cases decide (n.kind < 1) <;> cases decide (14 < n.kind) <;> decide]
  rfl
set_option maxHeartbeats 4000000 in
theorem rright_in (n : ApiNode) (hN : n.l.length * 40 ≤ 140737488355328) (h : boundsB n = true) : m_syntagmaref05_right n = some (((namedB n && countedB n) && partedB n) && unusedB n) := by
  have hb : 1 ≤ n.kind ∧ n.kind ≤ 14 ∧ 0 ≤ n.pos ∧ n.pos ≤ 1048576 := by
    unfold boundsB at h
    simp only [Bool.not_eq_true', Bool.or_eq_false_iff, decide_eq_false_iff_not] at h
    omega
  unfold m_syntagmaref05_right
  rw [show ((((decide (n.pos < 0)) || (decide (1048576 < n.pos))) || (decide (n.kind < 1))) || (decide (14 < n.kind))) = false by
    rw [decide_eq_false (by omega), decide_eq_false (by omega), decide_eq_false (by omega), decide_eq_false (by omega)]; rfl, cond_false, rname_eq, rtag_eq]
  have hk : n.kind = 1 ∨ n.kind = 2 ∨ n.kind = 3 ∨ n.kind = 4 ∨ n.kind = 5 ∨ n.kind = 6 ∨ n.kind = 7 ∨ n.kind = 8 ∨ n.kind = 9 ∨ n.kind = 10 ∨ n.kind = 11 ∨ n.kind = 12 ∨ n.kind = 13 ∨ n.kind = 14 := by omega
  have e1 : decide (1 ≤ n.n_) = !decide (n.n_ < 1) := by
    by_cases h : n.n_ < 1
    · rw [decide_eq_true h, decide_eq_false (by omega)]; rfl
    · rw [decide_eq_false h, decide_eq_true (by omega)]; rfl
  have e2 : decide (n.n_ ≤ 7) = !decide (7 < n.n_) := by
    by_cases h : 7 < n.n_
    · rw [decide_eq_true h, decide_eq_false (by omega)]; rfl
    · rw [decide_eq_false h, decide_eq_true (by omega)]; rfl
  have e3 : decide ((n.s.length : Int) ≤ 200) = !decide (200 < (n.s.length : Int)) := by
    by_cases h : 200 < (n.s.length : Int)
    · rw [decide_eq_true h, decide_eq_false (by omega)]; rfl
    · rw [decide_eq_false h, decide_eq_true (by omega)]; rfl
  rcases hk with hk | hk | hk | hk | hk | hk | hk | hk | hk | hk | hk | hk | hk | hk
  all_goals
    first
    | rw [parted_no _ (by rw [hk]; rfl)]
    | rw [parted_lab _ (.inl hk), rlabels_eq _ hN (.inl hk)]
    | rw [parted_lab _ (.inr hk), rlabels_eq _ hN (.inr hk)]
    rw [unusedB_eq]
    unfold namedB countedB
    rw [hk, e1, e2, e3]
    generalize labelsB _ = p0
    generalize decide (0 < (n.l.length : Int)) = p1
    generalize nameP n.name = p2
    generalize tagP n.name = p3
    generalize decide (n.n_ = 0) = q0; generalize decide (n.n_ = 1) = q6; generalize decide (n.n_ < 1) = q7; generalize decide (7 < n.n_) = q8
    generalize decide (200 < (n.s.length : Int)) = q9
    generalize decide (n.s = []) = q1; generalize decide (n.a = 0) = q2; generalize decide (n.b = 0) = q3; generalize decide (n.c = 0) = q4; generalize decide (n.name = []) = q5
    generalize m_syntagmaref05_labels _ = zz
    clear hN h hb hk e1 e2 e3
    try clear p0
    try clear p1
    try clear p2
    try clear p3
    try clear q0
    try clear q1
    try clear q2
    try clear q3
    try clear q4
    try clear q5
    try clear q6
    try clear q7
    try clear q8
    try clear q9
    try clear zz
    try (obtain _ | zz := zz)
    all_goals
      try revert p0
      try revert p1
      try revert p2
      try revert p3
      try revert q0
      try revert q1
      try revert q2
      try revert q3
      try revert q4
      try revert q5
      try revert q6
      try revert q7
      try revert q8
      try revert q9
      try revert zz
      decide +kernel
theorem rright_eqB (n : ApiNode) (h : n.l.length * 40 ≤ 140737488355328) : m_syntagmaref05_right n = some (rightB n) := by
  unfold rightB
  cases hb : boundsB n with
  | false => exact rright_out n hb
  | true => rw [Bool.true_and]; exact rright_in n h hb
theorem right_nb (n : ApiNode) (h : rightB n = true) : NB n := by
  unfold rightB partedB at h
  unfold NB
  simp only [Bool.and_eq_true] at h
  have h2 := h.2.1.2
  split at h2
  · simp only [Bool.and_eq_true, decide_eq_true_eq] at h2
    omega
  · simp only [decide_eq_true_eq] at h2
    omega
end Go.Proofs.Ytnnjgbcojdnhhaa
set_option linter.unusedVariables false
set_option linter.unusedSimpArgs false
set_option maxRecDepth 100000
namespace Go.Proofs.Ytnnjgbcojdnhhaa
open Go.V
open Classical
def gd (l : List Int) (k : Int) : Int := (l[k.toNat]?).getD 0
theorem idxD {l : List Int} {k : Int} (h0 : 0 ≤ k) (h1 : k < (l.length : Int)) : idx l k = some (gd l k) := by
  have h2 : k.toNat < l.length := by omega
  obtain ⟨m, rfl⟩ : ∃ m : Nat, k = (m : Int) := ⟨k.toNat, by omega⟩
  rw [idx_nat]
  unfold gd
  rw [Int.toNat_natCast, List.getElem?_eq_getElem (by omega)]; rfl
def Bd (M : Int) (l : List Int) : Prop := ∀ x ∈ l, 0 ≤ x ∧ x ≤ M
theorem bd_gd {M : Int} {l : List Int} (h : Bd M l) (hM : 0 ≤ M) (k : Int) : 0 ≤ gd l k ∧ gd l k ≤ M := by
  unfold gd
  cases e : l[k.toNat]? with
  | none => exact ⟨by decide, hM⟩
  | some x => exact h x (List.mem_of_getElem? e)
theorem bd_set {M : Int} {l : List Int} (h : Bd M l) {y : Int} (hy : 0 ≤ y ∧ y ≤ M) (i : Nat) : Bd M (l.set i y) := by
  intro x hx
  rcases List.mem_or_eq_of_mem_set hx with hx | rfl
  · exact h x hx
  · exact hy
theorem bd_up {M N : Int} {l : List Int} (h : Bd M l) (hMN : M ≤ N) : Bd N l := fun x hx => ⟨(h x hx).1, Int.le_trans (h x hx).2 hMN⟩
def inc1 (c : List Int) (k : Int) : List Int := c.set k.toNat (gd c k + 1)
def incs (c ks : List Int) : List Int := ks.foldl inc1 c
theorem incs_len : ∀ (ks c : List Int), (incs c ks).length = c.length
  | [], _ => rfl
  | k :: ks, c => by
    show (incs (inc1 c k) ks).length = _
    rw [incs_len ks]; simp [inc1]
theorem incs_snoc (c ks : List Int) (k : Int) : incs c (ks ++ [k]) = inc1 (incs c ks) k := by
  unfold incs; rw [List.foldl_append]; rfl
theorem incs_bd {M : Int} (hM : 0 ≤ M) : ∀ (ks c : List Int), Bd M c → Bd (M + ks.length) (incs c ks)
  | [], c, h => by simpa [incs] using h
  | k :: ks, c, h => by
    have h1 := bd_gd h hM k
    have := incs_bd (M := M + 1) (by omega) ks (inc1 c k) (bd_set (bd_up h (by omega)) (by omega) _)
    show Bd _ (incs (inc1 c k) ks)
    refine bd_up this ?_
    simp only [List.length_cons]; omega
def mx (f : Int → Int) (b : Int) (ks : List Int) : Int := ks.foldl (fun b k => if f k > b then f k else b) b
theorem mx_snoc (f : Int → Int) (b : Int) (ks : List Int) (k : Int) : mx f b (ks ++ [k]) = if f k > mx f b ks then f k else mx f b ks := by
  unfold mx; rw [List.foldl_append]; rfl
theorem mx_bd {f : Int → Int} {M : Int} (hf : ∀ k, 0 ≤ f k ∧ f k ≤ M) : ∀ (ks : List Int) (b : Int), 0 ≤ b ∧ b ≤ M → 0 ≤ mx f b ks ∧ mx f b ks ≤ M
  | [], b, h => h
  | k :: ks, b, h => by
    show 0 ≤ mx f (if f k > b then f k else b) ks ∧ mx f (if f k > b then f k else b) ks ≤ M
    refine mx_bd hf ks _ ?_
    have := hf k
    split <;> omega
def cntU (L : List ApiNode) : Nat → List Int
  | 0 => List.replicate L.length 0
  | i + 1 => match L[i]? with | some n => incs (cntU L i) (kidsP n) | none => cntU L i
def depU (L : List ApiNode) : Nat → List Int
  | 0 => List.replicate L.length 0
  | i + 1 => match L[i]? with | some n => (depU L i).set i (mx (gd (depU L i)) (gd (depU L i) i) (kidsP n) + 1) | none => depU L i
theorem cntU_s {L : List ApiNode} {i : Nat} {n : ApiNode} (h : L[i]? = some n) : cntU L (i + 1) = incs (cntU L i) (kidsP n) := by rw [cntU, h]
theorem depU_s {L : List ApiNode} {i : Nat} {n : ApiNode} (h : L[i]? = some n) : depU L (i + 1) = (depU L i).set i (mx (gd (depU L i)) (gd (depU L i) i) (kidsP n) + 1) := by rw [depU, h]
theorem cntU_len (L : List ApiNode) : ∀ i, (cntU L i).length = L.length
  | 0 => by simp [cntU]
  | i + 1 => by
    rw [cntU]
    split
    · rw [incs_len, cntU_len L i]
    · exact cntU_len L i
theorem depU_len (L : List ApiNode) : ∀ i, (depU L i).length = L.length
  | 0 => by simp [depU]
  | i + 1 => by
    rw [depU]
    split
    · rw [List.length_set, depU_len L i]
    · exact depU_len L i
theorem bd_zero (n : Nat) : Bd 0 (List.replicate n (0 : Int)) := by
  intro x hx
  rw [List.mem_replicate] at hx
  omega
theorem cntU_bdp (L : List ApiNode) : ∀ i : Nat, (∀ (j : Nat) n, j < i → L[j]? = some n → NB n) → Bd (63 * i) (cntU L i)
  | 0, _ => by simpa [cntU] using bd_zero _
  | i + 1, hN => by
    have ih := cntU_bdp L i (fun j n hj => hN j n (by omega))
    rw [cntU]
    split
    · rename_i n hn
      have := kids_len n (hN i n (by omega) hn)
      exact bd_up (incs_bd (by omega) _ _ ih) (by omega)
    · exact bd_up ih (by omega)
theorem cntU_bd (L : List ApiNode) (hN : ∀ n ∈ L, NB n) (i : Nat) : Bd (63 * i) (cntU L i) := cntU_bdp L i (fun j n _ h => hN n (List.mem_of_getElem? h))
theorem depU_bd (L : List ApiNode) : ∀ i : Nat, Bd (i : Int) (depU L i)
  | 0 => by simpa [depU] using bd_zero _
  | i + 1 => by
    have ih := depU_bd L i
    rw [depU]
    split
    · rename_i n hn
      have h1 := mx_bd (M := (i : Int)) (fun k => bd_gd ih (by omega) k) (kidsP n) (gd (depU L i) i) (bd_gd ih (by omega) _)
      exact bd_set (bd_up ih (by omega)) (by constructor <;> omega) _
    · exact bd_up ih (by omega)
def inL (i : Nat) (ks : List Int) : Prop := ∀ k ∈ ks, 0 ≤ k ∧ k < (i : Int)
def okN (L : List ApiNode) (i : Nat) (n : ApiNode) : Prop := rightB n = true ∧ inL i (kidsP n) ∧ (n.kind = 8 → ∃ m, L[n.a.toNat]? = some m ∧ m.kind = 5)
theorem linkL (i : Nat) (ks c : List Int) (M : Int) (hM : 0 ≤ M ∧ M ≤ 100000) (hks : ks.length ≤ 63) (hi : i ≤ c.length) (hb : Bd M c) :
    ∃ o, m_tree_linked_l1 (i : Int) ks FU (0, c) = some o ∧ ((inL i ks → o = Out.go (incs c ks)) ∧ (¬ inL i ks → ∃ c', o = Out.ret (false, c'))) := by
  refine loop_rng (φ := fun n j s => m_tree_linked_l1 (i : Int) ks n (j, s)) (l := ks) (fun j s => s = incs c (ks.take j) ∧ inL i (ks.take j)) _ ?_ ?_ (by rw [FUv]; omega) c ⟨rfl, fun k hk => by simp at hk⟩
  · rintro n j x s hx hj ⟨rfl, hI⟩
    simp only [m_tree_linked_l1]
    rw [decide_eq_true (show (j : Int) < ks.length by omega), cond_true, getI hx, Option.bind_some]
    by_cases hq : 0 ≤ x ∧ x < (i : Int)
    · have hbd := incs_bd hM.1 (ks.take j) c hb
      have hl : (ks.take j).length = j := by simp; omega
      rw [hl] at hbd
      have hg := bd_gd hbd (by omega) x
      rw [decide_eq_false (by omega), decide_eq_false (by omega), Bool.or_false, cond_false, idxD hq.1 (by rw [incs_len]; omega), Option.bind_some, grd_pos (by omega), Option.bind_some, grd_pos (by omega)]
      refine .inl ⟨_, rfl, ?_, ?_⟩
      · rw [take_snoc hx, incs_snoc]; rfl
      · rw [take_snoc hx]
        intro k hk
        rcases List.mem_append.1 hk with hk | hk
        · exact hI k hk
        · rw [List.mem_singleton] at hk; rw [hk]; exact hq
    · have hq2 : (decide (x < 0) || decide ((i : Int) ≤ x)) = true := by
        rw [Bool.or_eq_true, decide_eq_true_eq, decide_eq_true_eq]; omega
      rw [hq2, cond_true]
      exact .inr ⟨_, rfl, fun h => absurd (h x (List.mem_of_getElem? hx)) hq, fun _ => ⟨_, rfl⟩⟩
  · rintro n s ⟨rfl, hI⟩
    simp only [m_tree_linked_l1]
    rw [decide_eq_false (by omega), cond_false]
    rw [List.take_length] at *
    exact ⟨_, rfl, fun _ => rfl, fun h => absurd hI h⟩
theorem kind8 {n : ApiNode} (h : n.kind = 8) : n.a ∈ kidsP n := by
  unfold kidsP
  rw [h]
  simp [abcN]
theorem linked_eq (e : ApiExpr) (i : Nat) (n : ApiNode) (c : List Int) (M : Int) (hn : e.l[i]? = some n) (hN : NB n) (hM : 0 ≤ M ∧ M ≤ 100000) (hc : c.length = e.l.length) (hb : Bd M c) :
    ∃ b c', m_tree_linked e (i : Int) c = some (b, c') ∧ (b = true ↔ inL i (kidsP n) ∧ (n.kind = 8 → ∃ m, e.l[n.a.toNat]? = some m ∧ m.kind = 5)) ∧ (b = true → c' = incs c (kidsP n)) := by
  have hi := getLt hn
  unfold m_tree_linked
  rw [getI hn, Option.bind_some, kids_eq n hN, Option.bind_some]
  obtain ⟨o, h1, h2, h3⟩ := linkL i (kidsP n) c M hM (kids_len n hN) (by omega) hb
  rw [h1, Option.bind_some]
  by_cases hq : inL i (kidsP n)
  · rw [h2 hq, go_on, Option.bind_some]
    by_cases h8 : n.kind = 8
    · have ha := hq n.a (kind8 h8)
      have hal : n.a.toNat < e.l.length := by omega
      rw [decide_eq_true h8, Bool.not_true, cond_false, Option.bind_some, show idx e.l n.a = some e.l[n.a.toNat] by
        obtain ⟨m, hm⟩ : ∃ m : Nat, n.a = (m : Int) := ⟨n.a.toNat, by omega⟩
        simp only [hm, Int.toNat_natCast]
        rw [idx_nat, List.getElem?_eq_getElem], Option.bind_some]
      refine ⟨_, _, rfl, ?_, fun _ => rfl⟩
      rw [decide_eq_true_eq]
      constructor
      · exact fun h => ⟨hq, fun _ => ⟨_, List.getElem?_eq_getElem hal, h⟩⟩
      · rintro ⟨_, h⟩
        obtain ⟨m, hm, h5⟩ := h h8
        rw [List.getElem?_eq_getElem hal] at hm
        rw [Option.some.inj hm]; exact h5
    · rw [decide_eq_false h8, Bool.not_false, cond_true]
      exact ⟨_, _, rfl, ⟨fun _ => ⟨hq, fun h => absurd h h8⟩, fun _ => rfl⟩, fun _ => rfl⟩
  · obtain ⟨c', rfl⟩ := h3 hq
    exact ⟨_, _, rfl, ⟨fun h => absurd h (by simp), fun h => absurd h.1 hq⟩, fun h => absurd h (by simp)⟩
def allOk (L : List ApiNode) : Prop := ∀ (i : Nat) n, L[i]? = some n → okN L i n
theorem mayL (e : ApiExpr) (hl : e.l.length ≤ 700) (hN : ∀ n ∈ e.l, NB n) : ∃ o, m_tree_May_l1 e FU (0, List.replicate e.l.length 0) = some o ∧ ((allOk e.l → o = Out.go (cntU e.l e.l.length)) ∧ (¬ allOk e.l → o = Out.ret 4)) := by
  refine loop_rng (φ := fun n j s => m_tree_May_l1 e n (j, s)) (l := e.l) (fun i s => s = cntU e.l i ∧ ∀ (j : Nat) n, j < i → e.l[j]? = some n → okN e.l j n) _ ?_ ?_ (by rw [FUv]; omega) _ ⟨rfl, fun j n hj => by omega⟩
  · rintro m i n s hn hi ⟨rfl, hI⟩
    simp only [m_tree_May_l1]
    rw [decide_eq_true (show (i : Int) < e.l.length by omega), cond_true, getI hn, Option.bind_some]
    have hNn := hN n (List.mem_of_getElem? hn)
    rw [show m_tree_right (⟨n.kind, n.a, n.b, n.c, n.n_, n.name, n.s, n.l, n.pos⟩ : ApiNode) = m_tree_right n from rfl, right_eq n hNn, Option.bind_some]
    obtain ⟨b, c', h1, h2, h3⟩ := linked_eq e i n (cntU e.l i) (63 * i) hn hNn (by omega) (cntU_len _ _) (cntU_bd _ hN i)
    cases hr : rightB n with
    | false =>
      exact .inr ⟨_, rfl, fun h => absurd (h i n hn).1 (by simp [hr]), fun _ => rfl⟩
    | true =>
      rw [Bool.not_true, cond_false, h1, Option.bind_some]
      cases b with
      | false =>
        refine .inr ⟨_, rfl, fun h => ?_, fun _ => rfl⟩
        have := h2.2 (h i n hn).2
        simp at this
      | true =>
        refine .inl ⟨c', ?_, ?_, ?_⟩
        · show (bif (!true) then _ else grd (InR ((i : Int) + 1)) (m_tree_May_l1 e m ((i : Int) + 1, c'))) = _
          rw [Bool.not_true, cond_false, grd_pos (by omega)]
        · rw [h3 rfl, cntU_s hn]
        · intro j x hj hx
          by_cases hji : j = i
          · subst hji
            rw [hn] at hx
            rw [← Option.some.inj hx]
            exact ⟨hr, h2.1 rfl⟩
          · exact hI j x (by omega) hx
  · rintro m s ⟨rfl, hI⟩
    simp only [m_tree_May_l1]
    rw [decide_eq_false (by omega), cond_false]
    exact ⟨_, rfl, fun _ => rfl, fun h => absurd (fun i n hn => hI i n (getLt hn) hn) h⟩
theorem gd_self {l : List Int} {i : Nat} (h : i < l.length) (y : Int) : gd (l.set i y) (i : Int) = y := by
  unfold gd; rw [Int.toNat_natCast, List.getElem?_set_self h]; rfl
theorem gd_other {l : List Int} {i : Nat} {k : Int} (h : k.toNat ≠ i) (y : Int) : gd (l.set i y) k = gd l k := by
  unfold gd; rw [List.getElem?_set_ne (Ne.symm h)]
theorem set_gd {l : List Int} {i : Nat} (h : i < l.length) : l.set i (gd l (i : Int)) = l := by
  unfold gd
  rw [Int.toNat_natCast, List.getElem?_eq_getElem h]
  exact List.set_getElem_self h
theorem rmayK (i : Nat) (ks c d : List Int) (M : Int) (hM : 0 ≤ M ∧ M ≤ 100000) (hks : ks.length ≤ 63) (hi : i < c.length) (hd : d.length = c.length) (hb : Bd M c) :
    ∃ o, m_syntagmaref05_May_l2 (i : Int) ks FU (0, c, d) = some o ∧ ((inL i ks → o = Out.go (incs c ks, d.set i (mx (gd d) (gd d i) ks))) ∧ (¬ inL i ks → o = Out.ret 4)) := by
  refine loop_rng (φ := fun n j (s : List Int × List Int) => m_syntagmaref05_May_l2 (i : Int) ks n (j, s.1, s.2)) (l := ks) (fun j s => s = (incs c (ks.take j), d.set i (mx (gd d) (gd d i) (ks.take j))) ∧ inL i (ks.take j)) _ ?_ ?_ (by rw [FUv]; omega) (c, d) ⟨?_, fun k hk => by simp at hk⟩
  · rintro n j x s hx hj ⟨rfl, hI⟩
    simp only [m_syntagmaref05_May_l2]
    rw [decide_eq_true (show (j : Int) < ks.length by omega), cond_true, getI hx, Option.bind_some]
    by_cases hq : 0 ≤ x ∧ x < (i : Int)
    · have hbd := incs_bd hM.1 (ks.take j) c hb
      have hl : (ks.take j).length = j := by simp; omega
      rw [hl] at hbd
      have hg := bd_gd hbd (by omega) x
      have hxi : x.toNat ≠ i := by omega
      rw [decide_eq_false (by omega), cond_false, Option.bind_some, decide_eq_false (by omega), Option.bind_some, cond_false, Option.bind_some, idxD (l := incs c _) hq.1 (by rw [incs_len]; omega), Option.bind_some, grd_pos (by omega)]
      rw [Option.bind_some, idxD (k := (i : Int)) (by omega) (by rw [List.length_set]; omega), Option.bind_some, Option.bind_some, idxD (k := x) (by omega) (by rw [List.length_set]; omega), Option.bind_some, Option.bind_some, grd_pos (by omega)]
      refine .inl ⟨(_, _), rfl, ?_, ?_⟩
      · rw [take_snoc hx, incs_snoc, mx_snoc, gd_self (by omega), gd_other hxi, Int.toNat_natCast, List.set_set]; rfl
      · rw [take_snoc hx]
        intro k hk
        rcases List.mem_append.1 hk with hk | hk
        · exact hI k hk
        · rw [List.mem_singleton] at hk; rw [hk]; exact hq
    · have hq2 : ((bif (decide (x < 0)) then (some true) else ((some x).bind fun x6 => some (decide ((i : Int) ≤ x6)))) : Option Bool) = some true := by
        by_cases h0 : x < 0
        · rw [decide_eq_true h0]; rfl
        · rw [decide_eq_false h0, cond_false, Option.bind_some, decide_eq_true (p := (i : Int) ≤ x) (by omega)]
      rw [hq2, Option.bind_some, cond_true]
      exact .inr ⟨_, rfl, fun h => absurd (h x (List.mem_of_getElem? hx)) hq, fun _ => rfl⟩
  · rintro n s ⟨rfl, hI⟩
    simp only [m_syntagmaref05_May_l2]
    rw [decide_eq_false (by omega), cond_false]
    rw [List.take_length] at *
    exact ⟨_, rfl, fun _ => rfl, fun h => absurd hI h⟩
  · show (c, d) = (c, d.set i (gd d i))
    rw [set_gd (by omega)]
theorem rmayL (e : ApiExpr) (hl : e.l.length ≤ 700) (hS : ∀ n ∈ e.l, n.l.length * 40 ≤ 140737488355328) : ∃ o, m_syntagmaref05_May_l1 e FU (0, List.replicate e.l.length 0, List.replicate e.l.length 0) = some o ∧ ((allOk e.l → o = Out.go (cntU e.l e.l.length, depU e.l e.l.length)) ∧ (¬ allOk e.l → o = Out.ret 4)) := by
  refine loop_rng (φ := fun n j (s : List Int × List Int) => m_syntagmaref05_May_l1 e n (j, s.1, s.2)) (l := e.l) (fun i s => s = (cntU e.l i, depU e.l i) ∧ ∀ (j : Nat) n, j < i → e.l[j]? = some n → okN e.l j n) _ ?_ ?_ (by rw [FUv]; omega) (_, _) ⟨rfl, fun j n hj => by omega⟩
  · rintro m i n s hn hi ⟨rfl, hI⟩
    simp only [m_syntagmaref05_May_l1]
    rw [decide_eq_true (show (i : Int) < e.l.length by omega), cond_true, getI hn, Option.bind_some]
    rw [rright_eqB n (hS n (List.mem_of_getElem? hn)), Option.bind_some]
    by_cases hNn : NB n
    rotate_left
    · cases hr : rightB n with
      | false => exact .inr ⟨_, rfl, fun h => absurd (h i n hn).1 (by simp [hr]), fun _ => rfl⟩
      | true => exact absurd (right_nb n hr) hNn
    obtain ⟨o, h1, h2, h3⟩ := rmayK i (kidsP n) (cntU e.l i) (depU e.l i) (63 * i) (by omega) (kids_len n hNn) (by rw [cntU_len]; omega) (by rw [cntU_len, depU_len]) (cntU_bdp _ i (fun j m hj hm => right_nb m (hI j m hj hm).1))
    cases hr : rightB n with
    | false =>
      exact .inr ⟨_, rfl, fun h => absurd (h i n hn).1 (by simp [hr]), fun _ => rfl⟩
    | true =>
      rw [Bool.not_true, cond_false, Option.bind_some, rkids_eq n hNn, Option.bind_some, h1, Option.bind_some]
      by_cases hq : inL i (kidsP n)
      · rw [h2 hq, go_on]
        have hdl : i < (depU e.l i).length := by rw [depU_len]; omega
        have hb := mx_bd (M := (i : Int)) (fun k => bd_gd (depU_bd e.l i) (by omega) k) (kidsP n) (gd (depU e.l i) i) (bd_gd (depU_bd e.l i) (by omega) _)
        simp only
        rw [idxD (k := (i : Int)) (by omega) (by rw [List.length_set]; omega), Option.bind_some, gd_self hdl, grd_pos (by omega), Option.bind_some, Option.bind_some]
        have hgo : ∀ (hok : n.kind = 8 → ∃ m, e.l[n.a.toNat]? = some m ∧ m.kind = 5), ((incs (cntU e.l i) (kidsP n), ((depU e.l i).set i (mx (gd (depU e.l i)) (gd (depU e.l i) i) (kidsP n))).set (i : Int).toNat (mx (gd (depU e.l i)) (gd (depU e.l i) i) (kidsP n) + 1)) : List Int × List Int) = (cntU e.l (i + 1), depU e.l (i + 1)) ∧ ∀ (j : Nat) n, j < i + 1 → e.l[j]? = some n → okN e.l j n := by
          intro hok
          refine ⟨by rw [cntU_s hn, depU_s hn, Int.toNat_natCast, List.set_set], ?_⟩
          intro j x hj hx
          by_cases hji : j = i
          · subst hji
            rw [hn] at hx
            rw [← Option.some.inj hx]
            exact ⟨hr, hq, hok⟩
          · exact hI j x (by omega) hx
        by_cases h8 : n.kind = 8
        · have ha := hq n.a (kind8 h8)
          have hal : n.a.toNat < e.l.length := by omega
          rw [decide_eq_true h8, cond_true, Option.bind_some, show idx e.l n.a = some e.l[n.a.toNat] by
            obtain ⟨m, hm⟩ : ∃ m : Nat, n.a = (m : Int) := ⟨n.a.toNat, by omega⟩
            simp only [hm, Int.toNat_natCast]
            rw [idx_nat, List.getElem?_eq_getElem], Option.bind_some]
          by_cases h5 : e.l[n.a.toNat].kind = 5
          · rw [decide_eq_true h5, Bool.not_true, cond_false, grd_pos (by omega)]
            exact .inl ⟨(_, _), rfl, hgo fun _ => ⟨_, List.getElem?_eq_getElem hal, h5⟩⟩
          · rw [decide_eq_false h5, Bool.not_false, cond_true]
            refine .inr ⟨_, rfl, fun h => ?_, fun _ => rfl⟩
            obtain ⟨m, hm, hm5⟩ := (h i n hn).2.2 h8
            rw [List.getElem?_eq_getElem hal] at hm
            exact absurd (by rw [Option.some.inj hm]; exact hm5) h5
        · rw [decide_eq_false h8, cond_false, grd_pos (by omega)]
          exact .inl ⟨(_, _), rfl, hgo fun h => absurd h h8⟩
      · rw [h3 hq]
        exact .inr ⟨_, rfl, fun h => absurd (h i n hn).2.1 hq, fun _ => rfl⟩
  · rintro m s ⟨rfl, hI⟩
    simp only [m_syntagmaref05_May_l1]
    rw [decide_eq_false (by omega), cond_false]
    exact ⟨_, rfl, fun _ => rfl, fun h => absurd (fun i n hn => hI i n (getLt hn) hn) h⟩
theorem depK (i : Nat) (ks d : List Int) (hks : ks.length ≤ 63) (hi : i < d.length) (hI : inL i ks) :
    m_tree_depths_l2 (i : Int) ks FU (0, d) = some (d.set i (mx (gd d) (gd d i) ks)) := by
  obtain ⟨o, h1, h2⟩ := loop_rng (φ := fun n j s => m_tree_depths_l2 (i : Int) ks n (j, s)) (l := ks) (fun j s => s = d.set i (mx (gd d) (gd d i) (ks.take j))) (fun o => o = d.set i (mx (gd d) (gd d i) ks)) (by
    rintro n j x s hx hj rfl
    simp only [m_tree_depths_l2]
    have hq := hI x (List.mem_of_getElem? hx)
    have hxi : x.toNat ≠ i := by omega
    rw [decide_eq_true (show (j : Int) < ks.length by omega), cond_true, getI hx, Option.bind_some]
    rw [idxD (k := (i : Int)) (by omega) (by rw [List.length_set]; omega), Option.bind_some, idxD (k := x) (by omega) (by rw [List.length_set]; omega), Option.bind_some, Option.bind_some, grd_pos (by omega)]
    refine .inl ⟨_, rfl, ?_⟩
    rw [take_snoc hx, mx_snoc, gd_self (by omega), gd_other hxi, Int.toNat_natCast, List.set_set]) (by
    rintro n s rfl
    simp only [m_tree_depths_l2]
    rw [decide_eq_false (by omega), cond_false, List.take_length]
    exact ⟨_, rfl, rfl⟩) (by rw [FUv]; omega) d (by
    show d = d.set i (gd d i)
    rw [set_gd (by omega)])
  rw [h1, h2]
theorem depths_eq (e : ApiExpr) (hl : e.l.length ≤ 700) (hN : ∀ n ∈ e.l, NB n) (hok : allOk e.l) : m_tree_depths e = some (depU e.l e.l.length) := by
  unfold m_tree_depths
  rw [grd_pos (by omega), grd_pos (by omega), Int.toNat_natCast]
  obtain ⟨o, h1, h2⟩ := loop_rng (φ := fun n j s => m_tree_depths_l1 e n (j, s)) (l := e.l) (fun i s => s = depU e.l i) (fun o => o = depU e.l e.l.length) (by
    rintro m i n s hn hi rfl
    simp only [m_tree_depths_l1]
    have hNn := hN n (List.mem_of_getElem? hn)
    have hdl : i < (depU e.l i).length := by rw [depU_len]; omega
    have hb := mx_bd (M := (i : Int)) (fun k => bd_gd (depU_bd e.l i) (by omega) k) (kidsP n) (gd (depU e.l i) i) (bd_gd (depU_bd e.l i) (by omega) _)
    rw [decide_eq_true (show (i : Int) < e.l.length by omega), cond_true, getI hn, Option.bind_some]
    rw [show m_tree_Kids (⟨n.kind, n.a, n.b, n.c, n.n_, n.name, n.s, n.l, n.pos⟩ : ApiNode) = m_tree_Kids n from rfl, kids_eq n hNn, Option.bind_some, depK i _ _ (kids_len n hNn) hdl (hok i n hn).2.1, Option.bind_some]
    rw [idxD (k := (i : Int)) (by omega) (by rw [List.length_set]; omega), Option.bind_some, gd_self hdl, grd_pos (by omega), Option.bind_some, grd_pos (by omega)]
    refine .inl ⟨_, rfl, ?_⟩
    rw [depU_s hn, Int.toNat_natCast, List.set_set]) (by
    rintro n s rfl
    simp only [m_tree_depths_l1]
    rw [decide_eq_false (by omega), cond_false]
    exact ⟨_, rfl, rfl⟩) (by rw [FUv]; omega) (List.replicate e.l.length 0) rfl
  rw [h1, h2, Option.bind_some]
theorem contains_eq (l : List Int) (h : l.length ≤ 1000) : m_slices_ContainsFunc_int_int l (fun y0 => m_tree_May_1 y0) = some (decide (∃ c ∈ l, c ≠ 1)) := by
  unfold m_slices_ContainsFunc_int_int m_slices_IndexFunc_int_int
  rw [loop_find (φ := m_slices_IndexFunc_int_int_l1 l (fun y0 => m_tree_May_1 y0)) (l := l) (fun i => (i : Int)) (fun c => !decide (c = 1)) ?_ ?_ (by rw [FUv]; omega)]
  · rw [Option.bind_some]
    cases hf : l.findIdx? (fun c => !decide (c = 1)) with
    | none =>
      have : ¬ ∃ c ∈ l, c ≠ 1 := by
        rintro ⟨c, hc, hne⟩
        have := List.findIdx?_eq_none_iff.1 hf c hc
        simp [hne] at this
      rw [decide_eq_false this]; rfl
    | some i =>
      obtain ⟨hi, h1, _⟩ := List.findIdx?_eq_some_iff_getElem.1 hf
      have : ∃ c ∈ l, c ≠ 1 := ⟨l[i], List.getElem_mem hi, by simpa using h1⟩
      rw [decide_eq_true this]
      show some (decide (0 ≤ (i : Int))) = some true
      rw [decide_eq_true (by omega)]
  · intro n i x hx hi
    simp only [m_slices_IndexFunc_int_int_l1]
    rw [decide_eq_true (show (i : Int) < l.length by omega), cond_true, getI hx, Option.bind_some, show m_tree_May_1 x = some (!decide (x = 1)) from rfl, Option.bind_some]
    exact ⟨fun hq => by rw [hq, cond_false, grd_pos (by omega)], fun hq => by rw [hq, cond_true]⟩
  · intro n
    simp only [m_slices_IndexFunc_int_int_l1]
    rw [decide_eq_false (by omega), cond_false]
def odd1 (L : List ApiNode) : Prop := ∃ c ∈ (cntU L L.length).take (L.length - 1), c ≠ 1
noncomputable def mayT (L : List ApiNode) : Int := if L.length = 0 ∨ 600 < L.length then 8 else if ¬ allOk L then 4 else if odd1 L then 4 else if 100 < gd (depU L L.length) ((L.length : Int) - 1) then 6 else 0
theorem may_eq (e : ApiExpr) (hl : e.l.length ≤ 701) (hN : ∀ n ∈ e.l, NB n) : m_tree_May e = some (mayT e.l) := by
  unfold m_tree_May mayT
  by_cases h0 : e.l.length = 0 ∨ 600 < e.l.length
  · rw [if_pos h0, show (decide ((e.l.length : Int) = 0) || decide (600 < (e.l.length : Int))) = true by rw [Bool.or_eq_true, decide_eq_true_eq, decide_eq_true_eq]; omega, cond_true]
  rw [if_neg h0, decide_eq_false (by omega), decide_eq_false (by omega), Bool.or_false, cond_false, grd_pos (by omega), grd_pos (by omega), Int.toNat_natCast]
  obtain ⟨o, h1, h2, h3⟩ := mayL e (by omega) hN
  rw [h1, Option.bind_some]
  by_cases hok : allOk e.l
  · rw [h2 hok, go_on, if_neg (fun h => h hok), cntU_len, grd_pos (by omega), show ((e.l.length : Int) - 1) = ((e.l.length - 1 : Nat) : Int) by omega, sli_take (by rw [cntU_len]; omega), Option.bind_some, contains_eq _ (by simp; omega), Option.bind_some]
    by_cases ho : odd1 e.l
    · rw [if_pos ho, decide_eq_true (p := ∃ c ∈ _, c ≠ 1) ho, cond_true]
    · rw [if_neg ho, decide_eq_false (p := ∃ c ∈ _, c ≠ 1) ho, cond_false, depths_eq e (by omega) hN hok, Option.bind_some, grd_pos (by omega), idxD (by omega) (by rw [depU_len]; omega), Option.bind_some]
      by_cases hd : 100 < gd (depU e.l e.l.length) ((e.l.length - 1 : Nat) : Int)
      · rw [if_pos hd, decide_eq_true hd, cond_true]
      · rw [if_neg hd, decide_eq_false hd, cond_false]
  · rw [h3 hok, if_pos hok]; rfl
theorem rmay_eqB (e : ApiExpr) (hl : e.l.length ≤ 701) (hS : ∀ n ∈ e.l, n.l.length * 40 ≤ 140737488355328) : m_syntagmaref05_May e = some (mayT e.l) := by
  unfold m_syntagmaref05_May mayT
  by_cases h0 : e.l.length = 0 ∨ 600 < e.l.length
  · rw [if_pos h0, show (decide ((e.l.length : Int) < 1) || decide (600 < (e.l.length : Int))) = true by rw [Bool.or_eq_true, decide_eq_true_eq, decide_eq_true_eq]; omega, cond_true]
  rw [if_neg h0, decide_eq_false (by omega), decide_eq_false (by omega), Bool.or_false, cond_false, grd_pos (by omega), grd_pos (by omega), grd_pos (by omega), grd_pos (by omega), Int.toNat_natCast]
  obtain ⟨o, h1, h2, h3⟩ := rmayL e (by omega) hS
  rw [h1, Option.bind_some]
  by_cases hok : allOk e.l
  · rw [h2 hok, go_on, if_neg (fun h => h hok)]
    have hL : ((cntU e.l e.l.length).take (e.l.length - 1)).length = e.l.length - 1 := by rw [List.length_take, cntU_len]; omega
    show (m_syntagmaref05_May_l3 e (cntU e.l e.l.length) FU 0).bind _ = _
    rw [loop_any (φ := m_syntagmaref05_May_l3 e (cntU e.l e.l.length)) (l := (cntU e.l e.l.length).take (e.l.length - 1)) 4 (fun _ c => c ≠ 1) ?_ ?_ (by rw [FUv, hL]; omega)]
    · rw [Option.bind_some]
      by_cases ho : odd1 e.l
      · rw [if_pos ho, if_pos]
        · rfl
        · obtain ⟨c, hc, hne⟩ := ho
          obtain ⟨i, hi, hx⟩ := List.getElem_of_mem hc
          exact ⟨i, c, by rw [← hx]; exact List.getElem?_eq_getElem hi, hne⟩
      · rw [if_neg ho, if_neg, go_on, grd_pos (by omega), idxD (by omega) (by rw [depU_len]; omega), Option.bind_some]
        · by_cases hd : 100 < gd (depU e.l e.l.length) ((e.l.length : Int) - 1)
          · rw [if_pos hd, decide_eq_true hd, cond_true]
          · rw [if_neg hd, decide_eq_false hd, cond_false]
        · rintro ⟨i, c, hx, hne⟩
          exact ho ⟨c, List.mem_of_getElem? hx, hne⟩
    · intro n i x hx hi
      simp only [m_syntagmaref05_May_l3]
      rw [hL] at hi
      have hx2 : (cntU e.l e.l.length)[i]? = some x := by
        rw [List.getElem?_take, if_pos hi] at hx
        exact hx
      rw [grd_pos (by omega), decide_eq_true (show (i : Int) < (e.l.length : Int) - 1 by omega), cond_true, getI hx2, Option.bind_some]
      exact ⟨fun hq => by rw [decide_eq_true (Classical.not_not.1 hq), Bool.not_true, cond_false, grd_pos (by omega)], fun hq => by rw [decide_eq_false hq, Bool.not_false, cond_true]⟩
    · intro n
      simp only [m_syntagmaref05_May_l3]
      rw [grd_pos (by omega), decide_eq_false (by omega), cond_false]
  · rw [h3 hok, if_pos hok]; rfl
theorem rmay_eq (e : ApiExpr) (hl : e.l.length ≤ 701) (hN : ∀ n ∈ e.l, NB n) : m_syntagmaref05_May e = some (mayT e.l) := rmay_eqB e hl (fun n hn => by have := hN n hn; unfold NB at this; omega)
theorem mayT_ok {L : List ApiNode} (h : mayT L = 0) : 1 ≤ L.length ∧ L.length ≤ 600 ∧ allOk L := by
  unfold mayT at h
  by_cases h0 : L.length = 0 ∨ 600 < L.length
  · rw [if_pos h0] at h; omega
  · rw [if_neg h0] at h
    by_cases h1 : allOk L
    · exact ⟨by omega, by omega, h1⟩
    · rw [if_pos h1] at h; omega
def fewN (n : ApiNode) : ApiNode := ⟨n.kind, n.a, n.b, n.c, n.n_, n.name, n.s, [] ++ n.l.take 60, n.pos⟩
def fewE (e : ApiExpr) : ApiExpr := ⟨(e.l.take 700).map fewN⟩
theorem min60 (l : List ApiField) : sli l 0 (if 60 < (l.length : Int) then 60 else (l.length : Int)) = some (l.take 60) := by
  by_cases h : 60 < (l.length : Int)
  · rw [if_pos h]; exact sli_take (k := 60) (by omega)
  · rw [if_neg h, sli_take (by omega), List.take_of_length_le (by omega), List.take_of_length_le (by omega)]
theorem few_eq (e : ApiExpr) : m_syntagmalaw05_Few e = some (fewE e) := by
  unfold m_syntagmalaw05_Few
  have hL : (e.l.take 700).length ≤ 700 ∧ (e.l.take 700).length ≤ e.l.length := by rw [List.length_take]; omega
  rw [loop_map (φ := fun n i s => m_syntagmalaw05_Few_l1 e n (i, s)) (l := e.l.take 700) fewN id 0 ?_ ?_ (by rw [FUv]; omega) [] rfl]
  · rfl
  · intro n i x s hx hi hs
    have hx2 : e.l[i]? = some x := by
      rw [List.getElem?_take, if_pos (by omega)] at hx
      exact hx
    have h60 : (x.l.take 60).length ≤ 60 := by rw [List.length_take]; omega
    simp only [m_syntagmalaw05_Few_l1]
    rw [decide_eq_true (show (i : Int) < e.l.length by omega), decide_eq_true (show (i : Int) < 700 by omega), Bool.and_true, cond_true, getI hx2, Option.bind_some, min60, Option.bind_some, grd_pos (by omega), grd_pos (by simp only [List.length_cons, List.length_nil]; omega), grd_pos (by omega)]
    rfl
  · intro n s hs
    simp only [m_syntagmalaw05_Few_l1]
    rw [show (decide (((e.l.take 700).length : Int) < e.l.length) && decide (((e.l.take 700).length : Int) < 700)) = false by
      rw [List.length_take, Bool.and_eq_false_iff, decide_eq_false_iff_not, decide_eq_false_iff_not]; omega, cond_false]
    rfl
theorem fewN_fewN (n : ApiNode) : fewN (fewN n) = fewN n := by
  unfold fewN
  simp only [List.nil_append, ApiNode.mk.injEq, true_and, and_true]
  exact List.take_of_length_le (by rw [List.length_take]; omega)
theorem fewE_fewE (e : ApiExpr) : fewE (fewE e) = fewE e := by
  unfold fewE
  simp only [ApiExpr.mk.injEq]
  rw [List.take_of_length_le (by simp; omega), List.map_map]
  congr 1
  funext n
  exact fewN_fewN n
theorem fewE_len (e : ApiExpr) : (fewE e).l.length ≤ 700 := by unfold fewE; simp; omega
theorem fewN_nb (n : ApiNode) : NB (fewN n) := by unfold fewN NB; simp; omega
theorem fewE_nb (e : ApiExpr) : ∀ n ∈ (fewE e).l, NB n := by
  intro n hn
  obtain ⟨m, _, rfl⟩ := List.mem_map.1 hn
  exact fewN_nb m
end Go.Proofs.Ytnnjgbcojdnhhaa
set_option linter.unusedVariables false
set_option linter.unusedSimpArgs false
set_option maxRecDepth 100000
namespace Go.Proofs.Ytnnjgbcojdnhhaa
open Go.V
open Classical
theorem field_eqv (a b : ApiField) : ApiField.eqv a b = true ↔ a = b := by
  obtain ⟨a1, a2, a3⟩ := a
  obtain ⟨b1, b2, b3⟩ := b
  unfold ApiField.eqv
  simp
def sameN (a b : ApiNode) : Prop := a.kind = b.kind ∧ a.a = b.a ∧ a.b = b.b ∧ a.c = b.c ∧ a.n_ = b.n_ ∧ a.name = b.name ∧ a.s = b.s ∧ a.l = b.l
theorem getI2 {α : Type} {l : List α} {i : Nat} (h : i < l.length) : ∃ x, l[i]? = some x := ⟨l[i], List.getElem?_eq_getElem h⟩
theorem list_same {α : Type} {a b : List α} (hl : a.length = b.length) : (∀ (i : Nat) x, a[i]? = some x → ∃ y, b[i]? = some y ∧ x = y) ↔ a = b := by
  constructor
  · intro h
    refine List.ext_getElem? fun i => ?_
    by_cases hi : i < a.length
    · obtain ⟨y, h1, h2⟩ := h i a[i] (List.getElem?_eq_getElem hi)
      rw [h1, ← h2, List.getElem?_eq_getElem hi]
    · rw [List.getElem?_eq_none (by omega), List.getElem?_eq_none (by omega)]
  · rintro rfl i x hx
    exact ⟨x, hx, rfl⟩
theorem rsameNode_eq (a b : ApiNode) (h : NB a) : m_syntagmaref05_SameNode a b = some (decide (sameN a b)) := by
  unfold NB at h
  unfold m_syntagmaref05_SameNode
  by_cases hc : a.kind = b.kind ∧ a.a = b.a ∧ a.b = b.b ∧ a.c = b.c ∧ a.n_ = b.n_ ∧ a.name = b.name ∧ a.s = b.s ∧ a.l.length = b.l.length
  · obtain ⟨h1, h2, h3, h4, h5, h6, h7, hl⟩ := hc
    rw [decide_eq_true h1, decide_eq_true h2, decide_eq_true h3, decide_eq_true h4, decide_eq_true h5, decide_eq_true h6, decide_eq_true h7, decide_eq_true (show (a.l.length : Int) = b.l.length by omega)]
    show (m_syntagmaref05_SameNode_l1 a b FU 0).bind _ = _
    refine bnd (loop_all (φ := m_syntagmaref05_SameNode_l1 a b) (l := a.l) false (fun i x => ∃ y, b.l[i]? = some y ∧ x = y) ?_ ?_ (by rw [FUv]; omega)) ?_
    · intro n i x hx hi
      obtain ⟨y, hy⟩ := getI2 (l := b.l) (i := i) (by omega)
      simp only [m_syntagmaref05_SameNode_l1]
      rw [decide_eq_true (show (i : Int) < a.l.length by omega), cond_true, getI hx, Option.bind_some, getI hy, Option.bind_some]
      constructor
      · rintro ⟨y2, h1, h2⟩
        rw [hy] at h1
        rw [(field_eqv x y).2 (by rw [h2, Option.some.inj h1]), Bool.not_true, cond_false, grd_pos (by omega)]
      · intro h2
        have : ApiField.eqv x y = false := by
          rw [← Bool.not_eq_true, field_eqv]
          exact fun h3 => h2 ⟨y, hy, h3⟩
        rw [this, Bool.not_false, cond_true]
    · intro n
      simp only [m_syntagmaref05_SameNode_l1]
      rw [decide_eq_false (by omega), cond_false]
    · by_cases ha : a.l = b.l
      · rw [if_pos ((list_same hl).2 ha), decide_eq_true (show sameN a b from ⟨h1, h2, h3, h4, h5, h6, h7, ha⟩)]; rfl
      · rw [if_neg (fun h => ha ((list_same hl).1 h)), decide_eq_false (fun h : sameN a b => ha h.2.2.2.2.2.2.2)]; rfl
  · rw [decide_eq_false (p := sameN a b) (fun h => hc ⟨h.1, h.2.1, h.2.2.1, h.2.2.2.1, h.2.2.2.2.1, h.2.2.2.2.2.1, h.2.2.2.2.2.2.1, by rw [h.2.2.2.2.2.2.2]⟩)]
    rw [show ((((((((!decide (a.kind = b.kind)) || (!decide (a.a = b.a))) || (!decide (a.b = b.b))) || (!decide (a.c = b.c))) || (!decide (a.n_ = b.n_))) || (!decide ((a.name : List UInt8) = b.name))) || (!decide ((a.s : List UInt8) = b.s))) || (!decide ((a.l.length : Int) = (b.l.length : Int)))) = true by
      rw [← Bool.not_eq_false]
      intro h
      apply hc
      simp only [Bool.or_eq_false_iff, Bool.not_eq_false', decide_eq_true_eq] at h
      obtain ⟨⟨⟨⟨⟨⟨⟨h1, h2⟩, h3⟩, h4⟩, h5⟩, h6⟩, h7⟩, h8⟩ := h
      exact ⟨h1, h2, h3, h4, h5, h6, h7, by omega⟩]
    rfl
def sameL (a b : List ApiNode) : Prop := a.length = b.length ∧ ∀ (i : Nat) x, a[i]? = some x → ∃ y, b[i]? = some y ∧ sameN x y
theorem sameL_refl (a : List ApiNode) : sameL a a := ⟨rfl, fun _ x h => ⟨x, h, rfl, rfl, rfl, rfl, rfl, rfl, rfl, rfl⟩⟩
theorem sameList_eqB (a b : ApiExpr) (h : a.l.length ≤ 1000000) (hN : ∀ n ∈ a.l, NB n) : m_syntagmaref05_SameList a b = some (decide (sameL a.l b.l)) := by
  unfold m_syntagmaref05_SameList
  by_cases hl : a.l.length = b.l.length
  · rw [decide_eq_true (show (a.l.length : Int) = b.l.length by omega), Bool.not_true, cond_false]
    refine bnd (loop_all (φ := m_syntagmaref05_SameList_l1 a b) (l := a.l) false (fun i x => ∃ y, b.l[i]? = some y ∧ sameN x y) ?_ ?_ (by rw [FUv]; omega)) ?_
    · intro n i x hx hi
      obtain ⟨y, hy⟩ := getI2 (l := b.l) (i := i) (by omega)
      simp only [m_syntagmaref05_SameList_l1]
      rw [decide_eq_true (show (i : Int) < a.l.length by omega), cond_true, getI hx, Option.bind_some, getI hy, Option.bind_some]
      rw [rsameNode_eq x y (hN x (List.mem_of_getElem? hx)), Option.bind_some]
      constructor
      · rintro ⟨y2, h1, h2⟩
        rw [hy] at h1
        rw [decide_eq_true (show sameN x y by rw [Option.some.inj h1]; exact h2), Bool.not_true, cond_false, grd_pos (by omega)]
      · intro h2
        rw [decide_eq_false (fun h3 => h2 ⟨y, hy, h3⟩), Bool.not_false, cond_true]
    · intro n
      simp only [m_syntagmaref05_SameList_l1]
      rw [decide_eq_false (by omega), cond_false]
    · by_cases ha : sameL a.l b.l
      · rw [if_pos ha.2, decide_eq_true ha]; rfl
      · rw [if_neg (fun h => ha ⟨hl, h⟩), decide_eq_false ha]; rfl
  · rw [decide_eq_false (show ¬ (a.l.length : Int) = b.l.length by omega), Bool.not_false, cond_true, decide_eq_false (fun h : sameL a.l b.l => hl h.1)]
def relF (f : ApiField) (k : Int) : ApiField := ⟨f.name, f.var, k⟩
def withP (n : ApiNode) (ks : List Int) : ApiNode := ⟨n.kind, ((ks.take (abcN n.kind))[0]?).getD 0, ((ks.take (abcN n.kind))[1]?).getD 0, ((ks.take (abcN n.kind))[2]?).getD 0, n.n_, n.name, n.s, if partsB n.kind = true then List.zipWith relF n.l (ks.drop (abcN n.kind)) else [], n.pos⟩
theorem zip_snoc {α β γ : Type} (f : α → β → γ) : ∀ (i : Nat) (l : List α) (k : List β) (x : α) (y : β), l[i]? = some x → k[i]? = some y → List.zipWith f (l.take (i + 1)) k = List.zipWith f (l.take i) k ++ [f x y]
  | _, [], _, _, _, h, _ => by simp at h
  | _, _ :: _, [], _, _, _, h => by simp at h
  | 0, a :: l, b :: k, x, y, h1, h2 => by
    simp only [List.getElem?_cons_zero, Option.some.injEq] at h1 h2
    subst h1 h2
    simp
  | i + 1, a :: l, b :: k, x, y, h1, h2 => by
    simp only [List.getElem?_cons_succ] at h1 h2
    have := zip_snoc f i l k x y h1 h2
    rw [List.take_succ_cons, List.take_succ_cons, List.zipWith_cons_cons, List.zipWith_cons_cons, this]; rfl
theorem withL (ks : List Int) (m : Nat) (p : Bool) (z : List ApiField) (hz : z.length ≤ 60) (hm : m ≤ 3) (hl : ks.length = m + z.length) (a1 a2 a3 a4 a5 : Int) (a6 a7 : List UInt8) (a8 : Int) :
    m_tree_with_l1 ks ⟨(m : Int), p⟩ z FU (0, z, a1, a2, a3, a4, a5, a6, a7, a8) = some (List.zipWith relF z (ks.drop m), a1, a2, a3, a4, a5, a6, a7, a8) := by
  obtain ⟨o, h1, h2⟩ := loop_rng (φ := fun n i s => m_tree_with_l1 ks ⟨(m : Int), p⟩ z n (i, s, a1, a2, a3, a4, a5, a6, a7, a8)) (l := z) (fun i s => s = List.zipWith relF (z.take i) (ks.drop m) ++ z.drop i) (fun o => o = (List.zipWith relF z (ks.drop m), a1, a2, a3, a4, a5, a6, a7, a8)) (by
    rintro n i x s hx hi rfl
    have hzl : (List.zipWith relF (z.take i) (ks.drop m)).length = i := by
      rw [List.length_zipWith, List.length_take, List.length_drop]; omega
    obtain ⟨y, hy⟩ := getI2 (l := ks) (i := m + i) (by omega)
    have hd : z.drop i = x :: z.drop (i + 1) := by
      obtain ⟨hi2, hx2⟩ := List.getElem?_eq_some_iff.1 hx
      rw [List.drop_eq_getElem_cons hi2, hx2]
    have hsi : (List.zipWith relF (z.take i) (ks.drop m) ++ z.drop i)[i]? = some x := by
      rw [List.getElem?_append_right (by omega), hzl, Nat.sub_self, hd]; rfl
    simp only [m_tree_with_l1]
    rw [decide_eq_true (show (i : Int) < z.length by omega), cond_true, grd_pos (by omega), decide_eq_true (show (m : Int) + (i : Int) < ks.length by omega), cond_true, show ((m : Int) + (i : Int)) = ((m + i : Nat) : Int) by omega, getI hy, Option.bind_some, getI hsi, Option.bind_some, grd_pos (by omega)]
    refine .inl ⟨_, rfl, ?_⟩
    rw [Int.toNat_natCast, List.set_append_right _ _ (by omega), hzl, Nat.sub_self, hd, List.set_cons_zero, zip_snoc relF i z (ks.drop m) x y hx (by rw [List.getElem?_drop]; exact hy), List.append_assoc]
    rfl) (by
    rintro n s rfl
    simp only [m_tree_with_l1]
    rw [decide_eq_false (by omega), cond_false, List.take_length, List.drop_length, List.append_nil]
    exact ⟨_, rfl, rfl⟩) (by rw [FUv]; omega) z (by simp)
  rw [h1, h2]
def noParts (n : ApiNode) : Prop := partsB n.kind = false → n.l = []
theorem kidsP_len (n : ApiNode) (hp : noParts n) : (kidsP n).length = abcN n.kind + n.l.length := by
  unfold kidsP
  have := abc_le n.kind
  rw [List.length_append, List.length_take]
  cases h : partsB n.kind with
  | false => rw [if_neg (by decide), hp h]; simp; omega
  | true => rw [if_pos rfl]; simp; omega
theorem kidsP_len2 (n : ApiNode) : (kidsP n).length = abcN n.kind + (if partsB n.kind = true then n.l.length else 0) := by
  unfold kidsP
  have := abc_le n.kind
  rw [List.length_append, List.length_take]
  cases h : partsB n.kind with
  | false => rw [if_neg (by decide), if_neg (by decide)]; simp; omega
  | true => rw [if_pos rfl, if_pos rfl]; simp; omega
theorem with_eqB (n : ApiNode) (ks : List Int) (h : NB n) (hk : ks.length = (kidsP n).length) : m_tree_with n ks = some (withP n ks) := by
  rw [kidsP_len2 n] at hk
  have h3 := abc_le n.kind
  unfold NB at h
  unfold m_tree_with withP
  rw [shape_eq, Option.bind_some]
  simp only
  rw [if_neg (by omega), sli_take (by omega), Option.bind_some]
  cases hb : partsB n.kind with
  | false =>
    rw [hb, if_neg (by decide)] at hk
    rw [Bool.not_false, cond_true, Option.bind_some]
    simp only
    rw [grd_pos (by simp), withL ks (abcN n.kind) false [] (by simp) h3 (by simpa using hk), Option.bind_some, if_neg (by decide)]
    simp
  | true =>
    rw [hb, if_pos rfl] at hk
    rw [Bool.not_true, cond_false, Option.bind_some]
    simp only
    rw [grd_pos (by omega), withL ks (abcN n.kind) true n.l h h3 hk, Option.bind_some]
    all_goals rfl
theorem with_eq (n : ApiNode) (ks : List Int) (h : NB n) (hp : noParts n) (hk : ks.length = (kidsP n).length) : m_tree_with n ks = some (withP n ks) := with_eqB n ks h hk
theorem rwithL (n : ApiNode) (ks : List Int) (m : Nat) (hz : n.l.length ≤ 60) (hm : m ≤ 3) (hl : ks.length = m + n.l.length) (a1 a2 a3 a4 a5 : Int) (a6 a7 : List UInt8) (a8 : Int) :
    m_syntagmaref05_with_l1 n ks FU (0, [], a1, a2, a3, a4, a5, a6, a7, a8) = some ((m : Int), List.zipWith relF n.l (ks.drop m), a1, a2, a3, a4, a5, a6, a7, a8) := by
  have em : ((ks.length : Int) - (n.l.length : Int)) = (m : Int) := by omega
  obtain ⟨o, h1, h2⟩ := loop_rng (φ := fun f i s => m_syntagmaref05_with_l1 n ks f (i, s, a1, a2, a3, a4, a5, a6, a7, a8)) (l := n.l) (fun i s => s = List.zipWith relF (n.l.take i) (ks.drop m)) (fun o => o = ((m : Int), List.zipWith relF n.l (ks.drop m), a1, a2, a3, a4, a5, a6, a7, a8)) (by
    rintro f i x s hx hi rfl
    have hzl : (List.zipWith relF (n.l.take i) (ks.drop m)).length = i := by
      rw [List.length_zipWith, List.length_take, List.length_drop]; omega
    obtain ⟨y, hy⟩ := getI2 (l := ks) (i := m + i) (by omega)
    simp only [m_syntagmaref05_with_l1]
    rw [em, decide_eq_true (show (i : Int) < n.l.length by omega), cond_true, getI hx, Option.bind_some, grd_pos (by omega), show ((m : Int) + (i : Int)) = ((m + i : Nat) : Int) by omega, getI hy, Option.bind_some, grd_pos (by rw [hzl]; simp only [List.length_cons, List.length_nil]; omega), grd_pos (by omega)]
    refine .inl ⟨_, rfl, ?_⟩
    rw [zip_snoc relF i n.l (ks.drop m) x y hx (by rw [List.getElem?_drop]; exact hy)]
    rfl) (by
    rintro f s rfl
    simp only [m_syntagmaref05_with_l1]
    rw [em, decide_eq_false (by omega), cond_false, List.take_length]
    exact ⟨_, rfl, rfl⟩) (by rw [FUv]; omega) [] (by simp)
  rw [h1, h2]
theorem wtail (n : ApiNode) (ks : List Int) (m : Nat) (hm : m ≤ 3) (hl : m ≤ ks.length) (l1 : List ApiField) :
    ((bif (decide (0 < (m : Int))) then
    (idx ks 0).bind fun x3 =>
    some (l1, n.kind, x3, 0, 0, n.n_, n.name, n.s, n.pos)
  else
    some (l1, n.kind, 0, 0, 0, n.n_, n.name, n.s, n.pos) : Option ((List ApiField) × Int × Int × Int × Int × Int × (List UInt8) × (List UInt8) × Int)).bind fun (l3, z17, z18, z19, z20, z21, z22, z23, z24) =>
  (bif (decide (1 < (m : Int))) then
    (idx ks 1).bind fun x4 =>
    some (l3, z17, z18, x4, z20, z21, z22, z23, z24)
  else
    some (l3, z17, z18, z19, z20, z21, z22, z23, z24) : Option ((List ApiField) × Int × Int × Int × Int × Int × (List UInt8) × (List UInt8) × Int)).bind fun (l4, z25, z26, z27, z28, z29, z30, z31, z32) =>
  bif (decide (2 < (m : Int))) then
    (idx ks 2).bind fun x5 =>
    some (⟨z25, z26, z27, x5, z29, z30, z31, l4, z32⟩ : ApiNode)
  else
    some (⟨z25, z26, z27, z28, z29, z30, z31, l4, z32⟩ : ApiNode)) = some ⟨n.kind, ((ks.take m)[0]?).getD 0, ((ks.take m)[1]?).getD 0, ((ks.take m)[2]?).getD 0, n.n_, n.name, n.s, l1, n.pos⟩ := by
  match m, ks, hm, hl with
  | 0, ks, _, _ => rfl
  | 1, k0 :: ks, _, _ => rfl
  | 2, k0 :: k1 :: ks, _, _ => rfl
  | 3, k0 :: k1 :: k2 :: ks, _, _ => rfl
theorem rwith_eqB (n : ApiNode) (ks : List Int) (h : NB n) (hk : ks.length = (kidsP n).length) : m_syntagmaref05_with n ks = some (withP n ks) := by
  rw [kidsP_len2 n] at hk
  have h3 := abc_le n.kind
  unfold NB at h
  unfold m_syntagmaref05_with
  rw [show (decide (n.kind = 11) || decide (n.kind = 14)) = partsB n.kind from rfl]
  cases hb : partsB n.kind with
  | false =>
    rw [hb, if_neg (by decide)] at hk
    simp only [Nat.add_zero] at hk
    rw [cond_false, Option.bind_some]
    simp only
    rw [hk]
    refine (wtail n ks (abcN n.kind) h3 (by omega) []).trans ?_
    unfold withP
    rw [if_neg (by rw [hb]; decide)]
  | true =>
    rw [hb, if_pos rfl] at hk
    rw [cond_true, grd_pos (by omega), rwithL n ks (abcN n.kind) h h3 hk, Option.bind_some]
    simp only
    refine (wtail n ks (abcN n.kind) h3 (by omega) _).trans ?_
    unfold withP
    rw [if_pos hb]
theorem rwith_eq (n : ApiNode) (ks : List Int) (h : NB n) (hp : noParts n) (hk : ks.length = (kidsP n).length) : m_syntagmaref05_with n ks = some (withP n ks) := rwith_eqB n ks h hk
def postF (L : List ApiNode) : Nat → Int → List Int
  | 0, _ => []
  | f + 1, i => match L[i.toNat]? with | some n => (kidsP n).flatMap (postF L f) ++ [i] | none => []
def post (L : List ApiNode) (i : Int) : List Int := postF L (i.toNat + 1) i
def kidsAt (L : List ApiNode) (i : Int) : List Int := match L[i.toNat]? with | some n => kidsP n | none => []
def inLs (L : List ApiNode) : Prop := ∀ (i : Nat) n, L[i]? = some n → inL i (kidsP n)
theorem kidsAt_s {L : List ApiNode} {i : Nat} {n : ApiNode} (h : L[i]? = some n) : kidsAt L (i : Int) = kidsP n := by
  unfold kidsAt; rw [Int.toNat_natCast, h]
theorem flatMap_congr2 {α β : Type} {f g : α → List β} : ∀ {l : List α}, (∀ x ∈ l, f x = g x) → l.flatMap f = l.flatMap g
  | [], _ => rfl
  | a :: l, h => by
    rw [List.flatMap_cons, List.flatMap_cons, h a (by simp), flatMap_congr2 fun x hx => h x (by simp [hx])]
theorem postF_eq (L : List ApiNode) (hI : inLs L) : ∀ (f g i : Nat), i < f → i < g → postF L f (i : Int) = postF L g (i : Int)
  | 0, _, i, h, _ => by omega
  | _, 0, i, _, h => by omega
  | f + 1, g + 1, i, hf, hg => by
    simp only [postF, Int.toNat_natCast]
    cases hn : L[i]? with
    | none => rfl
    | some n =>
      simp only
      congr 1
      refine flatMap_congr2 fun k hk => ?_
      have := hI i n hn k hk
      obtain ⟨m, rfl⟩ : ∃ m : Nat, k = (m : Int) := ⟨k.toNat, by omega⟩
      exact postF_eq L hI f g m (by omega) (by omega)
theorem post_rec {L : List ApiNode} (hI : inLs L) {i : Nat} {n : ApiNode} (hn : L[i]? = some n) : post L (i : Int) = (kidsP n).flatMap (post L) ++ [(i : Int)] := by
  unfold post
  rw [Int.toNat_natCast]
  simp only [postF, Int.toNat_natCast]
  rw [hn]
  simp only
  congr 1
  refine flatMap_congr2 fun k hk => ?_
  have := hI i n hn k hk
  obtain ⟨m, rfl⟩ : ∃ m : Nat, k = (m : Int) := ⟨k.toNat, by omega⟩
  rw [Int.toNat_natCast]
  exact postF_eq L hI i (m + 1) m (by omega) (by omega)
/-- All below is not above. -/
theorem post_le {L : List ApiNode} (hI : inLs L) : ∀ (f i : Nat), i < f → i < L.length → ∀ x ∈ post L (i : Int), 0 ≤ x ∧ x ≤ (i : Int)
  | 0, i, h, _ => by omega
  | f + 1, i, hf, hi => by
    obtain ⟨n, hn⟩ := getI2 hi
    intro x hx
    rw [post_rec hI hn, List.mem_append, List.mem_flatMap, List.mem_singleton] at hx
    rcases hx with ⟨k, hk, hx⟩ | rfl
    · have := hI i n hn k hk
      obtain ⟨m, rfl⟩ : ∃ m : Nat, k = (m : Int) := ⟨k.toNat, by omega⟩
      have := post_le hI f m (by omega) (by omega) x hx
      omega
    · omega
/-- A node that stands below another stands among the children of one below it. -/
theorem count_flat {α : Type} (x : Int) (f : α → List Int) : ∀ l : List α, (l.flatMap f).count x = (l.map fun k => (f k).count x).sum
  | [] => rfl
  | a :: l => by rw [List.flatMap_cons, List.count_append, List.map_cons, List.sum_cons, count_flat x f l]
theorem sum_add {α : Type} (f g : α → Nat) : ∀ l : List α, (l.map fun k => f k + g k).sum = (l.map f).sum + (l.map g).sum
  | [] => rfl
  | a :: l => by simp only [List.map_cons, List.sum_cons]; rw [sum_add f g l]; omega
theorem sum_flat {α β : Type} (f : β → Nat) (g : α → List β) : ∀ l : List α, ((l.flatMap g).map f).sum = (l.map fun k => ((g k).map f).sum).sum
  | [] => rfl
  | a :: l => by rw [List.flatMap_cons, List.map_append, List.sum_append, List.map_cons, List.sum_cons, sum_flat f g l]
theorem sum_congr {α : Type} {f g : α → Nat} : ∀ {l : List α}, (∀ x ∈ l, f x = g x) → (l.map f).sum = (l.map g).sum
  | [], _ => rfl
  | a :: l, h => by
    rw [List.map_cons, List.map_cons, List.sum_cons, List.sum_cons, h a (by simp), sum_congr fun x hx => h x (by simp [hx])]
theorem sum_ind (x : Int) : ∀ l : List Int, (l.map fun k => if x = k then 1 else 0).sum = l.count x
  | [] => rfl
  | a :: l => by
    rw [List.map_cons, List.sum_cons, sum_ind x l, List.count_cons]
    by_cases h : x = a
    · rw [if_pos h, h]; simp; omega
    · rw [if_neg h]
      have : (a == x) = false := by simpa using fun e => h e.symm
      rw [this]; simp
theorem post_count {L : List ApiNode} (hI : inLs L) (x : Int) : ∀ (f i : Nat), i < f → i < L.length → (post L (i : Int)).count x = (if x = (i : Int) then 1 else 0) + ((post L (i : Int)).map fun p => (kidsAt L p).count x).sum
  | 0, i, h, _ => by omega
  | f + 1, i, hf, hi => by
    obtain ⟨n, hn⟩ := getI2 hi
    have e := post_rec hI hn
    have ih : ∀ k ∈ kidsP n, (post L k).count x = (if x = k then 1 else 0) + ((post L k).map fun p => (kidsAt L p).count x).sum := by
      intro k hk
      have := hI i n hn k hk
      obtain ⟨m, rfl⟩ : ∃ m : Nat, k = (m : Int) := ⟨k.toNat, by omega⟩
      exact post_count hI x f m (by omega) (by omega)
    rw [e, List.count_append, count_flat, List.map_append, List.sum_append, sum_flat, sum_congr ih, sum_add, sum_ind]
    simp only [List.map_cons, List.map_nil, List.sum_cons, List.sum_nil, Nat.add_zero]
    rw [kidsAt_s hn, List.count_singleton]
    by_cases hx : x = (i : Int)
    · rw [if_pos hx, hx]; simp; omega
    · rw [if_neg hx]
      have : (((i : Int)) == x) = false := by simpa using fun e => hx e.symm
      rw [this]; simp; omega
/-- No node has two parents. -/
def one1 (L : List ApiNode) : Prop := ∀ x : Int, ((List.range L.length).map fun (p : Nat) => (kidsAt L (p : Int)).count x).sum ≤ 1
theorem sum_le_range (N : Nat) (g : Int → Nat) : ∀ (l : List Int), l.Nodup → (∀ p ∈ l, 0 ≤ p ∧ p < (N : Int)) → (l.map g).sum ≤ ((List.range N).map fun (p : Nat) => g (p : Int)).sum := by
  induction N with
  | zero =>
    intro l _ h
    rcases l with _ | ⟨a, l⟩
    · simp
    · have := h a (by simp); omega
  | succ N ih =>
    intro l hd h
    rw [List.range_succ, List.map_append, List.sum_append]
    simp only [List.map_cons, List.map_nil, List.sum_cons, List.sum_nil, Nat.add_zero]
    by_cases hN : (N : Int) ∈ l
    · have hp := List.perm_cons_erase hN
      have h1 : (l.map g).sum = g (N : Int) + ((l.erase (N : Int)).map g).sum := by
        have := (hp.map g).sum_nat
        rw [this, List.map_cons, List.sum_cons]
      have h2 := ih (l.erase (N : Int)) (hd.erase _) (fun p hp2 => by
        have h3 := (hd.mem_erase_iff).1 hp2
        have := h p h3.2
        have := h3.1
        omega)
      omega
    · have h2 := ih l hd (fun p hp => by
        have := h p hp
        have : p ≠ (N : Int) := fun e => hN (e ▸ hp)
        omega)
      omega
theorem sum_filter (g : Int → Nat) (q : Int → Bool) : ∀ l : List Int, (∀ p ∈ l, q p = false → g p = 0) → (l.map g).sum = ((l.filter q).map g).sum
  | [], _ => rfl
  | a :: l, h => by
    have ih := sum_filter g q l fun p hp => h p (by simp [hp])
    rw [List.filter_cons]
    cases hq : q a with
    | true => rw [if_pos rfl, List.map_cons, List.map_cons, List.sum_cons, List.sum_cons, ih]
    | false => rw [if_neg (by decide), List.map_cons, List.sum_cons, h a (by simp) hq, ih, Nat.zero_add]
theorem post_once {L : List ApiNode} (hI : inLs L) (h1 : one1 L) (i : Nat) (hi : i < L.length) : ∀ (d : Nat) (x : Int), (i : Int) - x < (d : Int) → (post L (i : Int)).count x ≤ 1
  | 0, x, h => by
    rw [List.count_eq_zero_of_not_mem]
    · omega
    · intro hx
      have := post_le hI (i + 1) i (by omega) hi x hx
      omega
  | d + 1, x, h => by
    have hc := post_count hI x (i + 1) i (by omega) hi
    have hk : ∀ p ∈ post L (i : Int), (kidsAt L p).count x ≠ 0 → x < p := by
      intro p hp h0
      have hpi := post_le hI (i + 1) i (by omega) hi p hp
      obtain ⟨m, rfl⟩ : ∃ m : Nat, p = (m : Int) := ⟨p.toNat, by omega⟩
      obtain ⟨n, hn⟩ := getI2 (l := L) (i := m) (by omega)
      rw [kidsAt_s hn] at h0
      have hx : x ∈ kidsP n := List.count_pos_iff.1 (by omega)
      exact (hI m n hn x hx).2
    by_cases hxi : x = (i : Int)
    · rw [if_pos hxi, sum_congr (g := fun _ => 0)] at hc
      · have e0 : ∀ l : List Int, (l.map fun _ => 0).sum = 0 := fun l => by induction l <;> simp_all
        rw [e0] at hc; omega
      · intro p hp
        have hpi := post_le hI (i + 1) i (by omega) hi p hp
        by_cases h0 : (kidsAt L p).count x = 0
        · exact h0
        · have := hk p hp h0; omega
    · rw [if_neg hxi, sum_filter (fun p => (kidsAt L p).count x) (fun p => decide (x < p))] at hc
      · have h2 := sum_le_range L.length (fun p => (kidsAt L p).count x) ((post L (i : Int)).filter fun p => decide (x < p)) (by
          rw [List.nodup_iff_count]
          intro a
          by_cases ha : x < a
          · exact Nat.le_trans (List.filter_sublist.count_le a) (post_once hI h1 i hi d a (by omega))
          · rw [List.count_eq_zero_of_not_mem]
            · omega
            · intro hm
              exact absurd (of_decide_eq_true (List.mem_filter.1 hm).2) ha) (fun p hp => by
          have := post_le hI (i + 1) i (by omega) hi p (List.mem_filter.1 hp).1
          omega)
        have h3 := h1 x
        omega
      · intro p hp hq
        by_cases h0 : (kidsAt L p).count x = 0
        · exact h0
        · have := hk p hp h0
          simp at hq; omega
theorem post_nodup {L : List ApiNode} (hI : inLs L) (h1 : one1 L) (i : Nat) (hi : i < L.length) : (post L (i : Int)).Nodup := by
  rw [List.nodup_iff_count]
  intro x
  exact post_once hI h1 i hi ((i : Int) - x + 1).toNat x (by omega)
theorem post_len {L : List ApiNode} (hI : inLs L) (h1 : one1 L) (i : Nat) (hi : i < L.length) : (post L (i : Int)).length ≤ L.length :=
  range_len L.length _ (post_nodup hI h1 i hi) fun x hx => by
    have := post_le hI (i + 1) i (by omega) hi x hx
    omega
theorem incs_gd : ∀ (ks c : List Int) (x : Int), inL c.length ks → 0 ≤ x → gd (incs c ks) x = gd c x + (ks.count x : Int)
  | [], c, x, _, _ => by simp [incs]
  | k :: ks, c, x, h, hx => by
    have hk := h k (by simp)
    show gd (incs (inc1 c k) ks) x = _
    rw [incs_gd ks (inc1 c k) x (fun y hy => by have := h y (by simp [hy]); simpa [inc1] using this) hx, List.count_cons]
    unfold inc1
    by_cases e : k = x
    · subst e
      have := gd_self (l := c) (i := k.toNat) (by omega) (gd c k + 1)
      rw [show ((k.toNat : Nat) : Int) = k by omega] at this
      rw [this]; simp; omega
    · rw [gd_other (by omega)]
      have : (k == x) = false := by simpa using e
      rw [this]; simp
theorem cntU_gd (L : List ApiNode) (hI : inLs L) (x : Int) (hx : 0 ≤ x) : ∀ i : Nat, i ≤ L.length → gd (cntU L i) x = (((List.range i).map fun (p : Nat) => (kidsAt L (p : Int)).count x).sum : Nat)
  | 0, _ => by
    unfold gd cntU
    rw [List.getElem?_replicate]
    split <;> rfl
  | i + 1, h => by
    obtain ⟨n, hn⟩ := getI2 (l := L) (i := i) (by omega)
    rw [cntU_s hn, incs_gd _ _ _ (fun k hk => by have := hI i n hn k hk; rw [cntU_len]; omega) hx, cntU_gd L hI x hx i (by omega), List.range_succ, List.map_append, List.sum_append]
    simp only [List.map_cons, List.map_nil, List.sum_cons, List.sum_nil, Nat.add_zero]
    rw [kidsAt_s hn]
    omega
theorem ok_inLs {L : List ApiNode} (h : allOk L) : inLs L := fun i n hn => (h i n hn).2.1
theorem one1_of {L : List ApiNode} (h : allOk L) (ho : ¬ odd1 L) : one1 L := by
  intro x
  have hI := ok_inLs h
  by_cases hx : 0 ≤ x ∧ x < (L.length : Int) - 1
  · have e := cntU_gd L hI x hx.1 L.length (Nat.le_refl _)
    have : gd (cntU L L.length) x = 1 := by
      refine Classical.byContradiction fun hne => ho ⟨_, ?_, hne⟩
      have hl := cntU_len L L.length
      unfold gd
      rw [List.getElem?_eq_getElem (by omega)]
      refine List.mem_of_getElem? (i := x.toNat) ?_
      rw [List.getElem?_take, if_pos (by omega), List.getElem?_eq_getElem (by omega)]; rfl
    omega
  · rw [sum_congr (g := fun _ => 0)]
    · have e0 : ∀ l : List Nat, (l.map fun _ => 0).sum = 0 := fun l => by induction l <;> simp_all
      rw [e0]; omega
    · intro p hp
      rw [List.mem_range] at hp
      obtain ⟨n, hn⟩ := getI2 (l := L) (i := p) hp
      rw [kidsAt_s hn, List.count_eq_zero_of_not_mem]
      intro hm
      have := hI p n hn x hm
      omega
end Go.Proofs.Ytnnjgbcojdnhhaa
set_option linter.unusedVariables false
set_option linter.unusedSimpArgs false
set_option maxRecDepth 100000
namespace Go.Proofs.Ytnnjgbcojdnhhaa
open Go.V
open Classical
theorem walkL (L : ApiExpr) (self : Int → Option (List Int)) (i : Int) (ks : List Int) (hs : ∀ k ∈ ks, self k = some (post L.l k)) (hl : ks.length ≤ 63) : ∀ (f j : Nat) (t : List Int), ks.drop j = t → j ≤ ks.length → ks.length - j < f →
    m_below_walk_l1 self i ks f (j : Int) = some (t.flatMap (post L.l) ++ [i])
  | 0, j, t, _, _, h => by omega
  | f + 1, j, [], ht, hj, h => by
    have := drop_len ht hj
    simp only [List.length_nil] at this
    simp only [m_below_walk_l1]
    rw [decide_eq_false (by omega), cond_false]
    rfl
  | f + 1, j, x :: t, ht, hj, h => by
    have hL := drop_len ht hj
    simp only [List.length_cons] at hL
    have hx : ks[j]? = some x := by
      have := congrArg (·[0]?) ht
      simpa [List.getElem?_drop] using this
    have ih := walkL L self i ks hs hl f (j + 1) t (drop_c ht) (by omega) (by omega)
    simp only [m_below_walk_l1]
    rw [decide_eq_true (show (j : Int) < ks.length by omega), cond_true, getI hx, Option.bind_some, hs x (List.mem_of_getElem? hx), Option.bind_some, grd_pos (by omega), show ((j : Int) + 1) = ((j + 1 : Nat) : Int) by omega, ih, Option.bind_some, List.flatMap_cons, List.append_assoc]
theorem walk_eq (e : ApiExpr) (hN : ∀ n ∈ e.l, NB n) (hI : inLs e.l) : ∀ (f i : Nat), i < f → i < e.l.length → m_below_walk e f (i : Int) = some (post e.l (i : Int))
  | 0, i, h, _ => by omega
  | f + 1, i, h, hi => by
    obtain ⟨n, hn⟩ := getI2 hi
    have hNn := hN n (List.mem_of_getElem? hn)
    have hkl := kids_len n hNn
    show m_below_walkF (m_below_walk e f) (i : Int) e = _
    unfold m_below_walkF
    rw [getI hn, Option.bind_some, kids_eq n hNn, Option.bind_some, post_rec hI hn]
    exact walkL e (m_below_walk e f) (i : Int) (kidsP n) (fun k hk => by
      have := hI i n hn k hk
      obtain ⟨m, rfl⟩ : ∃ m : Nat, k = (m : Int) := ⟨k.toNat, by omega⟩
      exact walk_eq e hN hI f m (by omega) (by omega)) hkl FU 0 _ rfl (by omega) (by rw [FUv]; omega)
theorem below_eq (e : ApiExpr) (hN : ∀ n ∈ e.l, NB n) (hI : inLs e.l) (hl : e.l.length ≤ 701) (i : Nat) (hi : i < e.l.length) : m_below e (i : Int) = some (post e.l (i : Int)) := by
  unfold m_below
  rw [walk_eq e hN hI FU i (by rw [FUv]; omega) hi, Option.bind_some, Option.bind_some, List.append_nil]
def lastI (o : List ApiNode) : Int := (o.length : Int) - 1
def stepC (c : Int → List ApiNode → List ApiNode) (s : List Int × List ApiNode) (k : Int) : List Int × List ApiNode := (s.1 ++ [lastI (c k s.2)], c k s.2)
def copyF (L : List ApiNode) : Nat → Int → List ApiNode → List ApiNode
  | 0, _, o => o
  | f + 1, i, o => match L[i.toNat]? with
    | some n => (((kidsP n).foldl (stepC (copyF L f)) ([], o)).2 ++ [withP n ((kidsP n).foldl (stepC (copyF L f)) ([], o)).1])
    | none => o
def copyP (L : List ApiNode) (i : Int) (o : List ApiNode) : List ApiNode := copyF L (i.toNat + 1) i o
theorem fold_congr {c d : Int → List ApiNode → List ApiNode} : ∀ (ks : List Int) (s : List Int × List ApiNode), (∀ k ∈ ks, ∀ o, c k o = d k o) → ks.foldl (stepC c) s = ks.foldl (stepC d) s
  | [], _, _ => rfl
  | k :: ks, s, h => by
    rw [List.foldl_cons, List.foldl_cons, show stepC c s k = stepC d s k by unfold stepC; rw [h k (by simp)]]
    exact fold_congr ks _ fun x hx => h x (by simp [hx])
theorem copyF_eq (L : List ApiNode) (hI : inLs L) : ∀ (f g i : Nat), i < f → i < g → ∀ o, copyF L f (i : Int) o = copyF L g (i : Int) o
  | 0, _, i, h, _, _ => by omega
  | _, 0, i, _, h, _ => by omega
  | f + 1, g + 1, i, hf, hg, o => by
    simp only [copyF, Int.toNat_natCast]
    cases hn : L[i]? with
    | none => rfl
    | some n =>
      simp only
      rw [fold_congr (kidsP n) ([], o) fun k hk o => by
        have := hI i n hn k hk
        obtain ⟨m, rfl⟩ : ∃ m : Nat, k = (m : Int) := ⟨k.toNat, by omega⟩
        exact copyF_eq L hI f g m (by omega) (by omega) o]
theorem copy_rec {L : List ApiNode} (hI : inLs L) {i : Nat} {n : ApiNode} (hn : L[i]? = some n) (o : List ApiNode) : copyP L (i : Int) o = ((kidsP n).foldl (stepC (copyP L)) ([], o)).2 ++ [withP n ((kidsP n).foldl (stepC (copyP L)) ([], o)).1] := by
  have e : copyP L (i : Int) o = copyF L (i + 1) (i : Int) o := rfl
  rw [e]
  simp only [copyF, Int.toNat_natCast]
  rw [hn]
  simp only
  rw [fold_congr (d := copyP L) (kidsP n) ([], o) fun k hk o => by
    have := hI i n hn k hk
    obtain ⟨m, rfl⟩ : ∃ m : Nat, k = (m : Int) := ⟨k.toNat, by omega⟩
    exact copyF_eq L hI i (m + 1) m (by omega) (by omega) o]
theorem fold_len {L : List ApiNode} : ∀ (ks : List Int) (s : List Int × List ApiNode), (∀ k ∈ ks, ∀ o, (copyP L k o).length = o.length + (post L k).length) → (ks.foldl (stepC (copyP L)) s).2.length = s.2.length + (ks.flatMap (post L)).length ∧ (ks.foldl (stepC (copyP L)) s).1.length = s.1.length + ks.length
  | [], s, _ => by simp
  | k :: ks, s, h => by
    have ih := fold_len ks (stepC (copyP L) s k) fun x hx => h x (by simp [hx])
    have h0 := h k (by simp) s.2
    rw [List.foldl_cons, List.flatMap_cons, ih.1, ih.2]
    unfold stepC
    simp only [List.length_append, List.length_cons, List.length_nil]
    omega
theorem copy_len {L : List ApiNode} (hI : inLs L) : ∀ (f i : Nat), i < f → i < L.length → ∀ o, (copyP L (i : Int) o).length = o.length + (post L (i : Int)).length
  | 0, i, h, _, _ => by omega
  | f + 1, i, hf, hi, o => by
    obtain ⟨n, hn⟩ := getI2 hi
    rw [copy_rec hI hn, post_rec hI hn, List.length_append, List.length_append, (fold_len (kidsP n) ([], o) fun k hk o => by
      have := hI i n hn k hk
      obtain ⟨m, rfl⟩ : ∃ m : Nat, k = (m : Int) := ⟨k.toNat, by omega⟩
      exact copy_len hI f m (by omega) (by omega) o).1]
    simp only [List.length_cons, List.length_nil]
    omega
theorem copy_len2 {L : List ApiNode} (hI : inLs L) {i : Nat} {n : ApiNode} (hn : L[i]? = some n) : ∀ k ∈ kidsP n, ∀ o, (copyP L k o).length = o.length + (post L k).length := by
  intro k hk o
  have := hI i n hn k hk
  have hi := getLt hn
  obtain ⟨m, rfl⟩ : ∃ m : Nat, k = (m : Int) := ⟨k.toNat, by omega⟩
  exact copy_len hI (m + 1) m (by omega) (by omega) o
theorem noParts_of {n : ApiNode} (h : rightB n = true) : noParts n := by
  intro hp
  unfold rightB at h
  simp only [Bool.and_eq_true] at h
  have h2 := h.2.1.2
  rw [parted_no n hp] at h2
  simp only [Bool.not_eq_true', decide_eq_false_iff_not] at h2
  exact List.length_eq_zero_iff.1 (by omega)
theorem rcopyL (e : ApiExpr) (self : ApiExpr → Int → List ApiNode → Option (List ApiNode)) (ks : List Int) (hl : ks.length ≤ 63) (o : List ApiNode) (hlen : ∀ k ∈ ks, ∀ o, (copyP e.l k o).length = o.length + (post e.l k).length) (hb : o.length + (ks.flatMap (post e.l)).length ≤ 100000)
    (hs : ∀ k ∈ ks, ∀ o : List ApiNode, o.length + (post e.l k).length ≤ 100000 → self e k o = some (copyP e.l k o)) :
    m_syntagmaref05_copyOf_l1 self e ks FU (0, [], o) = some (ks.foldl (stepC (copyP e.l)) ([], o)) := by
  obtain ⟨r, h1, h2⟩ := loop_rng (φ := fun n j (s : List Int × List ApiNode) => m_syntagmaref05_copyOf_l1 self e ks n (j, s.1, s.2)) (l := ks) (fun j s => s = (ks.take j).foldl (stepC (copyP e.l)) ([], o)) (fun r => r = ks.foldl (stepC (copyP e.l)) ([], o)) (by
    rintro n j x s hx hj rfl
    have hf := fold_len (L := e.l) (ks.take j) ([], o) (fun k hk => hlen k (List.mem_of_mem_take hk))
    have hx2 := hlen x (List.mem_of_getElem? hx) ((ks.take j).foldl (stepC (copyP e.l)) ([], o)).2
    have hsz : ((ks.take (j + 1)).flatMap (post e.l)).length ≤ (ks.flatMap (post e.l)).length := by
      have : ks.flatMap (post e.l) = (ks.take (j + 1)).flatMap (post e.l) ++ (ks.drop (j + 1)).flatMap (post e.l) := by
        rw [← List.flatMap_append, List.take_append_drop]
      rw [this, List.length_append]; omega
    rw [take_snoc hx, List.flatMap_append, List.length_append] at hsz
    simp only [List.flatMap_cons, List.flatMap_nil, List.append_nil] at hsz
    have hj2 : (ks.take j).length = j := by simp; omega
    simp only [List.length_nil] at hf
    simp only [m_syntagmaref05_copyOf_l1]
    rw [decide_eq_true (show (j : Int) < ks.length by omega), cond_true, getI hx, Option.bind_some, hs x (List.mem_of_getElem? hx) _ (by omega), Option.bind_some, grd_pos (by omega), grd_pos (by simp only [List.length_cons, List.length_nil]; omega), grd_pos (by omega)]
    refine .inl ⟨(_, _), rfl, ?_⟩
    rw [take_snoc hx, List.foldl_append]; rfl) (by
    rintro n s rfl
    simp only [m_syntagmaref05_copyOf_l1]
    rw [decide_eq_false (by omega), cond_false, List.take_length]
    exact ⟨_, rfl, rfl⟩) (by rw [FUv]; omega) ([], o) rfl
  rw [h1, h2]
theorem rcopy_eq (e : ApiExpr) (hN : ∀ n ∈ e.l, NB n) (hok : allOk e.l) : ∀ (f i : Nat), i < f → i < e.l.length → ∀ o : List ApiNode, o.length + (post e.l (i : Int)).length ≤ 100000 → m_syntagmaref05_copyOf f e (i : Int) o = some (copyP e.l (i : Int) o)
  | 0, i, h, _, _, _ => by omega
  | f + 1, i, h, hi, o, hb => by
    obtain ⟨n, hn⟩ := getI2 hi
    have hI := ok_inLs hok
    have hNn := hN n (List.mem_of_getElem? hn)
    have hkl := kids_len n hNn
    have hpost := post_rec hI hn
    rw [hpost, List.length_append] at hb
    simp only [List.length_cons, List.length_nil] at hb
    have hlen := copy_len2 hI hn
    have hf := fold_len (L := e.l) (kidsP n) ([], o) hlen
    simp only [List.length_nil, Nat.zero_add] at hf
    show m_syntagmaref05_copyOfF (m_syntagmaref05_copyOf f) e (i : Int) o = _
    unfold m_syntagmaref05_copyOfF
    rw [getI hn, Option.bind_some, rkids_eq n hNn, Option.bind_some, rcopyL e _ (kidsP n) hkl o hlen (by omega) (fun k hk o ho => by
      have := hI i n hn k hk
      obtain ⟨m, rfl⟩ : ∃ m : Nat, k = (m : Int) := ⟨k.toNat, by omega⟩
      exact rcopy_eq e hN hok f m (by omega) (by omega) o ho), Option.bind_some]
    simp only
    rw [Option.bind_some, rwith_eq n _ hNn (noParts_of (hok i n hn).1) (by rw [hf.2]), Option.bind_some, grd_pos (by simp only [List.length_cons, List.length_nil]; omega), copy_rec hI hn]
theorem subK (mm : List (Int × Int)) (ks : List Int) (h : ks.length ≤ 63) : m_tree_sub_l2 mm ks FU (0, []) = some (ks.map fun k => (mget mm k).getD 0) := by
  refine (loop_map (φ := fun n i s => m_tree_sub_l2 mm ks n (i, s)) (l := ks) (fun k => (mget mm k).getD 0) id 0 ?_ ?_ (by rw [FUv]; omega) [] rfl).trans rfl
  · intro n i x s hx hi hs
    simp only [m_tree_sub_l2]
    rw [decide_eq_true (show (i : Int) < ks.length by omega), cond_true, getI hx, Option.bind_some, grd_pos (by simp only [List.length_cons, List.length_nil]; omega), grd_pos (by omega)]
  · intro n s hs
    simp only [m_tree_sub_l2]
    rw [decide_eq_false (by omega), cond_false]; rfl
def RunOk (e : ApiExpr) (l : List Int) (mm : List (Int × Int)) (o : List ApiNode) (mm' : List (Int × Int)) (o' : List ApiNode) : Prop :=
  (∀ rest, m_tree_sub_r1 e (l ++ rest) (mm, o) = m_tree_sub_r1 e rest (mm', o')) ∧ ∀ x, x ∉ l → mget mm' x = mget mm x
theorem runKs (e : ApiExpr) : ∀ (ks : List Int) (mm : List (Int × Int)) (acc : List Int) (o : List ApiNode), (ks.flatMap (post e.l)).Nodup → (∀ k ∈ ks, k ∈ post e.l k) → (∀ k ∈ ks, ∀ o, (copyP e.l k o).length = o.length + (post e.l k).length) → o.length + (ks.flatMap (post e.l)).length ≤ 100000 →
    (∀ k ∈ ks, ∀ mm o, (post e.l k).Nodup → o.length + (post e.l k).length ≤ 100000 → ∃ mm', RunOk e (post e.l k) mm o mm' (copyP e.l k o) ∧ mget mm' k = some (lastI (copyP e.l k o))) →
    ∃ mm', RunOk e (ks.flatMap (post e.l)) mm o mm' (ks.foldl (stepC (copyP e.l)) (acc, o)).2 ∧ (ks.foldl (stepC (copyP e.l)) (acc, o)).1 = acc ++ ks.map fun k => (mget mm' k).getD 0
  | [], mm, acc, o, _, _, _, _, _ => ⟨mm, ⟨fun _ => rfl, fun _ _ => rfl⟩, by simp⟩
  | k :: ks, mm, acc, o, hd, hm, hlen, hb, hr => by
    rw [List.flatMap_cons] at hd hb
    have hd2 := List.nodup_append.1 hd
    rw [List.length_append] at hb
    have hl := hlen k (by simp) o
    obtain ⟨m1, ⟨r1, r2⟩, r3⟩ := hr k (by simp) mm o hd2.1 (by omega)
    obtain ⟨m2, ⟨s1, s2⟩, s3⟩ := runKs e ks m1 (acc ++ [lastI (copyP e.l k o)]) (copyP e.l k o) hd2.2.1 (fun x hx => hm x (by simp [hx])) (fun x hx => hlen x (by simp [hx])) (by omega) (fun x hx => hr x (by simp [hx]))
    refine ⟨m2, ⟨fun rest => ?_, fun x hx => ?_⟩, ?_⟩
    · rw [List.flatMap_cons, List.append_assoc, r1, s1]; rfl
    · rw [List.flatMap_cons, List.mem_append] at hx
      rw [s2 x (fun h => hx (.inr h)), r2 x (fun h => hx (.inl h))]
    · have hk : mget m2 k = some (lastI (copyP e.l k o)) := by
        rw [s2 k, r3]
        intro h
        exact hd2.2.2 k (hm k (by simp)) k h rfl
      show (ks.foldl (stepC (copyP e.l)) (acc ++ [lastI (copyP e.l k o)], copyP e.l k o)).1 = _
      rw [s3, List.map_cons, hk, List.append_assoc]; rfl
theorem run_eq (e : ApiExpr) (hN : ∀ n ∈ e.l, NB n) (hok : allOk e.l) : ∀ (f i : Nat), i < f → i < e.l.length → ∀ mm o, (post e.l (i : Int)).Nodup → o.length + (post e.l (i : Int)).length ≤ 100000 →
    ∃ mm', RunOk e (post e.l (i : Int)) mm o mm' (copyP e.l (i : Int) o) ∧ mget mm' (i : Int) = some (lastI (copyP e.l (i : Int) o))
  | 0, i, h, _, _, _, _, _ => by omega
  | f + 1, i, h, hi, mm, o, hd, hb => by
    obtain ⟨n, hn⟩ := getI2 hi
    have hI := ok_inLs hok
    have hNn := hN n (List.mem_of_getElem? hn)
    have hkl := kids_len n hNn
    have hpost := post_rec hI hn
    rw [hpost] at hd hb
    have hd2 := List.nodup_append.1 hd
    rw [List.length_append] at hb
    simp only [List.length_cons, List.length_nil] at hb
    have hlen := copy_len2 hI hn
    have hf := fold_len (L := e.l) (kidsP n) ([], o) hlen
    simp only [List.length_nil, Nat.zero_add] at hf
    obtain ⟨m1, ⟨r1, r2⟩, r3⟩ := runKs e (kidsP n) mm [] o hd2.1 (fun k hk => by
      have := hI i n hn k hk
      obtain ⟨m, rfl⟩ : ∃ m : Nat, k = (m : Int) := ⟨k.toNat, by omega⟩
      obtain ⟨n2, hn2⟩ := getI2 (l := e.l) (i := m) (by omega)
      rw [post_rec hI hn2]; simp) hlen (by omega) (fun k hk mm o h1 h2 => by
      have := hI i n hn k hk
      obtain ⟨m, rfl⟩ : ∃ m : Nat, k = (m : Int) := ⟨k.toNat, by omega⟩
      exact run_eq e hN hok f m (by omega) (by omega) mm o h1 h2)
    rw [List.nil_append] at r3
    refine ⟨mset m1 (i : Int) (((kidsP n).foldl (stepC (copyP e.l)) ([], o)).2.length : Int), ⟨fun rest => ?_, fun x hx => ?_⟩, ?_⟩
    · rw [hpost, List.append_assoc, r1]
      show m_tree_sub_r1 e ((i : Int) :: rest) _ = _
      simp only [m_tree_sub_r1]
      rw [getI hn, Option.bind_some, kids_eq n hNn, Option.bind_some, subK m1 (kidsP n) hkl, Option.bind_some, Option.bind_some, ← r3, with_eq n _ hNn (noParts_of (hok i n hn).1) (by rw [hf.2]), Option.bind_some, grd_pos (by simp only [List.length_cons, List.length_nil]; omega), copy_rec hI hn]
    · rw [hpost, List.mem_append, List.mem_singleton] at hx
      rw [mget_set, if_neg (fun h => hx (.inr h)), r2 x (fun h => hx (.inl h))]
    · rw [mget_set, if_pos rfl, copy_rec hI hn]
      unfold lastI
      rw [List.length_append]
      simp only [List.length_cons, List.length_nil]
      congr 1; omega
structure TreeOk (e : ApiExpr) : Prop where
  len : e.l.length ≤ 700
  nb : ∀ n ∈ e.l, NB n
  ok : allOk e.l
  one : one1 e.l
theorem mayT_tree {e : ApiExpr} (hl : e.l.length ≤ 700) (hN : ∀ n ∈ e.l, NB n) (h : mayT e.l = 0) : TreeOk e ∧ 1 ≤ e.l.length := by
  obtain ⟨h1, h2, h3⟩ := mayT_ok h
  refine ⟨⟨hl, hN, h3, one1_of h3 ?_⟩, h1⟩
  intro ho
  unfold mayT at h
  rw [if_neg (by omega), if_neg (fun q => q h3), if_pos ho] at h
  omega
theorem sub_eq {e : ApiExpr} (h : TreeOk e) (i : Nat) (hi : i < e.l.length) : m_tree_sub e (i : Int) = some ⟨copyP e.l (i : Int) []⟩ := by
  have hI := ok_inLs h.ok
  have hpl := post_len hI h.one i hi
  have hl := h.len
  unfold m_tree_sub
  rw [below_eq e h.nb hI (by omega) i hi, Option.bind_some]
  obtain ⟨m1, ⟨r1, _⟩, _⟩ := run_eq e h.nb h.ok (i + 1) i (by omega) hi [] [] (post_nodup hI h.one i hi) (by simp only [List.length_nil]; omega)
  have := r1 []
  rw [List.append_nil] at this
  rw [this]; rfl
theorem rsub_eq {e : ApiExpr} (h : TreeOk e) (i : Nat) (hi : i < e.l.length) : m_syntagmaref05_Sub e (i : Int) = some ⟨copyP e.l (i : Int) []⟩ := by
  have hI := ok_inLs h.ok
  have hpl := post_len hI h.one i hi
  have hl := h.len
  unfold m_syntagmaref05_Sub
  rw [rcopy_eq e h.nb h.ok FU i (by rw [FUv]; omega) hi [] (by simp only [List.length_nil]; omega), Option.bind_some]
theorem copy_nb {L : List ApiNode} (hI : inLs L) (hN : ∀ n ∈ L, NB n) : ∀ (f i : Nat), i < f → i < L.length → ∀ o, (∀ n ∈ o, NB n) → ∀ n ∈ copyP L (i : Int) o, NB n
  | 0, i, h, _, _, _ => by omega
  | f + 1, i, hf, hi, o, ho => by
    obtain ⟨n, hn⟩ := getI2 hi
    have key : ∀ (ks : List Int) (s : List Int × List ApiNode), (∀ k ∈ ks, k ∈ kidsP n) → (∀ n ∈ s.2, NB n) → ∀ n ∈ (ks.foldl (stepC (copyP L)) s).2, NB n := by
      intro ks
      induction ks with
      | nil => intro s _ h; exact h
      | cons k ks ih =>
        intro s hk h
        have := hI i n hn k (hk k (by simp))
        refine ih _ (fun x hx => hk x (by simp [hx])) ?_
        obtain ⟨m, rfl⟩ : ∃ m : Nat, k = (m : Int) := ⟨k.toNat, by omega⟩
        exact copy_nb hI hN f m (by omega) (by omega) s.2 h
    intro x hx
    rw [copy_rec hI hn, List.mem_append, List.mem_singleton] at hx
    rcases hx with hx | rfl
    · exact key (kidsP n) ([], o) (fun k hk => hk) ho x hx
    · have hNn := hN n (List.mem_of_getElem? hn)
      unfold NB at hNn ⊢
      unfold withP
      simp only
      split
      · rw [List.length_zipWith]; omega
      · simp
noncomputable def subT (e : ApiExpr) (i : Int) : ApiExpr × Int := if mayT e.l = 0 then (if i < 0 ∨ (e.l.length : Int) ≤ i then (⟨[]⟩, 3) else (⟨copyP e.l i []⟩, 0)) else (⟨[]⟩, mayT e.l)
theorem tsub_eq (e : ApiExpr) (i : Int) (hl : e.l.length ≤ 700) (hN : ∀ n ∈ e.l, NB n) : m_tree_Sub e i = some (subT e i) := by
  unfold m_tree_Sub subT
  rw [may_eq e (by omega) hN, Option.bind_some]
  by_cases h : mayT e.l = 0
  · obtain ⟨ht, h1⟩ := mayT_tree hl hN h
    rw [decide_eq_true h, if_pos h, Bool.not_true, cond_false]
    by_cases hi : i < 0 ∨ (e.l.length : Int) ≤ i
    · rw [if_pos hi, show (decide (i < 0) || decide ((e.l.length : Int) ≤ i)) = true by rw [Bool.or_eq_true, decide_eq_true_eq, decide_eq_true_eq]; exact hi, cond_true]
    · rw [if_neg hi, show (decide (i < 0) || decide ((e.l.length : Int) ≤ i)) = false by rw [Bool.or_eq_false_iff, decide_eq_false_iff_not, decide_eq_false_iff_not]; omega, cond_false]
      obtain ⟨m, rfl⟩ : ∃ m : Nat, i = (m : Int) := ⟨i.toNat, by omega⟩
      rw [sub_eq ht m (by omega), Option.bind_some]
  · rw [decide_eq_false h, if_neg h, Bool.not_false, cond_true]
end Go.Proofs.Ytnnjgbcojdnhhaa
set_option linter.unusedVariables false
set_option linter.unusedSimpArgs false
set_option maxRecDepth 100000
namespace Go.Proofs.Ytnnjgbcojdnhhaa
open Go.V
open Classical
theorem zip_zip : ∀ (l : List ApiField) (a b : List Int), l.length = a.length → List.zipWith relF (List.zipWith relF l a) b = List.zipWith relF l b
  | [], _, _, _ => by simp
  | _ :: _, [], _, h => by simp at h
  | x :: l, k :: a, [], _ => by simp
  | x :: l, k :: a, m :: b, h => by
    rw [List.zipWith_cons_cons, List.zipWith_cons_cons, List.zipWith_cons_cons, zip_zip l a b (by simpa using h)]; rfl
theorem zip_at : ∀ (l : List ApiField) (a : List Int), l.length = a.length → (List.zipWith relF l a).map (·.at_) = a
  | [], [], _ => rfl
  | [], _ :: _, h => by simp at h
  | _ :: _, [], h => by simp at h
  | x :: l, k :: a, h => by
    rw [List.zipWith_cons_cons, List.map_cons, zip_at l a (by simpa using h)]; rfl
theorem zip_name : ∀ (l : List ApiField) (a : List Int), l.length = a.length → (List.zipWith relF l a).map (·.name) = l.map (·.name)
  | [], _, _ => by simp
  | _ :: _, [], h => by simp at h
  | x :: l, k :: a, h => by
    rw [List.zipWith_cons_cons, List.map_cons, List.map_cons, zip_name l a (by simpa using h)]; rfl
theorem zip_part (kd : Int) : ∀ (l : List ApiField) (a : List Int), l.length = a.length → ((∀ x ∈ List.zipWith relF l a, partB kd x = true) ↔ ∀ x ∈ l, partB kd x = true)
  | [], _, _ => by simp
  | _ :: _, [], h => by simp at h
  | x :: l, k :: a, h => by
    rw [List.zipWith_cons_cons, List.forall_mem_cons, List.forall_mem_cons, zip_part kd l a (by simpa using h)]; rfl
theorem first3 (ks : List Int) (m : Nat) (hm : m ≤ 3) (hl : m ≤ ks.length) : [((ks.take m)[0]?).getD 0, ((ks.take m)[1]?).getD 0, ((ks.take m)[2]?).getD 0].take m = ks.take m := by
  match m, ks, hm, hl with
  | 0, ks, _, _ => rfl
  | 1, k0 :: ks, _, _ => rfl
  | 2, k0 :: k1 :: ks, _, _ => rfl
  | 3, k0 :: k1 :: k2 :: ks, _, _ => rfl
theorem first3z (ks : List Int) (m : Nat) (hm : m ≤ 3) (hl : m ≤ ks.length) : (([((ks.take m)[0]?).getD 0, ((ks.take m)[1]?).getD 0, ((ks.take m)[2]?).getD 0].drop m).all fun x => decide (x = 0)) = true := by
  match m, ks, hm, hl with
  | 0, ks, _, _ => rfl
  | 1, k0 :: ks, _, _ => rfl
  | 2, k0 :: k1 :: ks, _, _ => rfl
  | 3, k0 :: k1 :: k2 :: ks, _, _ => rfl
theorem withP_kids (n : ApiNode) (ks : List Int) (hp : noParts n) (hk : ks.length = (kidsP n).length) : kidsP (withP n ks) = ks := by
  rw [kidsP_len n hp] at hk
  have h3 := abc_le n.kind
  unfold kidsP withP
  simp only
  rw [first3 ks _ h3 (by omega)]
  cases hb : partsB n.kind with
  | false =>
    rw [hp hb] at hk
    simp only [List.length_nil, Nat.add_zero] at hk
    rw [if_neg (by decide), List.append_nil, List.take_of_length_le (by omega)]
  | true =>
    rw [if_pos rfl, if_pos rfl, zip_at _ _ (by rw [List.length_drop]; omega), List.take_append_drop]
theorem withP_withP (n : ApiNode) (ks k2 : List Int) (hp : noParts n) (hk : ks.length = (kidsP n).length) : withP (withP n ks) k2 = withP n k2 := by
  rw [kidsP_len n hp] at hk
  unfold withP
  simp only
  cases hb : partsB n.kind with
  | false => rfl
  | true =>
    simp only [if_true]
    rw [zip_zip _ _ _ (by rw [List.length_drop]; omega)]
theorem withP_noParts (n : ApiNode) (ks : List Int) : noParts (withP n ks) := by
  intro h
  unfold withP at h ⊢
  simp only at h ⊢
  rw [if_neg (by rw [h]; decide)]
theorem withP_right (n : ApiNode) (ks : List Int) (hp : noParts n) (hk : ks.length = (kidsP n).length) (h : rightB n = true) : rightB (withP n ks) = true := by
  have hk0 := hk
  rw [kidsP_len n hp] at hk
  have h3 := abc_le n.kind
  unfold rightB at h ⊢
  simp only [Bool.and_eq_true] at h ⊢
  obtain ⟨h1, ⟨⟨h2, h4⟩, h5⟩, h6⟩ := h
  refine ⟨h1, ⟨⟨h2, h4⟩, ?_⟩, first3z ks (abcN n.kind) h3 (by omega)⟩
  unfold partedB at h5 ⊢
  show (if partsB n.kind = true then _ else _) = true
  cases hb : partsB n.kind with
  | false =>
    rw [hb] at h5
    have : (withP n ks).l = [] := by unfold withP; simp only; rw [if_neg (by rw [hb]; decide)]
    rw [if_neg (by decide), this]; rfl
  | true =>
    have hl : (withP n ks).l = List.zipWith relF n.l (ks.drop (abcN n.kind)) := by unfold withP; simp only; rw [if_pos hb]
    have hz : n.l.length = (ks.drop (abcN n.kind)).length := by rw [List.length_drop]; omega
    rw [hb, if_pos rfl] at h5
    rw [if_pos rfl, hl, zip_name _ _ hz, List.length_zipWith, ← hz, Nat.min_self, show (withP n ks).kind = n.kind from rfl]
    simp only [Bool.and_eq_true, decide_eq_true_eq] at h5 ⊢
    exact ⟨⟨(zip_part _ _ _ hz).2 h5.1.1, h5.1.2⟩, h5.2⟩
theorem withP_nb (n : ApiNode) (ks : List Int) (h : NB n) : NB (withP n ks) := by
  unfold NB at *
  unfold withP
  simp only
  split
  · rw [List.length_zipWith]; omega
  · simp
def sh (s : Nat) (n : ApiNode) : ApiNode := withP n ((kidsP n).map (· + (s : Int)))
theorem sh_with (s : Nat) (n : ApiNode) (ks : List Int) (hp : noParts n) (hk : ks.length = (kidsP n).length) : sh s (withP n ks) = withP n (ks.map (· + (s : Int))) := by
  unfold sh
  rw [withP_kids n ks hp hk, withP_withP n ks _ hp hk]
theorem copy_sh {L : List ApiNode} (hok : allOk L) (t : List ApiNode) : ∀ (f i : Nat), i < f → i < L.length → ∀ o, copyP L (i : Int) (t ++ o.map (sh t.length)) = t ++ (copyP L (i : Int) o).map (sh t.length)
  | 0, i, h, _, _ => by omega
  | f + 1, i, hf, hi, o => by
    obtain ⟨n, hn⟩ := getI2 hi
    have hI := ok_inLs hok
    have hp := noParts_of (hok i n hn).1
    have key : ∀ (ks : List Int) (acc : List Int) (o : List ApiNode), (∀ k ∈ ks, k ∈ kidsP n) → ks.foldl (stepC (copyP L)) (acc.map (· + (t.length : Int)), t ++ o.map (sh t.length)) = ((ks.foldl (stepC (copyP L)) (acc, o)).1.map (· + (t.length : Int)), t ++ (ks.foldl (stepC (copyP L)) (acc, o)).2.map (sh t.length)) := by
      intro ks
      induction ks with
      | nil => intro acc o _; rfl
      | cons k ks ih =>
        intro acc o hk
        have := hI i n hn k (hk k (by simp))
        have e : copyP L k (t ++ o.map (sh t.length)) = t ++ (copyP L k o).map (sh t.length) := by
          obtain ⟨m, rfl⟩ : ∃ m : Nat, k = (m : Int) := ⟨k.toNat, by omega⟩
          exact copy_sh hok t f m (by omega) (by omega) o
        have hs : stepC (copyP L) (acc.map (· + (t.length : Int)), t ++ o.map (sh t.length)) k = ((acc ++ [lastI (copyP L k o)]).map (· + (t.length : Int)), t ++ (copyP L k o).map (sh t.length)) := by
          unfold stepC
          simp only
          rw [e, List.map_append]
          unfold lastI
          simp only [List.length_append, List.length_map, List.map_cons, List.map_nil]
          congr 3
          omega
        rw [List.foldl_cons, hs, ih _ _ fun x hx => hk x (by simp [hx])]
        rfl
    have k0 := key (kidsP n) [] o fun k hk => hk
    have hf := fold_len (L := L) (kidsP n) ([], o) (copy_len2 hI hn)
    simp only [List.map_nil] at k0
    rw [copy_rec hI hn, copy_rec hI hn, k0, List.map_append, List.append_assoc]
    simp only [List.map_cons, List.map_nil]
    rw [sh_with _ _ _ hp (by rw [hf.2]; simp)]
theorem pre_get {α : Type} {a O : List α} (h : a <+: O) {i : Nat} {x : α} (hx : a[i]? = some x) : O[i]? = some x := by
  obtain ⟨t, rfl⟩ := h
  rw [List.getElem?_append_left (getLt hx)]; exact hx
theorem fold_pre {L : List ApiNode} {n : ApiNode} (hp : ∀ k : Int, ∀ o, k ∈ (kidsP n : List Int) → o <+: copyP L k o) : ∀ (ks : List Int) (s : List Int × List ApiNode), (∀ k ∈ ks, k ∈ kidsP n) → s.2 <+: (ks.foldl (stepC (copyP L)) s).2
  | [], s, _ => List.prefix_refl _
  | k :: ks, s, h => (hp k s.2 (h k (by simp))).trans (fold_pre hp ks (stepC (copyP L) s k) fun x hx => h x (by simp [hx]))
theorem copy_pre {L : List ApiNode} (hI : inLs L) : ∀ (f i : Nat), i < f → i < L.length → ∀ o, o <+: copyP L (i : Int) o
  | 0, i, h, _, _ => by omega
  | f + 1, i, hf, hi, o => by
    obtain ⟨n, hn⟩ := getI2 hi
    rw [copy_rec hI hn]
    refine (fold_pre (n := n) (fun k o hk => ?_) (kidsP n) ([], o) fun k hk => hk).trans (List.prefix_append _ _)
    have := hI i n hn k hk
    obtain ⟨m, rfl⟩ : ∃ m : Nat, k = (m : Int) := ⟨k.toNat, by omega⟩
    exact copy_pre hI f m (by omega) (by omega) o
theorem fold_in {L : List ApiNode} {n : ApiNode} (hp : ∀ k ∈ kidsP n, ∀ o, o <+: copyP L k o ∧ o.length < (copyP L k o).length) : ∀ (ks acc : List Int) (o : List ApiNode), (∀ k ∈ ks, k ∈ kidsP n) →
    ∃ R : List Int, (ks.foldl (stepC (copyP L)) (acc, o)).1 = acc ++ R ∧ R.length = ks.length ∧ (∀ (j : Nat) k m, ks[j]? = some k → R[j]? = some m → ∃ oj, o <+: oj ∧ copyP L k oj <+: (ks.foldl (stepC (copyP L)) (acc, o)).2 ∧ m = lastI (copyP L k oj)) ∧
    ∀ q, o.length ≤ q → q < (ks.foldl (stepC (copyP L)) (acc, o)).2.length → ∃ k oj, k ∈ ks ∧ copyP L k oj <+: (ks.foldl (stepC (copyP L)) (acc, o)).2 ∧ oj.length ≤ q ∧ q < (copyP L k oj).length
  | [], acc, o, _ => ⟨[], by simp, rfl, fun j k m h => by simp at h, fun q h1 h2 => by simp only [List.foldl_nil] at h2; omega⟩
  | k :: ks, acc, o, h => by
    have hk := h k (by simp)
    have h0 := hp k hk o
    obtain ⟨R, r1, r2, r3, r4⟩ := fold_in hp ks (acc ++ [lastI (copyP L k o)]) (copyP L k o) fun x hx => h x (by simp [hx])
    have hpre := fold_pre (n := n) (fun k o hk => (hp k hk o).1) ks (acc ++ [lastI (copyP L k o)], copyP L k o) fun x hx => h x (by simp [hx])
    refine ⟨lastI (copyP L k o) :: R, ?_, by simp [r2], ?_, ?_⟩
    · show (ks.foldl (stepC (copyP L)) (acc ++ [lastI (copyP L k o)], copyP L k o)).1 = _
      rw [r1, List.append_assoc]; rfl
    · intro j x m hx hm
      cases j with
      | zero =>
        simp only [List.getElem?_cons_zero, Option.some.injEq] at hx hm
        subst hx hm
        exact ⟨o, List.prefix_refl _, hpre, rfl⟩
      | succ j =>
        simp only [List.getElem?_cons_succ] at hx hm
        obtain ⟨oj, q1, q2, q3⟩ := r3 j x m hx hm
        exact ⟨oj, h0.1.trans q1, q2, q3⟩
    · intro q h1 h2
      by_cases hq : q < (copyP L k o).length
      · exact ⟨k, o, by simp, hpre, h1, hq⟩
      · obtain ⟨x, oj, q1, q2, q3, q4⟩ := r4 q (by omega) h2
        exact ⟨x, oj, by simp [q1], q2, q3, q4⟩
theorem copy_more {L : List ApiNode} (hI : inLs L) {i : Nat} (hi : i < L.length) (o : List ApiNode) : o <+: copyP L (i : Int) o ∧ o.length < (copyP L (i : Int) o).length := by
  refine ⟨copy_pre hI (i + 1) i (by omega) hi o, ?_⟩
  obtain ⟨n, hn⟩ := getI2 hi
  rw [copy_len hI (i + 1) i (by omega) hi o, post_rec hI hn]
  simp
theorem kids_more {L : List ApiNode} (hI : inLs L) {i : Nat} {n : ApiNode} (hn : L[i]? = some n) : ∀ k ∈ kidsP n, ∀ o, o <+: copyP L k o ∧ o.length < (copyP L k o).length := by
  intro k hk o
  have := hI i n hn k hk
  have hi := getLt hn
  obtain ⟨m, rfl⟩ : ∃ m : Nat, k = (m : Int) := ⟨k.toNat, by omega⟩
  exact copy_more hI (by omega) o
/-- The last node of a copy. -/
theorem copy_last {L : List ApiNode} (hok : allOk L) {i : Nat} {n : ApiNode} (hn : L[i]? = some n) (o : List ApiNode) : ∃ R : List Int, (copyP L (i : Int) o)[(copyP L (i : Int) o).length - 1]? = some (withP n R) ∧ R.length = (kidsP n).length ∧ inL ((copyP L (i : Int) o).length - 1) R ∧
    ∀ (j : Nat) k m, (kidsP n)[j]? = some k → R[j]? = some m → ∃ oj, o <+: oj ∧ copyP L k oj <+: copyP L (i : Int) o ∧ m = lastI (copyP L k oj) := by
  have hI := ok_inLs hok
  have hm := kids_more hI hn
  obtain ⟨R, r1, r2, r3, r4⟩ := fold_in hm (kidsP n) [] o fun k hk => hk
  rw [List.nil_append] at r1
  have hc := copy_rec hI hn o
  refine ⟨R, ?_, r2, ?_, ?_⟩
  · rw [hc, r1, List.length_append]
    simp
  · intro x hx
    obtain ⟨j, hj, hx2⟩ := List.getElem_of_mem hx
    obtain ⟨k, hk⟩ := getI2 (l := kidsP n) (i := j) (by omega)
    obtain ⟨oj, q1, q2, q3⟩ := r3 j k x hk (by rw [← hx2]; exact List.getElem?_eq_getElem hj)
    have h1 := hm k (List.mem_of_getElem? hk) oj
    have h2 := q2.length_le
    rw [hc, List.length_append]
    simp only [List.length_cons, List.length_nil]
    unfold lastI at q3
    omega
  · intro j k m hk hm2
    obtain ⟨oj, q1, q2, q3⟩ := r3 j k m hk hm2
    exact ⟨oj, q1, q2.trans (by rw [hc]; exact List.prefix_append _ _), q3⟩
/-- Each place of a copy is the last of a copy. -/
theorem copy_at {L : List ApiNode} (hok : allOk L) : ∀ (f i : Nat), i < f → i < L.length → ∀ (o : List ApiNode) (q : Nat), o.length ≤ q → q < (copyP L (i : Int) o).length → ∃ (m : Nat) (o' : List ApiNode), m < L.length ∧ copyP L (m : Int) o' <+: copyP L (i : Int) o ∧ q + 1 = (copyP L (m : Int) o').length
  | 0, i, h, _, _, _, _, _ => by omega
  | f + 1, i, hf, hi, o, q, h1, h2 => by
    obtain ⟨n, hn⟩ := getI2 hi
    have hI := ok_inLs hok
    have hm := kids_more hI hn
    by_cases hq : q + 1 = (copyP L (i : Int) o).length
    · exact ⟨i, o, hi, List.prefix_refl _, hq⟩
    · obtain ⟨R, r1, r2, r3, r4⟩ := fold_in hm (kidsP n) [] o fun k hk => hk
      have hc := copy_rec hI hn o
      have hl := congrArg List.length hc
      rw [List.length_append] at hl
      simp only [List.length_cons, List.length_nil] at hl
      obtain ⟨k, oj, q1, q2, q3, q4⟩ := r4 q h1 (by omega)
      have := hI i n hn k q1
      obtain ⟨m, rfl⟩ : ∃ m : Nat, k = (m : Int) := ⟨k.toNat, by omega⟩
      obtain ⟨m2, o2, s1, s2, s3⟩ := copy_at hok f m (by omega) (by omega) oj q q3 q4
      exact ⟨m2, o2, s1, s2.trans (q2.trans (by rw [hc]; exact List.prefix_append _ _)), s3⟩
theorem copy_node {L : List ApiNode} (hok : allOk L) {i : Nat} (hi : i < L.length) {q : Nat} {nd : ApiNode} (h : (copyP L (i : Int) [])[q]? = some nd) : ∃ (m : Nat) (n : ApiNode) (R : List Int), L[m]? = some n ∧ nd = withP n R ∧ R.length = (kidsP n).length ∧ inL q R ∧
    ∀ (j : Nat) k x, (kidsP n)[j]? = some k → R[j]? = some x → ∃ oj, copyP L k oj <+: copyP L (i : Int) [] ∧ x = lastI (copyP L k oj) := by
  obtain ⟨m, o', h1, h2, h3⟩ := copy_at hok (i + 1) i (by omega) hi [] q (by simp) (getLt h)
  obtain ⟨n, hn⟩ := getI2 h1
  obtain ⟨R, r1, r2, r3, r4⟩ := copy_last hok hn o'
  rw [show (copyP L (m : Int) o').length - 1 = q by omega] at r1 r3
  have := pre_get h2 r1
  rw [h] at this
  refine ⟨m, n, R, hn, Option.some.inj this, r2, r3, fun j k x hk hx => ?_⟩
  obtain ⟨oj, q1, q2, q3⟩ := r4 j k x hk hx
  exact ⟨oj, q2.trans h2, q3⟩
theorem copy_ok {L : List ApiNode} (hok : allOk L) {i : Nat} (hi : i < L.length) : allOk (copyP L (i : Int) []) := by
  intro q nd h
  have hI := ok_inLs hok
  obtain ⟨m, n, R, hn, rfl, r2, r3, r4⟩ := copy_node hok hi h
  have hnp := noParts_of (hok m n hn).1
  refine ⟨withP_right n R hnp r2 (hok m n hn).1, by rw [withP_kids n R hnp r2]; exact r3, fun h8 => ?_⟩
  have hk8 : n.kind = 8 := h8
  obtain ⟨y, hy, hy5⟩ := (hok m n hn).2.2 hk8
  have hab : abcN n.kind = 2 := by rw [hk8]; rfl
  have hk0 : (kidsP n)[0]? = some n.a := by
    unfold kidsP
    rw [hab]; rfl
  obtain ⟨x, hx⟩ := getI2 (l := R) (i := 0) (by have := getLt hk0; omega)
  have ha : (withP n R).a = x := by
    unfold withP
    simp only
    rw [hab, List.getElem?_take, if_pos (by omega), hx]; rfl
  obtain ⟨oj, q1, q2⟩ := r4 0 n.a x hk0 hx
  have hka := hI m n hn n.a (List.mem_of_getElem? hk0)
  obtain ⟨a, hna⟩ : ∃ a : Nat, n.a = (a : Int) := ⟨n.a.toNat, by omega⟩
  rw [hna, Int.toNat_natCast] at hy
  rw [hna] at q1 q2
  have hmore := copy_more hI (getLt hy) oj
  obtain ⟨R2, s1, s2, s3, s4⟩ := copy_last hok hy oj
  refine ⟨withP y R2, ?_, hy5⟩
  rw [ha, q2]
  unfold lastI
  rw [show (((copyP L (a : Int) oj).length : Int) - 1).toNat = (copyP L (a : Int) oj).length - 1 by omega]
  exact pre_get q1 s1
theorem joinK (s : List ApiNode) (l : List Int) (hl : l.length ≤ 63) (hs : s.length ≤ 100000000) (hb : ∀ x ∈ l, 0 ≤ x ∧ x ≤ 100000000) : m_tree_Join_l3 s l FU (0, l) = some (l.map (· + (s.length : Int))) := by
  obtain ⟨r, h1, h2⟩ := loop_rng (φ := fun n j t => m_tree_Join_l3 s l n (j, t)) (l := l) (fun j t => t = (l.take j).map (· + (s.length : Int)) ++ l.drop j) (fun r => r = l.map (· + (s.length : Int))) (by
    rintro n j x t hx hj rfl
    have hd : l.drop j = x :: l.drop (j + 1) := by
      obtain ⟨hi2, hx2⟩ := List.getElem?_eq_some_iff.1 hx
      rw [List.drop_eq_getElem_cons hi2, hx2]
    have hzl : ((l.take j).map (· + (s.length : Int))).length = j := by simp; omega
    have hsi : ((l.take j).map (· + (s.length : Int)) ++ l.drop j)[j]? = some x := by
      rw [List.getElem?_append_right (by omega), hzl, Nat.sub_self, hd]; rfl
    have hx2 := hb x (List.mem_of_getElem? hx)
    simp only [m_tree_Join_l3]
    rw [decide_eq_true (show (j : Int) < l.length by omega), cond_true, getI hsi, Option.bind_some, grd_pos (by omega), Option.bind_some, grd_pos (by omega)]
    refine .inl ⟨_, rfl, ?_⟩
    rw [Int.toNat_natCast, List.set_append_right _ _ (by omega), hzl, Nat.sub_self, hd, List.set_cons_zero, take_snoc hx, List.map_append, List.append_assoc]
    rfl) (by
    rintro n t rfl
    simp only [m_tree_Join_l3]
    rw [decide_eq_false (by omega), cond_false, List.take_length, List.drop_length, List.append_nil]
    exact ⟨_, rfl, rfl⟩) (by rw [FUv]; omega) l (by simp)
  rw [h1, h2]
structure NodeOk (n : ApiNode) : Prop where
  nb : NB n
  np : noParts n
  kb : ∀ k ∈ kidsP n, 0 ≤ k ∧ k ≤ 100000000
theorem joinL (s : List ApiNode) (x : ApiExpr) (hs : s.length + x.l.length ≤ 100000000) (hx : ∀ n ∈ x.l, NodeOk n) : m_tree_Join_l2 s x FU (0, s) = some (s ++ x.l.map (sh s.length)) := by
  obtain ⟨r, h1, h2⟩ := loop_rng (φ := fun n j t => m_tree_Join_l2 s x n (j, t)) (l := x.l) (fun j t => t = s ++ (x.l.take j).map (sh s.length)) (fun r => r = s ++ x.l.map (sh s.length)) (by
    rintro f j n t hn hj rfl
    have hk := hx n (List.mem_of_getElem? hn)
    have hzl : ((x.l.take j).map (sh s.length)).length = j := by simp; omega
    simp only [m_tree_Join_l2]
    rw [decide_eq_true (show (j : Int) < x.l.length by omega), cond_true, getI hn, Option.bind_some]
    rw [show m_tree_KidsO (⟨n.kind, n.a, n.b, n.c, n.n_, n.name, n.s, n.l, n.pos⟩ : ApiNode) = m_tree_KidsO n from rfl, kidsO_eq n hk.nb, Option.bind_some, joinK s (kidsP n) (kids_len n hk.nb) (by omega) hk.kb, Option.bind_some]
    rw [show m_tree_with (⟨n.kind, n.a, n.b, n.c, n.n_, n.name, n.s, n.l, n.pos⟩ : ApiNode) ((kidsP n).map (· + (s.length : Int))) = m_tree_with n ((kidsP n).map (· + (s.length : Int))) from rfl, with_eq n _ hk.nb hk.np (by simp), Option.bind_some, grd_pos (by rw [List.length_append, hzl]; simp only [List.length_cons, List.length_nil]; omega), grd_pos (by omega)]
    refine .inl ⟨_, rfl, ?_⟩
    rw [take_snoc hn, List.map_append, List.append_assoc]
    rfl) (by
    rintro n t rfl
    simp only [m_tree_Join_l2]
    rw [decide_eq_false (by omega), cond_false, List.take_length]
    exact ⟨_, rfl, rfl⟩) (by rw [FUv]; omega) s (by simp)
  rw [h1, h2]
theorem copy_nodes {e : ApiExpr} (h : TreeOk e) {i : Nat} (hi : i < e.l.length) : (copyP e.l (i : Int) []).length ≤ 700 ∧ ∀ n ∈ copyP e.l (i : Int) [], NodeOk n := by
  have hI := ok_inLs h.ok
  have hl := copy_len hI _ _ (Nat.lt_succ_self i) hi []
  have hp := post_len hI h.one i hi
  have h7 := h.len
  simp only [List.length_nil] at hl
  refine ⟨by omega, fun n hn => ?_⟩
  obtain ⟨q, hq, hx⟩ := List.getElem_of_mem hn
  obtain ⟨m, n2, R, h1, h2, h3, h4, _⟩ := copy_node h.ok hi (q := q) (nd := n) (by rw [← hx]; exact List.getElem?_eq_getElem hq)
  subst h2
  have hnp := noParts_of (h.ok m n2 h1).1
  refine ⟨withP_nb n2 R (h.nb n2 (List.mem_of_getElem? h1)), withP_noParts n2 R, fun k hk => ?_⟩
  rw [withP_kids n2 R hnp h3] at hk
  have := h4 k hk
  omega
def subL (e : ApiExpr) (ks : List Int) : List ApiExpr := ks.map fun k => ⟨copyP e.l k []⟩
theorem joinT {e : ApiExpr} (h : TreeOk e) {i : Nat} {n : ApiNode} (hn : e.l[i]? = some n) : m_tree_Join n (subL e (kidsP n)) = some ⟨copyP e.l (i : Int) []⟩ := by
  have hI := ok_inLs h.ok
  have hi := getLt hn
  have hNn := h.nb n (List.mem_of_getElem? hn)
  have hkl := kids_len n hNn
  have hnp := noParts_of (h.ok i n hn).1
  have hfl := fold_len (L := e.l) (kidsP n) ([], []) (copy_len2 hI hn)
  have hpr := post_rec hI hn
  have hpl := post_len hI h.one i hi
  have h7 := h.len
  rw [hpr, List.length_append] at hpl
  simp only [List.length_cons, List.length_nil, Nat.zero_add] at hpl hfl
  unfold m_tree_Join
  obtain ⟨r, h1, h2⟩ := loop_rng (φ := fun f j (t : List Int × List ApiNode) => m_tree_Join_l1 (subL e (kidsP n)) f (j, t.1, t.2)) (l := kidsP n) (fun j t => t = ((kidsP n).take j).foldl (stepC (copyP e.l)) ([], [])) (fun r => r = (kidsP n).foldl (stepC (copyP e.l)) ([], [])) (by
    rintro f j k t hk hj rfl
    have hkk := hI i n hn k (List.mem_of_getElem? hk)
    have hff := fold_len (L := e.l) ((kidsP n).take j) ([], []) (fun k hk => copy_len2 hI hn k (List.mem_of_mem_take hk))
    have hj2 : ((kidsP n).take j).length = j := by simp; omega
    have hsz : (((kidsP n).take (j + 1)).flatMap (post e.l)).length ≤ ((kidsP n).flatMap (post e.l)).length := by
      have : (kidsP n).flatMap (post e.l) = ((kidsP n).take (j + 1)).flatMap (post e.l) ++ ((kidsP n).drop (j + 1)).flatMap (post e.l) := by
        rw [← List.flatMap_append, List.take_append_drop]
      rw [this, List.length_append]; omega
    rw [take_snoc hk, List.flatMap_append, List.length_append] at hsz
    simp only [List.flatMap_cons, List.flatMap_nil, List.append_nil, List.length_nil, Nat.zero_add] at hsz hff
    have hsub : (subL e (kidsP n))[j]? = some ⟨copyP e.l k []⟩ := by
      unfold subL
      rw [List.getElem?_map, hk]; rfl
    have hsl : (subL e (kidsP n)).length = (kidsP n).length := by unfold subL; simp
    have hcl := copy_len2 hI hn k (List.mem_of_getElem? hk) (((kidsP n).take j).foldl (stepC (copyP e.l)) ([], [])).2
    have hc0 := copy_len2 hI hn k (List.mem_of_getElem? hk) []
    simp only [List.length_nil, Nat.zero_add] at hc0
    have hno : ∀ m ∈ copyP e.l k [], NodeOk m := by
      obtain ⟨a, rfl⟩ : ∃ a : Nat, k = (a : Int) := ⟨k.toNat, by omega⟩
      exact (copy_nodes h (by omega)).2
    have hsh : (((kidsP n).take j).foldl (stepC (copyP e.l)) ([], [])).2 ++ (copyP e.l k []).map (sh (((kidsP n).take j).foldl (stepC (copyP e.l)) ([], [])).2.length) = copyP e.l k (((kidsP n).take j).foldl (stepC (copyP e.l)) ([], [])).2 := by
      obtain ⟨a, rfl⟩ : ∃ a : Nat, k = (a : Int) := ⟨k.toNat, by omega⟩
      have := copy_sh h.ok (((kidsP n).take j).foldl (stepC (copyP e.l)) ([], [])).2 (a + 1) a (by omega) (by omega) []
      rw [List.map_nil, List.append_nil] at this
      exact this.symm
    have hjl := joinL (((kidsP n).take j).foldl (stepC (copyP e.l)) ([], [])).2 ⟨copyP e.l k []⟩ (show _ + (copyP e.l k []).length ≤ 100000000 by omega) hno
    simp only [m_tree_Join_l1]
    rw [decide_eq_true (show (j : Int) < (subL e (kidsP n)).length by omega), cond_true, getI hsub, Option.bind_some, hjl, Option.bind_some]
    dsimp only
    rw [hsh, grd_pos (by omega), grd_pos (by simp only [List.length_cons, List.length_nil]; omega), grd_pos (by omega)]
    refine .inl ⟨(_, _), rfl, ?_⟩
    rw [take_snoc hk, List.foldl_append]; rfl) (by
    rintro f t rfl
    have hsl : (subL e (kidsP n)).length = (kidsP n).length := by unfold subL; simp
    simp only [m_tree_Join_l1]
    rw [decide_eq_false (by omega), cond_false, List.take_length]
    exact ⟨_, rfl, rfl⟩) (by rw [FUv]; omega) ([], []) rfl
  rw [h1, h2, Option.bind_some]
  dsimp only
  rw [with_eq n _ hNn hnp hfl.2, Option.bind_some, grd_pos (by simp only [List.length_cons, List.length_nil]; omega), copy_rec hI hn]
def stepJ (st : List Int × List ApiNode) (x : ApiExpr) : List Int × List ApiNode := (st.1 ++ [(((st.2 ++ x.l.map (sh st.2.length)).length : Nat) : Int) - 1], st.2 ++ x.l.map (sh st.2.length))
def foldJ (xs : List ApiExpr) : List Int × List ApiNode := xs.foldl stepJ ([], [])
def TOk (x : ApiExpr) : Prop := x.l.length ≤ 1000000 ∧ ∀ n ∈ x.l, NodeOk n
theorem foldJ_len (xs : List ApiExpr) : ∀ st, (∀ x ∈ xs, TOk x) → (xs.foldl stepJ st).1.length = st.1.length + xs.length ∧ (xs.foldl stepJ st).2.length ≤ st.2.length + 1000000 * xs.length := by
  induction xs with
  | nil => intro st _; simp
  | cons x xs ih =>
    intro st h
    have h1 := (h x (List.mem_cons_self ..)).1
    obtain ⟨a, b⟩ := ih (stepJ st x) (fun y hy => h y (List.mem_cons_of_mem _ hy))
    rw [List.foldl_cons]
    refine ⟨?_, ?_⟩
    · rw [a]; unfold stepJ; simp only [List.length_append, List.length_cons, List.length_nil]; omega
    · refine Nat.le_trans b ?_
      unfold stepJ; simp only [List.length_append, List.length_map, List.length_cons]; omega
theorem foldJ_sum (xs : List ApiExpr) : ∀ st, (xs.foldl stepJ st).2.length = st.2.length + (xs.map fun x => x.l.length).sum := by
  induction xs with
  | nil => intro st; simp
  | cons x xs ih =>
    intro st
    rw [List.foldl_cons, ih, List.map_cons, List.sum_cons]
    unfold stepJ; simp only [List.length_append, List.length_map]; omega
theorem joinG (n : ApiNode) (xs : List ApiExpr) (hN : NB n) (hk : xs.length = (kidsP n).length) (hx : ∀ x ∈ xs, TOk x) : m_tree_Join n xs = some ⟨(foldJ xs).2 ++ [withP n (foldJ xs).1]⟩ := by
  have hkl := kids_len n hN
  unfold m_tree_Join
  obtain ⟨r, h1, h2⟩ := loop_rng (φ := fun f j (t : List Int × List ApiNode) => m_tree_Join_l1 xs f (j, t.1, t.2)) (l := xs) (fun j t => t = foldJ (xs.take j)) (fun r => r = foldJ xs) (by
    rintro f j x t hxj hj rfl
    obtain ⟨f1, f2⟩ := foldJ_len (xs.take j) ([], []) (fun y hy => hx y (List.mem_of_mem_take hy))
    have hxo := hx x (List.mem_of_getElem? hxj)
    have hj2 : (xs.take j).length = j := by simp; omega
    rw [hj2] at f1 f2
    simp only [List.length_nil, Nat.zero_add] at f1 f2
    have hxo1 := hxo.1
    have hjl := joinL (foldJ (xs.take j)).2 x (by unfold foldJ; omega) hxo.2
    simp only [m_tree_Join_l1]
    rw [decide_eq_true (show (j : Int) < xs.length by omega), cond_true, getI hxj, Option.bind_some, hjl, Option.bind_some]
    rw [grd_pos (by unfold foldJ; simp only [List.length_append, List.length_map]; omega), grd_pos (by unfold foldJ; simp only [List.length_cons, List.length_nil]; omega), grd_pos (by omega)]
    refine .inl ⟨(_, _), rfl, ?_⟩
    unfold foldJ
    rw [take_snoc hxj, List.foldl_append]; rfl) (by
    rintro f t rfl
    simp only [m_tree_Join_l1]
    rw [decide_eq_false (by omega), cond_false, List.take_length]
    exact ⟨_, rfl, rfl⟩) (by rw [FUv]; omega) ([], []) rfl
  obtain ⟨f1, f2⟩ := foldJ_len xs ([], []) hx
  simp only [List.length_nil, Nat.zero_add] at f1 f2
  rw [h1, h2, Option.bind_some]
  dsimp only
  rw [with_eqB n _ hN (by unfold foldJ; omega), Option.bind_some, grd_pos (by unfold foldJ; simp only [List.length_cons, List.length_nil]; omega)]
theorem rjoinK (s : List ApiNode) (l : List Int) (hl : l.length ≤ 63) (hs : s.length ≤ 100000000) (hb : ∀ x ∈ l, 0 ≤ x ∧ x ≤ 100000000) : m_syntagmaref05_Join_l3 s l FU (0, []) = some (l.map (· + (s.length : Int))) := by
  refine (loop_map (φ := fun n i t => m_syntagmaref05_Join_l3 s l n (i, t)) (l := l) (fun k => k + (s.length : Int)) id 0 ?_ ?_ (by rw [FUv]; omega) [] rfl).trans rfl
  · intro n i x t hx hi ht
    have hx2 := hb x (List.mem_of_getElem? hx)
    simp only [m_syntagmaref05_Join_l3]
    rw [decide_eq_true (show (i : Int) < l.length by omega), cond_true, getI hx, Option.bind_some, grd_pos (by omega), grd_pos (by simp only [List.length_cons, List.length_nil]; omega), grd_pos (by omega)]
  · intro n t ht
    simp only [m_syntagmaref05_Join_l3]
    rw [decide_eq_false (by omega), cond_false]; rfl
theorem rjoinL (xs : List ApiExpr) (j : Nat) (s : List ApiNode) (x : ApiExpr) (hxj : xs[j]? = some x) (hs : s.length + x.l.length ≤ 100000000) (hx : ∀ n ∈ x.l, NodeOk n) : m_syntagmaref05_Join_l2 xs (j : Int) s FU (0, s) = some (s ++ x.l.map (sh s.length)) := by
  obtain ⟨r, h1, h2⟩ := loop_rng (φ := fun n i t => m_syntagmaref05_Join_l2 xs (j : Int) s n (i, t)) (l := x.l) (fun i t => t = s ++ (x.l.take i).map (sh s.length)) (fun r => r = s ++ x.l.map (sh s.length)) (by
    rintro f i n t hn hi rfl
    have hk := hx n (List.mem_of_getElem? hn)
    have hzl : ((x.l.take i).map (sh s.length)).length = i := by simp; omega
    simp only [m_syntagmaref05_Join_l2]
    rw [getI hxj, Option.bind_some, decide_eq_true (show (i : Int) < x.l.length by omega), cond_true, Option.bind_some, getI hn, Option.bind_some]
    rw [rkids_eq n hk.nb, Option.bind_some, rjoinK s (kidsP n) (kids_len n hk.nb) (by omega) hk.kb, Option.bind_some, Option.bind_some, getI hn, Option.bind_some]
    rw [rwith_eq n _ hk.nb hk.np (by simp), Option.bind_some, grd_pos (by rw [List.length_append, hzl]; simp only [List.length_cons, List.length_nil]; omega), grd_pos (by omega)]
    refine .inl ⟨_, rfl, ?_⟩
    rw [take_snoc hn, List.map_append, List.append_assoc]
    rfl) (by
    rintro n t rfl
    simp only [m_syntagmaref05_Join_l2]
    rw [getI hxj, Option.bind_some, decide_eq_false (by omega), cond_false, List.take_length]
    exact ⟨_, rfl, rfl⟩) (by rw [FUv]; omega) s (by simp)
  rw [h1, h2]
theorem rjoinG (n : ApiNode) (xs : List ApiExpr) (hN : NB n) (hk : xs.length = (kidsP n).length) (hx : ∀ x ∈ xs, TOk x) : m_syntagmaref05_Join n xs = some ⟨(foldJ xs).2 ++ [withP n (foldJ xs).1]⟩ := by
  have hkl := kids_len n hN
  unfold m_syntagmaref05_Join
  obtain ⟨r, h1, h2⟩ := loop_rng (φ := fun f j (t : List Int × List ApiNode) => m_syntagmaref05_Join_l1 xs f (j, t.1, t.2)) (l := xs) (fun j t => t = foldJ (xs.take j)) (fun r => r = foldJ xs) (by
    rintro f j x t hxj hj rfl
    obtain ⟨f1, f2⟩ := foldJ_len (xs.take j) ([], []) (fun y hy => hx y (List.mem_of_mem_take hy))
    have hxo := hx x (List.mem_of_getElem? hxj)
    have hj2 : (xs.take j).length = j := by simp; omega
    rw [hj2] at f1 f2
    simp only [List.length_nil, Nat.zero_add] at f1 f2
    have hxo1 := hxo.1
    have hjl := rjoinL xs j (foldJ (xs.take j)).2 x hxj (by unfold foldJ; omega) hxo.2
    simp only [m_syntagmaref05_Join_l1]
    rw [decide_eq_true (show (j : Int) < xs.length by omega), cond_true, hjl, Option.bind_some]
    rw [grd_pos (by unfold foldJ; simp only [List.length_append, List.length_map]; omega), grd_pos (by unfold foldJ; simp only [List.length_cons, List.length_nil]; omega), grd_pos (by omega)]
    refine .inl ⟨(_, _), rfl, ?_⟩
    unfold foldJ
    rw [take_snoc hxj, List.foldl_append]; rfl) (by
    rintro f t rfl
    simp only [m_syntagmaref05_Join_l1]
    rw [decide_eq_false (by omega), cond_false, List.take_length]
    exact ⟨_, rfl, rfl⟩) (by rw [FUv]; omega) ([], []) rfl
  obtain ⟨f1, f2⟩ := foldJ_len xs ([], []) hx
  simp only [List.length_nil, Nat.zero_add] at f1 f2
  rw [h1, h2, Option.bind_some]
  dsimp only
  rw [rwith_eqB n _ hN (by unfold foldJ; omega), Option.bind_some, grd_pos (by unfold foldJ; simp only [List.length_cons, List.length_nil]; omega)]
end Go.Proofs.Ytnnjgbcojdnhhaa
set_option linter.unusedVariables false
set_option linter.unusedSimpArgs false
set_option maxRecDepth 100000
namespace Go.Proofs.Ytnnjgbcojdnhhaa
open Go.V
open Classical
theorem sum_z {α : Type} : ∀ l : List α, (l.map fun _ => (0 : Nat)).sum = 0
  | [] => rfl
  | a :: l => by rw [List.map_cons, List.sum_cons, sum_z l]
theorem loop_first {α β : Type} {l : List α} {p : α → Bool} {ret : Int → β} {φ : Nat → Int → Option (Out β Unit)} (hl : l.length < FU)
    (step : ∀ n (i : Nat) x, l[i]? = some x → i < l.length → φ (n + 1) (i : Int) = if p x = true then some (Out.ret (ret i)) else φ n ((i : Int) + 1)) (stop : ∀ n, φ (n + 1) (l.length : Int) = some (.go ())) :
    φ FU 0 = some (match l.findIdx? p with | some k => .ret (ret k) | none => .go ()) := by
  obtain ⟨o, h1, h2⟩ := loop_rng (φ := fun n i (_ : Unit) => φ n i) (l := l) (fun i _ => ∀ (j : Nat) x, j < i → l[j]? = some x → p x = false) (fun o => o = (match l.findIdx? p with | some k => .ret (ret k) | none => .go ())) (by
    intro n i x _ hx hi hI
    have hs := step n i x hx hi
    cases hp : p x with
    | true =>
      rw [hp, if_pos rfl] at hs
      refine .inr ⟨_, hs, ?_⟩
      have : l.findIdx? p = some i := by
        rw [List.findIdx?_eq_some_iff_getElem]
        obtain ⟨hi2, hx2⟩ := List.getElem?_eq_some_iff.1 hx
        refine ⟨hi, by rw [hx2]; exact hp, fun j hj => ?_⟩
        rw [hI j l[j] hj (List.getElem?_eq_getElem _)]; decide
      rw [this]
    | false =>
      rw [hp, if_neg (by decide)] at hs
      refine .inl ⟨(), hs, fun j y hj hy => ?_⟩
      by_cases hji : j = i
      · subst hji
        rw [hx] at hy
        rw [← Option.some.inj hy]; exact hp
      · exact hI j y (by omega) hy) (by
    intro n _ hI
    refine ⟨_, stop n, ?_⟩
    have : l.findIdx? p = none := by
      rw [List.findIdx?_eq_none_iff]
      intro x hx
      obtain ⟨j, hj, rfl⟩ := List.getElem_of_mem hx
      exact hI j _ hj (List.getElem?_eq_getElem _)
    rw [this]) hl () (fun j x hj => by omega)
  rw [h1, h2]
structure Sc (L : List ApiNode) : Prop where
  len : L.length ≤ 700
  pos : 1 ≤ L.length
  nb : ∀ n ∈ L, NB n
  ok : allOk L
  one : one1 L
  all : ∀ j : Nat, j < L.length - 1 → ∃ (i : Nat) (n : ApiNode), L[i]? = some n ∧ (j : Int) ∈ kidsP n
theorem sc_of {e : ApiExpr} (hl : e.l.length ≤ 700) (hN : ∀ n ∈ e.l, NB n) (h : mayT e.l = 0) : Sc e.l := by
  obtain ⟨ht, h1⟩ := mayT_tree hl hN h
  have hI := ok_inLs ht.ok
  refine ⟨hl, h1, hN, ht.ok, ht.one, fun j hj => ?_⟩
  have ho : ¬ odd1 e.l := by
    intro ho
    unfold mayT at h
    obtain ⟨_, h2, h3⟩ := mayT_ok (show mayT e.l = 0 from by unfold mayT; exact h)
    rw [if_neg (by omega), if_neg (fun q => q h3), if_pos ho] at h
    omega
  have e1 := cntU_gd e.l hI (j : Int) (by omega) e.l.length (Nat.le_refl _)
  have e2 : gd (cntU e.l e.l.length) (j : Int) = 1 := by
    refine Classical.byContradiction fun hne => ho ⟨_, ?_, hne⟩
    have hlen := cntU_len e.l e.l.length
    unfold gd
    rw [Int.toNat_natCast, List.getElem?_eq_getElem (by omega), Option.getD_some]
    refine List.mem_iff_getElem.2 ⟨j, by simp; omega, by simp⟩
  rw [e2] at e1
  refine Classical.byContradiction fun hno => ?_
  have e3 : ((List.range e.l.length).map fun (p : Nat) => (kidsAt e.l (p : Int)).count (j : Int)).sum = 0 := by
    rw [sum_congr (g := fun _ => 0) (fun p hp => ?_)]
    · exact sum_z _
    · obtain ⟨n, hn⟩ := getI2 (l := e.l) (i := p) (List.mem_range.1 hp)
      rw [kidsAt_s hn, List.count_eq_zero]
      exact fun hm => hno ⟨p, n, hn, hm⟩
  rw [e3] at e1
  omega
end Go.Proofs.Ytnnjgbcojdnhhaa
set_option linter.unusedVariables false
set_option linter.unusedSimpArgs false
set_option maxRecDepth 100000
namespace Go.Proofs.Ytnnjgbcojdnhhaa
open Go.V
open Classical
theorem kids5 {n : ApiNode} (h : n.kind = 5) : kidsP n = [n.a] := by
  unfold kidsP abcN partsB; rw [h]; rfl
theorem kids8 {n : ApiNode} (h : n.kind = 8) : kidsP n = [n.a, n.b] := by
  unfold kidsP abcN partsB; rw [h]; rfl
theorem kids4 {n : ApiNode} (h : n.kind = 4) (hp : noParts n) : kidsP n = [] := by
  unfold kidsP abcN partsB; rw [h]; rfl
end Go.Proofs.Ytnnjgbcojdnhhaa
set_option linter.unusedVariables false
set_option linter.unusedSimpArgs false
set_option maxRecDepth 100000
namespace Go.Proofs.Ytnnjgbcojdnhhaa
open Go.V
open Classical
theorem few2 (e : ApiExpr) : m_syntagmalaw05_Few (⟨(fewE e).l⟩ : ApiExpr) = some (fewE e) := by
  rw [show (⟨(fewE e).l⟩ : ApiExpr) = fewE e from rfl, few_eq, fewE_fewE]
end Go.Proofs.Ytnnjgbcojdnhhaa
set_option linter.unusedVariables false
set_option linter.unusedSimpArgs false
set_option maxRecDepth 100000
namespace Go.Proofs.Ytnnjgbcojdnhhaa
open Go.V
open Classical
def hidesP (n : ApiNode) (q : Nat) (x : List UInt8) : Prop := ((n.kind = 5 ∨ n.kind = 8) ∧ n.name = x) ∨ (n.kind = 7 ∧ n.name = x ∧ q = 1) ∨ (n.kind = 14 ∧ ∃ f, 0 < q ∧ n.l[q - 1]? = some f ∧ f.var = x)
inductive Occ (L : List ApiNode) (x : List UInt8) : Int → Prop
  | var {i : Int} {n : ApiNode} : L[i.toNat]? = some n → n.kind = 4 → n.name = x → Occ L x i
  | kid {i : Int} {n : ApiNode} {q : Nat} {k : Int} : L[i.toNat]? = some n → (kidsP n)[q]? = some k → ¬ hidesP n q x → Occ L x k → Occ L x i
theorem occ_inv {L : List ApiNode} {x : List UInt8} {i : Int} {n : ApiNode} (hn : L[i.toNat]? = some n) : Occ L x i ↔ (n.kind = 4 ∧ n.name = x) ∨ ∃ (q : Nat) (k : Int), (kidsP n)[q]? = some k ∧ ¬ hidesP n q x ∧ Occ L x k := by
  constructor
  · rintro (⟨h1, h2, h3⟩ | ⟨h1, h2, h3, h4⟩)
    · rw [hn] at h1; obtain rfl := Option.some.inj h1; exact .inl ⟨h2, h3⟩
    · rw [hn] at h1; obtain rfl := Option.some.inj h1; exact .inr ⟨_, _, h2, h3, h4⟩
  · rintro (⟨h2, h3⟩ | ⟨q, k, h2, h3, h4⟩)
    · exact .var hn h2 h3
    · exact .kid hn h2 h3 h4
theorem hides_with (n : ApiNode) (ks : List Int) (hp : noParts n) (hk : ks.length = (kidsP n).length) (q : Nat) (x : List UInt8) : hidesP (withP n ks) q x ↔ hidesP n q x := by
  unfold hidesP
  have e1 : (withP n ks).kind = n.kind := rfl
  have e2 : (withP n ks).name = n.name := rfl
  rw [e1, e2]
  by_cases k14 : n.kind = 14
  · have hpb : partsB n.kind = true := by rw [k14]; rfl
    have hl : (withP n ks).l = List.zipWith relF n.l (ks.drop (abcN n.kind)) := by unfold withP; simp only; rw [if_pos hpb]
    have hkl := kidsP_len n hp
    have : ∀ (m : Nat), (∃ f, (withP n ks).l[m]? = some f ∧ f.var = x) ↔ ∃ f, n.l[m]? = some f ∧ f.var = x := by
      intro m
      rw [hl, List.getElem?_zipWith]
      constructor
      · rintro ⟨f, h1, h2⟩
        cases hm : n.l[m]? with
        | none => rw [hm] at h1; simp at h1
        | some g =>
          cases hd : (ks.drop (abcN n.kind))[m]? with
          | none => rw [hm, hd] at h1; simp at h1
          | some y =>
            rw [hm, hd] at h1
            simp only [Option.some.injEq] at h1
            subst h1
            exact ⟨g, rfl, h2⟩
      · rintro ⟨g, h1, h2⟩
        have hm := getLt h1
        obtain ⟨y, hy⟩ := getI2 (l := ks.drop (abcN n.kind)) (i := m) (by simp; omega)
        exact ⟨relF g y, by rw [h1, hy], h2⟩
    constructor
    · rintro (h | h | ⟨h1, f, h2, h3⟩)
      · exact .inl h
      · exact .inr (.inl h)
      · obtain ⟨g, g1⟩ := (this (q - 1)).1 ⟨f, h3⟩
        exact .inr (.inr ⟨h1, g, h2, g1⟩)
    · rintro (h | h | ⟨h1, f, h2, h3⟩)
      · exact .inl h
      · exact .inr (.inl h)
      · obtain ⟨g, g1⟩ := (this (q - 1)).2 ⟨f, h3⟩
        exact .inr (.inr ⟨h1, g, h2, g1⟩)
  · constructor
    · rintro (h | h | ⟨h1, _⟩)
      · exact .inl h
      · exact .inr (.inl h)
      · exact absurd h1 k14
    · rintro (h | h | ⟨h1, _⟩)
      · exact .inl h
      · exact .inr (.inl h)
      · exact absurd h1 k14
/-- Trees that are built alike. -/
def Sim (L O : List ApiNode) (S : Int → Int → Prop) : Prop := ∀ i j, S i j → ∃ (n : ApiNode) (ks : List Int), L[i.toNat]? = some n ∧ noParts n ∧ O[j.toNat]? = some (withP n ks) ∧ ks.length = (kidsP n).length ∧ ∀ (q : Nat) k m, (kidsP n)[q]? = some k → ks[q]? = some m → S k m
theorem occ_sim {L O : List ApiNode} {S : Int → Int → Prop} (hS : Sim L O S) (x : List UInt8) : (∀ i, Occ L x i → ∀ j, S i j → Occ O x j) ∧ (∀ j, Occ O x j → ∀ i, S i j → Occ L x i) := by
  constructor
  · intro i h
    induction h with
    | var h1 h2 h3 =>
      intro j hs
      obtain ⟨n, ks, a1, a2, a3, a4, a5⟩ := hS _ _ hs
      rw [a1] at h1
      obtain rfl := Option.some.inj h1
      exact .var a3 h2 h3
    | kid h1 h2 h3 h4 ih =>
      intro j hs
      obtain ⟨n, ks, a1, a2, a3, a4, a5⟩ := hS _ _ hs
      rw [a1] at h1
      obtain rfl := Option.some.inj h1
      obtain ⟨m, hm⟩ := getI2 (l := ks) (by rw [a4]; exact getLt h2)
      refine .kid a3 (by rw [withP_kids n ks a2 a4]; exact hm) (fun hh => h3 ((hides_with n ks a2 a4 _ x).1 hh)) (ih m (a5 _ _ _ h2 hm))
  · intro j h
    induction h with
    | var h1 h2 h3 =>
      intro i hs
      obtain ⟨n, ks, a1, a2, a3, a4, a5⟩ := hS _ _ hs
      rw [a3] at h1
      obtain rfl := Option.some.inj h1
      exact .var a1 h2 h3
    | kid h1 h2 h3 h4 ih =>
      intro i hs
      obtain ⟨n, ks, a1, a2, a3, a4, a5⟩ := hS _ _ hs
      rw [a3] at h1
      obtain rfl := Option.some.inj h1
      rw [withP_kids n ks a2 a4] at h2
      obtain ⟨k, hk⟩ := getI2 (l := kidsP n) (by rw [← a4]; exact getLt h2)
      exact .kid a1 hk (fun hh => h3 ((hides_with n ks a2 a4 _ x).2 hh)) (ih k (a5 _ _ _ hk h2))
end Go.Proofs.Ytnnjgbcojdnhhaa
