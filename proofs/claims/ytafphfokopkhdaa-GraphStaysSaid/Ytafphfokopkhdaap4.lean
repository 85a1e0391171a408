/- Part 4 of the proof: a program logic, what the functions compute, and what these answer; no condition. -/
import Derived.Test.Ytafphfokopkhdaap3
import Derived.Shelf.Sort.Plain
import Derived.Ground.Names2Prog
import Derived.Shelf.Slices.CompactI
import Derived.Shelf.Slices.In.SortNone
import Derived.Test.YtafphfokopkhdaaProg
set_option linter.unusedVariables false
set_option linter.unusedSimpArgs false
set_option maxRecDepth 100000
set_option maxHeartbeats 2000000
namespace Go.Proofs.Ytafphfokopkhdaa
open Go.V
theorem w_syntagmalaw13_GraphStays {a1 : ApiType} {b1 : ApiType} {r_1 : Bool} (hm : m_syntagmalaw13_GraphStays a1 b1 = some r_1) : Fn0 Try.prog 9 [ApiType.d a1, ApiType.d b1] (.bool r_1) := by
  unfold m_syntagmalaw13_GraphStays at hm
  refine fn_intro Try.func9 rfl Try.ntmps9 rfl fun H0 fr w0 => ?_
  refine g_seq ?_
  refine g_region ?_
  refine go_op rfl rfl rfl (o_box_own rfl rfl rfl) ?_
  rintro _ _ ⟨b1, rfl, rfl⟩
  refine go_op rfl rfl rfl (o_box_own rfl rfl rfl) ?_
  rintro _ _ ⟨b2, rfl, rfl⟩
  refine go_p rfl rfl rfl (o_assign rfl) ?_
  refine go_nil ?_
  refine g_seq ?_
  refine g_seq ?_
  refine g_region ?_
  obtain ⟨x1, hx1, hm⟩ := bind_some hm
  refine go_p rfl rfl rfl (o_call0 Try.call36 rfl (w_syntagmalaw13_works hx1)) ?_
  refine go_p rfl rfl rfl (o_not rfl) ?_
  refine go_nil ?_
  refine g_cond rfl (fun hc1 => ?_) (fun hc1 => ?_)
  · replace hm := cond_t hc1 hm
    refine g_seq ?_
    refine g_region ?_
    refine go_p rfl rfl rfl (o_assign rfl) ?_
    refine go_nil ?_
    refine g_ret ?_
    exact retK (ret_one' rfl (ret_tmp rfl) (perm_drop _)) (congrArg (fun (p : Bool) => (.bool p : D)) (some_eq hm))
  · replace hm := cond_f hc1 hm
    refine g_skip ?_
    refine g_seq ?_
    obtain ⟨x2, hx2, hm⟩ := bind_some hm
    obtain ⟨x3, hx3, hm⟩ := bind_some hm
    refine g_draw 4 Try_mixed (by decide +kernel) ?_
    refine gd_p rfl rfl rfl (o_load_box_agg 1 Try.isAgg53 Try.sizeOf53 rfl rfl rfl rfl (Nat.le_of_ble_eq_true rfl)) ?_
    refine gd_p rfl rfl rfl (o_call0 Try.call28 rfl (w_syntagmalaw13_Few hx2)) ?_
    refine gd_p rfl rfl rfl (o_load_box_agg 0 Try.isAgg53 Try.sizeOf53 rfl rfl rfl rfl (Nat.le_of_ble_eq_true rfl)) ?_
    refine gd_p rfl rfl rfl (o_call0 Try.call28 rfl (w_syntagmalaw13_Few hx3)) ?_
    refine gd_nil ?_
    refine go_u rfl rfl (o_store_box 1 Try.sizeOf53 rfl rfl rfl rfl rfl rfl rfl rfl (Nat.le_of_ble_eq_true rfl)) ?_
    rintro _ _ rfl
    refine go_ms (ms' := [box b2 53 [_, _], box b1 53 [_, _]]) rfl ?_
    refine go_u rfl rfl (o_store_box 0 Try.sizeOf53 rfl rfl rfl rfl rfl rfl rfl rfl (Nat.le_of_ble_eq_true rfl)) ?_
    rintro _ _ rfl
    refine go_ms (ms' := [box b2 53 [_, _], box b1 53 [_, _]]) rfl ?_
    refine go_nil ?_
    refine g_seq ?_
    refine g_region ?_
    refine go_p rfl rfl rfl (o_load_box_agg 1 Try.isAgg53 Try.sizeOf53 rfl rfl rfl rfl (Nat.le_of_ble_eq_true rfl)) ?_
    obtain ⟨⟨x4, x5⟩, hx4, hm⟩ := bind_some hm
    refine go_p rfl rfl rfl (o_call0 Try.call41 rfl (w_graph_Norm hx4)) ?_
    refine go_p rfl rfl rfl (o_move rfl) ?_
    refine go_p rfl rfl rfl (o_extract rfl rfl) ?_
    refine go_p rfl rfl rfl (o_extract rfl rfl) ?_
    refine go_op rfl rfl rfl (o_alloc_own Try.zeroValue53 (cs := [.list 4 ApiTNode.d [], .i64 0]) rfl) ?_
    rintro _ _ ⟨b3, rfl, rfl⟩
    refine go_u rfl rfl (o_store_box 0 Try.sizeOf53 rfl rfl rfl rfl rfl rfl rfl rfl (Nat.le_of_ble_eq_true rfl)) ?_
    rintro _ _ rfl
    refine go_ms (ms' := [box b3 53 [_, _], box b2 53 [_, _], box b1 53 [_, _]]) rfl ?_
    refine go_p rfl rfl rfl (o_assign rfl) ?_
    refine go_nil ?_
    refine g_seq ?_
    refine g_region ?_
    refine go_p rfl rfl rfl (o_load_box_agg 1 Try.isAgg53 Try.sizeOf53 rfl rfl rfl rfl (Nat.le_of_ble_eq_true rfl)) ?_
    obtain ⟨⟨x6, x7⟩, hx5, hm⟩ := bind_some hm
    refine go_p rfl rfl rfl (o_call0 Try.call41 rfl (w_graph_Norm hx5)) ?_
    refine go_p rfl rfl rfl (o_move rfl) ?_
    refine go_p rfl rfl rfl (o_extract rfl rfl) ?_
    refine go_p rfl rfl rfl (o_extract rfl rfl) ?_
    refine go_op rfl rfl rfl (o_alloc_own Try.zeroValue53 (cs := [.list 4 ApiTNode.d [], .i64 0]) rfl) ?_
    rintro _ _ ⟨b4, rfl, rfl⟩
    refine go_u rfl rfl (o_store_box 0 Try.sizeOf53 rfl rfl rfl rfl rfl rfl rfl rfl (Nat.le_of_ble_eq_true rfl)) ?_
    rintro _ _ rfl
    refine go_ms (ms' := [box b4 53 [_, _], box b3 53 [_, _], box b2 53 [_, _], box b1 53 [_, _]]) rfl ?_
    refine go_p rfl rfl rfl (o_assign rfl) ?_
    refine go_nil ?_
    refine g_seq ?_
    refine g_seq ?_
    refine g_region ?_
    refine go_p rfl rfl rfl (o_move rfl) ?_
    refine go_p rfl rfl rfl (o_cmp rfl rfl rfl) ?_
    refine go_p rfl rfl rfl (o_move rfl) ?_
    apply go_or [(2, _), (5, _), (6, _), (7, _), (8, _)] 3 38 (t := 35) ⟨rfl, rfl, rfl, rfl, rfl, trivial⟩ rfl
    · intro hg_1 hk1
      refine go_wantp rfl rfl rfl hg_1 rfl rfl (o_move rfl) ?_
      refine go_wantp rfl rfl rfl hg_1 rfl rfl (o_cmp rfl rfl rfl) ?_
      refine go_p rfl rfl rfl (o_pickF rfl hg_1 rfl) ?_
      exact go_meet hk1 (rfl) ⟨rfl, rfl, rfl, rfl, rfl, trivial⟩
    · intro hg_1 hk1
      refine go_skip rfl rfl rfl hg_1 rfl rfl ?_
      refine go_skip rfl rfl rfl hg_1 rfl rfl ?_
      refine go_p rfl rfl rfl (o_pickT rfl hg_1 rfl) ?_
      exact go_meet hk1 (rfl) ⟨rfl, rfl, rfl, rfl, rfl, trivial⟩
    refine go_nil ?_
    refine g_cond rfl (fun hc2 => ?_) (fun hc2 => ?_)
    · replace hm := cond_t hc2 hm
      refine g_seq ?_
      refine g_region ?_
      refine go_p rfl rfl rfl (o_move rfl) ?_
      refine go_p rfl rfl rfl (o_cmp rfl rfl rfl) ?_
      refine go_p rfl rfl rfl (o_move rfl) ?_
      apply go_and [(7, _), (8, _)] 5 46 (t := 41) ⟨rfl, rfl, trivial⟩ rfl
      · intro hg_2 hk2
        refine go_wantp rfl rfl rfl hg_2 rfl rfl (o_fieldAddr_box fi_53_0 rfl) ?_
        refine go_wantp rfl rfl rfl hg_2 rfl rfl (o_load_box 1 Try.isAgg51 rfl rfl rfl rfl) ?_
        refine go_wantp rfl rfl rfl hg_2 rfl rfl (o_len Try.runUnderlying51 rfl) ?_
        refine go_wantp rfl rfl rfl hg_2 rfl rfl (o_cmp rfl rfl rfl) ?_
        refine go_p rfl rfl rfl (o_pickT rfl hg_2 rfl) ?_
        exact go_meet hk2 (rfl) ⟨rfl, rfl, trivial⟩
      · intro hg_2 hk2
        refine go_skip rfl rfl rfl hg_2 rfl rfl ?_
        refine go_skip rfl rfl rfl hg_2 rfl rfl ?_
        refine go_skip rfl rfl rfl hg_2 rfl rfl ?_
        refine go_skip rfl rfl rfl hg_2 rfl rfl ?_
        refine go_p rfl rfl rfl (o_pickF rfl hg_2 rfl) ?_
        exact go_meet hk2 (rfl) ⟨rfl, rfl, trivial⟩
      refine go_p rfl rfl rfl (o_move rfl) ?_
      apply go_or [] 9 56 (t := 47) trivial rfl
      · intro hg_3 hk3
        refine go_wantp rfl rfl rfl hg_3 rfl rfl (o_move rfl) ?_
        refine go_wantp rfl rfl rfl hg_3 rfl rfl (o_cmp rfl rfl rfl) ?_
        refine go_wantp rfl rfl rfl hg_3 rfl rfl (o_move rfl) ?_
        apply go_and [(47, _)] 5 55 (t := 50) ⟨rfl, trivial⟩ rfl
        · intro hg_4 hk4
          refine go_wantp rfl rfl rfl hg_4 rfl rfl (o_fieldAddr_box fi_53_0 rfl) ?_
          refine go_wantp rfl rfl rfl hg_4 rfl rfl (o_load_box 0 Try.isAgg51 rfl rfl rfl rfl) ?_
          refine go_wantp rfl rfl rfl hg_4 rfl rfl (o_len Try.runUnderlying51 rfl) ?_
          refine go_wantp rfl rfl rfl hg_4 rfl rfl (o_cmp rfl rfl rfl) ?_
          refine go_wantp rfl rfl rfl hg_3 rfl rfl (o_pickT rfl hg_4 rfl) ?_
          exact go_meet hk4 (rfl) ⟨rfl, trivial⟩
        · intro hg_4 hk4
          refine go_skip rfl rfl rfl hg_4 rfl rfl ?_
          refine go_skip rfl rfl rfl hg_4 rfl rfl ?_
          refine go_skip rfl rfl rfl hg_4 rfl rfl ?_
          refine go_skip rfl rfl rfl hg_4 rfl rfl ?_
          refine go_wantp rfl rfl rfl hg_3 rfl rfl (o_pickF rfl hg_4 rfl) ?_
          exact go_meet hk4 (rfl) ⟨rfl, trivial⟩
        refine go_p rfl rfl rfl (o_pickF rfl hg_3 rfl) ?_
        exact go_meet hk3 (rfl) trivial
      · intro hg_3 hk3
        refine go_skip rfl rfl rfl hg_3 rfl rfl ?_
        refine go_skip rfl rfl rfl hg_3 rfl rfl ?_
        refine go_skip rfl rfl rfl hg_3 rfl rfl ?_
        refine go_skipu rfl rfl rfl rfl rfl ?_
        refine go_skipu rfl rfl rfl rfl rfl ?_
        refine go_skipu rfl rfl rfl rfl rfl ?_
        refine go_skipu rfl rfl rfl rfl rfl ?_
        refine go_skip rfl rfl rfl hg_3 rfl rfl ?_
        refine go_p rfl rfl rfl (o_pickT rfl hg_3 rfl) ?_
        exact go_meet hk3 (rfl) trivial
      refine go_p rfl rfl rfl (o_assign rfl) ?_
      refine go_nil ?_
      refine g_ret ?_
      exact retK (ret_one' rfl (ret_tmp rfl) (perm_drop _)) (congrArg (fun (p : Bool) => (.bool p : D)) (some_eq hm))
    · replace hm := cond_f hc2 hm
      refine g_skip ?_
      refine g_seq ?_
      refine g_region ?_
      refine go_p rfl rfl rfl (o_load_box_agg 1 Try.isAgg53 Try.sizeOf53 rfl rfl rfl rfl (Nat.le_of_ble_eq_true rfl)) ?_
      obtain ⟨⟨x8, x9⟩, hx6, hm⟩ := bind_some hm
      refine go_p rfl rfl rfl (o_call0 Try.call41 rfl (w_graph_Norm hx6)) ?_
      refine go_p rfl rfl rfl (o_move rfl) ?_
      refine go_p rfl rfl rfl (o_extract rfl rfl) ?_
      refine go_p rfl rfl rfl (o_extract rfl rfl) ?_
      refine go_op rfl rfl rfl (o_alloc_own Try.zeroValue53 (cs := [.list 4 ApiTNode.d [], .i64 0]) rfl) ?_
      rintro _ _ ⟨b5, rfl, rfl⟩
      refine go_u rfl rfl (o_store_box 0 Try.sizeOf53 rfl rfl rfl rfl rfl rfl rfl rfl (Nat.le_of_ble_eq_true rfl)) ?_
      rintro _ _ rfl
      refine go_ms (ms' := [box b5 53 [_, _], box b4 53 [_, _], box b3 53 [_, _], box b2 53 [_, _], box b1 53 [_, _]]) rfl ?_
      refine go_p rfl rfl rfl (o_assign rfl) ?_
      refine go_nil ?_
      refine g_seq ?_
      refine g_region ?_
      refine go_p rfl rfl rfl (o_load_box_agg 2 Try.isAgg53 Try.sizeOf53 rfl rfl rfl rfl (Nat.le_of_ble_eq_true rfl)) ?_
      refine go_p rfl rfl rfl (o_load_box_agg 1 Try.isAgg53 Try.sizeOf53 rfl rfl rfl rfl (Nat.le_of_ble_eq_true rfl)) ?_
      obtain ⟨⟨x10, x11⟩, hx7, hm⟩ := bind_some hm
      refine go_p rfl rfl rfl (o_call0 Try.call38 rfl (w_graph_Graft hx7)) ?_
      refine go_p rfl rfl rfl (o_move rfl) ?_
      refine go_p rfl rfl rfl (o_extract rfl rfl) ?_
      refine go_p rfl rfl rfl (o_extract rfl rfl) ?_
      refine go_op rfl rfl rfl (o_alloc_own Try.zeroValue53 (cs := [.list 4 ApiTNode.d [], .i64 0]) rfl) ?_
      rintro _ _ ⟨b6, rfl, rfl⟩
      refine go_u rfl rfl (o_store_box 0 Try.sizeOf53 rfl rfl rfl rfl rfl rfl rfl rfl (Nat.le_of_ble_eq_true rfl)) ?_
      rintro _ _ rfl
      refine go_ms (ms' := [box b6 53 [_, _], box b5 53 [_, _], box b4 53 [_, _], box b3 53 [_, _], box b2 53 [_, _], box b1 53 [_, _]]) rfl ?_
      refine go_p rfl rfl rfl (o_assign rfl) ?_
      refine go_nil ?_
      refine g_seq ?_
      refine g_region ?_
      refine go_p rfl rfl rfl (o_load_box_agg 0 Try.isAgg53 Try.sizeOf53 rfl rfl rfl rfl (Nat.le_of_ble_eq_true rfl)) ?_
      refine go_p rfl rfl rfl (o_move rfl) ?_
      obtain ⟨⟨x12, x13⟩, hx8, hm⟩ := bind_some hm
      refine go_p rfl rfl rfl (o_call0 Try.call42 rfl (w_graph_At hx8)) ?_
      refine go_p rfl rfl rfl (o_move rfl) ?_
      refine go_p rfl rfl rfl (o_extract rfl rfl) ?_
      refine go_p rfl rfl rfl (o_extract rfl rfl) ?_
      refine go_op rfl rfl rfl (o_alloc_own Try.zeroValue53 (cs := [.list 4 ApiTNode.d [], .i64 0]) rfl) ?_
      rintro _ _ ⟨b7, rfl, rfl⟩
      refine go_u rfl rfl (o_store_box 0 Try.sizeOf53 rfl rfl rfl rfl rfl rfl rfl rfl (Nat.le_of_ble_eq_true rfl)) ?_
      rintro _ _ rfl
      refine go_ms (ms' := [box b7 53 [_, _], box b6 53 [_, _], box b5 53 [_, _], box b4 53 [_, _], box b3 53 [_, _], box b2 53 [_, _], box b1 53 [_, _]]) rfl ?_
      refine go_p rfl rfl rfl (o_assign rfl) ?_
      refine go_nil ?_
      refine g_seq ?_
      refine g_region ?_
      refine go_p rfl rfl rfl (o_load_box_agg 1 Try.isAgg53 Try.sizeOf53 rfl rfl rfl rfl (Nat.le_of_ble_eq_true rfl)) ?_
      obtain ⟨⟨x14, x15⟩, hx9, hm⟩ := bind_some hm
      refine go_p rfl rfl rfl (o_call0 Try.call41 rfl (w_graph_Norm hx9)) ?_
      refine go_p rfl rfl rfl (o_move rfl) ?_
      refine go_p rfl rfl rfl (o_extract rfl rfl) ?_
      refine go_p rfl rfl rfl (o_extract rfl rfl) ?_
      refine go_op rfl rfl rfl (o_alloc_own Try.zeroValue53 (cs := [.list 4 ApiTNode.d [], .i64 0]) rfl) ?_
      rintro _ _ ⟨b8, rfl, rfl⟩
      refine go_u rfl rfl (o_store_box 0 Try.sizeOf53 rfl rfl rfl rfl rfl rfl rfl rfl (Nat.le_of_ble_eq_true rfl)) ?_
      rintro _ _ rfl
      refine go_ms (ms' := [box b8 53 [_, _], box b7 53 [_, _], box b6 53 [_, _], box b5 53 [_, _], box b4 53 [_, _], box b3 53 [_, _], box b2 53 [_, _], box b1 53 [_, _]]) rfl ?_
      refine go_p rfl rfl rfl (o_assign rfl) ?_
      refine go_nil ?_
      refine g_seq ?_
      refine g_region ?_
      refine go_p rfl rfl rfl (o_move rfl) ?_
      refine go_p rfl rfl rfl (o_cmp rfl rfl rfl) ?_
      refine go_p rfl rfl rfl (o_move rfl) ?_
      apply go_and [(2, _), (5, _), (7, _), (9, _), (13, _), (15, _), (16, _)] 3 84 (t := 81) ⟨rfl, rfl, rfl, rfl, rfl, rfl, rfl, trivial⟩ rfl
      · intro hg_5 hk5
        refine go_wantp rfl rfl rfl hg_5 rfl rfl (o_move rfl) ?_
        refine go_wantp rfl rfl rfl hg_5 rfl rfl (o_cmp rfl rfl rfl) ?_
        refine go_p rfl rfl rfl (o_pickT rfl hg_5 rfl) ?_
        exact go_meet hk5 (rfl) ⟨rfl, rfl, rfl, rfl, rfl, rfl, rfl, trivial⟩
      · intro hg_5 hk5
        refine go_skip rfl rfl rfl hg_5 rfl rfl ?_
        refine go_skip rfl rfl rfl hg_5 rfl rfl ?_
        refine go_p rfl rfl rfl (o_pickF rfl hg_5 rfl) ?_
        exact go_meet hk5 (rfl) ⟨rfl, rfl, rfl, rfl, rfl, rfl, rfl, trivial⟩
      refine go_p rfl rfl rfl (o_move rfl) ?_
      apply go_and [(2, _), (5, _), (7, _), (9, _), (13, _), (15, _)] 3 88 (t := 85) ⟨rfl, rfl, rfl, rfl, rfl, rfl, trivial⟩ rfl
      · intro hg_6 hk6
        refine go_wantp rfl rfl rfl hg_6 rfl rfl (o_move rfl) ?_
        refine go_wantp rfl rfl rfl hg_6 rfl rfl (o_cmp rfl rfl rfl) ?_
        refine go_p rfl rfl rfl (o_pickT rfl hg_6 rfl) ?_
        exact go_meet hk6 (rfl) ⟨rfl, rfl, rfl, rfl, rfl, rfl, trivial⟩
      · intro hg_6 hk6
        refine go_skip rfl rfl rfl hg_6 rfl rfl ?_
        refine go_skip rfl rfl rfl hg_6 rfl rfl ?_
        refine go_p rfl rfl rfl (o_pickF rfl hg_6 rfl) ?_
        exact go_meet hk6 (rfl) ⟨rfl, rfl, rfl, rfl, rfl, rfl, trivial⟩
      refine go_p rfl rfl rfl (o_move rfl) ?_
      obtain ⟨p1, hp_7, hm⟩ := bind_some hm
      refine go_two [(2, _), (5, _), (7, _), (13, _), (15, _)] 4 93 p1 (t := 89) ⟨rfl, rfl, rfl, rfl, rfl, trivial⟩ rfl (fun hg_7 hk7 => ?_) (fun hg_7 hk7 => ?_) ?_
      · replace hp_7 := cond_t hg_7 hp_7
        refine go_wantp rfl rfl rfl hg_7 rfl rfl (o_load_box_agg 3 Try.isAgg53 Try.sizeOf53 rfl rfl rfl rfl (Nat.le_of_ble_eq_true rfl)) ?_
        refine go_wantp rfl rfl rfl hg_7 rfl rfl (o_load_box_agg 5 Try.isAgg53 Try.sizeOf53 rfl rfl rfl rfl (Nat.le_of_ble_eq_true rfl)) ?_
        obtain ⟨x16, hx10, hp_7⟩ := bind_some hp_7
        refine go_wantp rfl rfl rfl hg_7 rfl rfl (o_call0 Try.call40 rfl (w_syntagmaref13_SameList hx10)) ?_
        refine go_p rfl rfl rfl (o_pickT rfl hg_7 rfl) ?_
        exact go_meet hk7 (congrArg (fun b => some (D.bool b)) (some_eq hp_7)) ⟨rfl, rfl, rfl, rfl, rfl, trivial⟩
      · replace hp_7 := cond_f hg_7 hp_7
        refine go_skip rfl rfl rfl hg_7 rfl rfl ?_
        refine go_skip rfl rfl rfl hg_7 rfl rfl ?_
        refine go_skip rfl rfl rfl hg_7 rfl rfl ?_
        refine go_p rfl rfl rfl (o_pickF rfl hg_7 rfl) ?_
        exact go_meet hk7 (congrArg (fun b => some (D.bool b)) (some_eq hp_7)) ⟨rfl, rfl, rfl, rfl, rfl, trivial⟩
      refine go_p rfl rfl rfl (o_move rfl) ?_
      obtain ⟨p2, hp_8, hm⟩ := bind_some hm
      refine go_two [(2, _), (5, _), (15, _)] 4 98 p2 (t := 94) ⟨rfl, rfl, rfl, trivial⟩ rfl (fun hg_8 hk8 => ?_) (fun hg_8 hk8 => ?_) ?_
      · replace hp_8 := cond_t hg_8 hp_8
        refine go_wantp rfl rfl rfl hg_8 rfl rfl (o_load_box_agg 1 Try.isAgg53 Try.sizeOf53 rfl rfl rfl rfl (Nat.le_of_ble_eq_true rfl)) ?_
        refine go_wantp rfl rfl rfl hg_8 rfl rfl (o_load_box_agg 4 Try.isAgg53 Try.sizeOf53 rfl rfl rfl rfl (Nat.le_of_ble_eq_true rfl)) ?_
        obtain ⟨x17, hx11, hp_8⟩ := bind_some hp_8
        refine go_wantp rfl rfl rfl hg_8 rfl rfl (o_call0 Try.call40 rfl (w_syntagmaref13_SameList hx11)) ?_
        refine go_p rfl rfl rfl (o_pickT rfl hg_8 rfl) ?_
        exact go_meet hk8 (congrArg (fun b => some (D.bool b)) (some_eq hp_8)) ⟨rfl, rfl, rfl, trivial⟩
      · replace hp_8 := cond_f hg_8 hp_8
        refine go_skip rfl rfl rfl hg_8 rfl rfl ?_
        refine go_skip rfl rfl rfl hg_8 rfl rfl ?_
        refine go_skip rfl rfl rfl hg_8 rfl rfl ?_
        refine go_p rfl rfl rfl (o_pickF rfl hg_8 rfl) ?_
        exact go_meet hk8 (congrArg (fun b => some (D.bool b)) (some_eq hp_8)) ⟨rfl, rfl, rfl, trivial⟩
      refine go_p rfl rfl rfl (o_move rfl) ?_
      obtain ⟨p3, hp_9, hm⟩ := bind_some hm
      refine go_two [(2, _), (5, _)] 4 103 p3 (t := 99) ⟨rfl, rfl, trivial⟩ rfl (fun hg_9 hk9 => ?_) (fun hg_9 hk9 => ?_) ?_
      · replace hp_9 := cond_t hg_9 hp_9
        refine go_wantp rfl rfl rfl hg_9 rfl rfl (o_load_box_agg 0 Try.isAgg53 Try.sizeOf53 rfl rfl rfl rfl (Nat.le_of_ble_eq_true rfl)) ?_
        refine go_wantp rfl rfl rfl hg_9 rfl rfl (o_load_box_agg 5 Try.isAgg53 Try.sizeOf53 rfl rfl rfl rfl (Nat.le_of_ble_eq_true rfl)) ?_
        obtain ⟨x18, hx12, hp_9⟩ := bind_some hp_9
        refine go_wantp rfl rfl rfl hg_9 rfl rfl (o_call0 Try.call40 rfl (w_syntagmaref13_SameList hx12)) ?_
        refine go_p rfl rfl rfl (o_pickT rfl hg_9 rfl) ?_
        exact go_meet hk9 (congrArg (fun b => some (D.bool b)) (some_eq hp_9)) ⟨rfl, rfl, trivial⟩
      · replace hp_9 := cond_f hg_9 hp_9
        refine go_skip rfl rfl rfl hg_9 rfl rfl ?_
        refine go_skip rfl rfl rfl hg_9 rfl rfl ?_
        refine go_skip rfl rfl rfl hg_9 rfl rfl ?_
        refine go_p rfl rfl rfl (o_pickF rfl hg_9 rfl) ?_
        exact go_meet hk9 (congrArg (fun b => some (D.bool b)) (some_eq hp_9)) ⟨rfl, rfl, trivial⟩
      refine go_p rfl rfl rfl (o_move rfl) ?_
      obtain ⟨p4, hp_10, hm⟩ := bind_some hm
      refine go_two [] 4 108 p4 (t := 104) trivial rfl (fun hg_10 hk10 => ?_) (fun hg_10 hk10 => ?_) ?_
      · replace hp_10 := cond_t hg_10 hp_10
        refine go_wantp rfl rfl rfl hg_10 rfl rfl (o_load_box_agg 7 Try.isAgg53 Try.sizeOf53 rfl rfl rfl rfl (Nat.le_of_ble_eq_true rfl)) ?_
        refine go_wantp rfl rfl rfl hg_10 rfl rfl (o_load_box_agg 5 Try.isAgg53 Try.sizeOf53 rfl rfl rfl rfl (Nat.le_of_ble_eq_true rfl)) ?_
        obtain ⟨x19, hx13, hp_10⟩ := bind_some hp_10
        refine go_wantp rfl rfl rfl hg_10 rfl rfl (o_call0 Try.call43 rfl (w_graph_Same hx13)) ?_
        refine go_p rfl rfl rfl (o_pickT rfl hg_10 rfl) ?_
        exact go_meet hk10 (congrArg (fun b => some (D.bool b)) (some_eq hp_10)) trivial
      · replace hp_10 := cond_f hg_10 hp_10
        refine go_skip rfl rfl rfl hg_10 rfl rfl ?_
        refine go_skip rfl rfl rfl hg_10 rfl rfl ?_
        refine go_skip rfl rfl rfl hg_10 rfl rfl ?_
        refine go_p rfl rfl rfl (o_pickF rfl hg_10 rfl) ?_
        exact go_meet hk10 (congrArg (fun b => some (D.bool b)) (some_eq hp_10)) trivial
      refine go_p rfl rfl rfl (o_assign rfl) ?_
      refine go_nil ?_
      refine g_ret ?_
      exact retK (ret_one' rfl (ret_tmp rfl) (perm_drop _)) (congrArg (fun (p : Bool) => (.bool p : D)) (some_eq hm))
end Go.Proofs.Ytafphfokopkhdaa
set_option linter.unusedVariables false
set_option linter.unusedSimpArgs false
set_option maxRecDepth 100000
namespace Go.Proofs.Ytafphfokopkhdaa
open Go.V
open Classical
theorem FUv : FU = 18446744073709551616 := rfl
theorem bt (b c : Bool) : (bif b then some true else some c : Option Bool) = some (b || c) := by cases b <;> rfl
theorem bf (b c : Bool) : (bif b then some c else some false : Option Bool) = some (b && c) := by cases b <;> rfl
theorem lenNe {α β : Type} (a : List α) (b : List β) : (!decide ((a.length : Int) = (b.length : Int))) = !decide (a.length = b.length) := by
  congr 1; exact decide_eq_decide.2 (by omega)
def smallB (c : UInt8) : Bool := (decide (97 ≤ (c.toNat : Int)) && decide ((c.toNat : Int) ≤ 122)) || decide ((c.toNat : Int) = 95)
def greatB (c : UInt8) : Bool := decide (65 ≤ (c.toNat : Int)) && decide ((c.toNat : Int) ≤ 90)
def moreB (c : UInt8) : Bool := (smallB c || greatB c) || (decide (48 ≤ (c.toNat : Int)) && decide ((c.toNat : Int) ≤ 57))
def wordP : List UInt8 → Nat
  | [] => 0
  | c :: r => if smallB c = true ∨ greatB c = true then 1 + (r.takeWhile moreB).length else 0
theorem word_c (c : UInt8) (r : List UInt8) : wordP (c :: r) = if smallB c = true ∨ greatB c = true then 1 + (r.takeWhile moreB).length else 0 := rfl
theorem word_eq (s : List UInt8) (h : s.length ≤ 1000000000000) : m_name_Word s = some (wordP s : Int) := by
  unfold m_name_Word
  rcases s with _ | ⟨c, r⟩
  · rfl
  · rw [decide_eq_false (by simp), cond_false, idx_c0, Option.bind_some]
    simp only [m_name_small, m_name_great, Option.bind_some, bf]
    rw [show (((decide (97 ≤ (c.toNat : Int))) && (decide ((c.toNat : Int) ≤ 122))) || (decide ((c.toNat : Int) = 95))) = smallB c from rfl, show ((decide (65 ≤ (c.toNat : Int))) && (decide ((c.toNat : Int) ≤ 90))) = greatB c from rfl]
    rw [word_c]
    cases h1 : smallB c || greatB c with
    | false =>
      simp only [Bool.or_eq_false_iff] at h1
      rw [h1.1, h1.2]; simp
    | true =>
      rw [if_pos (by simpa using h1)]
      have : (!smallB c && !greatB c) = false := by cases hs : smallB c <;> cases hg : greatB c <;> simp_all
      rw [this, cond_false]
      simp only [List.length_cons] at h
      refine bnd (loop_while (φ := m_name_Word_l1 (c :: r)) (l := c :: r) moreB (fun i => (i : Int)) ?_ ?_ FU 1 (by simp) (by rw [FUv]; simp; omega)) rfl
      · intro n i x hx hi
        simp only [List.length_cons] at hi
        simp only [m_name_Word_l1]
        rw [decide_eq_true (by simp only [List.length_cons]; omega), cond_true, getI hx, Option.bind_some]
        simp only [m_name_more, m_name_small, m_name_great, Option.bind_some, bt]
        constructor
        · intro hq
          simp only [moreB, smallB, greatB] at hq
          rw [hq, cond_true, grd_pos (by omega)]
        · intro hq
          simp only [moreB, smallB, greatB] at hq
          rw [hq, cond_false]
      · intro n
        simp only [m_name_Word_l1]
        rw [decide_eq_false (by omega), cond_false, Option.bind_some, cond_false]
def keysL : List (List UInt8) := match m_name_Keywords with | some l => l | none => []
theorem keys_eq : m_name_Keywords = some keysL := rfl
theorem isKey_eq (l : List (List UInt8)) (s : List UInt8) (h : l.length ≤ 1000) : m_slices_Contains_string_string l s = some (decide (s ∈ l)) := by
  unfold m_slices_Contains_string_string m_slices_Index_string_string
  have e := loop_find (φ := m_slices_Index_string_string_l1 l s) (l := l) (fun i => (i : Int)) (fun x => decide (s = x)) (by
    intro n i x hx hi
    simp only [m_slices_Index_string_string_l1]
    rw [decide_eq_true (show (i : Int) < l.length by omega), cond_true, getI hx, Option.bind_some]
    constructor
    · intro hq; rw [show decide (s = x) = false from by simpa using hq, cond_false, grd_pos (by omega)]
    · intro hq; rw [show decide (s = x) = true from by simpa using hq, cond_true]) (by
    intro n
    simp only [m_slices_Index_string_string_l1]
    rw [decide_eq_false (by omega), cond_false]) (by rw [FUv]; omega)
  rw [bind_of e]
  cases hf : l.findIdx? (fun x => decide (s = x)) with
  | none =>
    rw [List.findIdx?_eq_none_iff] at hf
    show some (decide _) = _
    congr 1
    rw [decide_eq_false (by omega), decide_eq_false]
    intro hs
    have := hf s hs
    simp at this
  | some k =>
    rw [List.findIdx?_eq_some_iff_getElem] at hf
    obtain ⟨hk, h1, _⟩ := hf
    show some (decide _) = _
    congr 1
    rw [decide_eq_true (by omega), decide_eq_true]
    simp only [decide_eq_true_eq] at h1
    rw [h1]
    exact List.getElem_mem hk
def headP (p : UInt8 → Bool) : List UInt8 → Bool
  | [] => false
  | c :: _ => p c
def wholeP (s : List UInt8) : Bool := decide (s ≠ []) && decide (s.length ≤ 20) && decide (wordP s = s.length)
def nameP (s : List UInt8) : Bool := wholeP s && headP smallB s && !decide (s ∈ keysL)
def tagP (s : List UInt8) : Bool := wholeP s && headP greatB s
theorem whole_eq (s : List UInt8) : m_name_whole s = some (wholeP s) := by
  unfold m_name_whole wholeP
  by_cases h1 : s = []
  · subst h1; rfl
  by_cases h2 : s.length ≤ 20
  · rw [decide_eq_false h1, decide_eq_true (show (s.length : Int) ≤ 20 by omega), word_eq s (by omega)]
    simp only [Bool.not_false, Bool.true_and, cond_true, Option.bind_some, decide_eq_true (show s ≠ [] from h1), decide_eq_true h2]
    congr 1
    exact decide_eq_decide.2 (by omega)
  · rw [decide_eq_false (show ¬ (s.length : Int) ≤ 20 by omega), decide_eq_false h2]; simp
theorem name_eq (s : List UInt8) : m_name_Name s = some (nameP s) := by
  unfold m_name_Name nameP
  rw [whole_eq, Option.bind_some]
  cases hw : wholeP s with
  | false => rfl
  | true =>
    rcases s with _ | ⟨c, r⟩
    · simp [wholeP] at hw
    · rw [cond_true, idx_c0, Option.bind_some]
      simp only [m_name_small, Option.bind_some, m_name_Keyword, keys_eq, Bool.true_and]
      rw [isKey_eq _ _ (by decide), Option.bind_some, Option.bind_some, bf, Option.bind_some]; rfl
theorem tag_eq (s : List UInt8) : m_name_Tag s = some (tagP s) := by
  unfold m_name_Tag tagP
  rw [whole_eq, Option.bind_some]
  cases hw : wholeP s with
  | false => rfl
  | true =>
    rcases s with _ | ⟨c, r⟩
    · simp [wholeP] at hw
    · rw [cond_true, idx_c0, Option.bind_some]; rfl
def fewN (n : ApiTNode) : ApiTNode := ⟨n.kind, n.a, n.b, [] ++ n.l.take 40⟩
def fewC (l : List ApiTNode) : Nat := if 2000 < l.length then 2001 else 60
def fewT (t : ApiType) : ApiType := ⟨(t.l.take (fewC t.l)).map fewN, t.root⟩
theorem min40 (l : List ApiTField) : sli l 0 (if 40 < (l.length : Int) then 40 else (l.length : Int)) = some (l.take 40) := by
  by_cases h : 40 < (l.length : Int)
  · rw [if_pos h]; exact sli_take (k := 40) (by omega)
  · rw [if_neg h, sli_take (by omega), List.take_of_length_le (by omega), List.take_of_length_le (by omega)]
theorem few_eq (t : ApiType) : m_syntagmalaw13_Few t 60 = some (fewT t) := by
  unfold m_syntagmalaw13_Few fewT
  have hC : fewC t.l = 2001 ∧ 2000 < t.l.length ∨ fewC t.l = 60 ∧ ¬ 2000 < t.l.length := by unfold fewC; split <;> simp_all
  have hL : (t.l.take (fewC t.l)).length ≤ 2001 ∧ (t.l.take (fewC t.l)).length ≤ t.l.length ∧ (t.l.take (fewC t.l)).length ≤ fewC t.l := by rw [List.length_take]; omega
  rw [loop_map (φ := fun n i s => m_syntagmalaw13_Few_l1 t 60 n (i, s, t.root)) (l := t.l.take (fewC t.l)) fewN (fun s => (s, t.root)) 0 ?_ ?_ (by rw [FUv]; omega) [] rfl]
  · rfl
  · intro n i x s hx hi hs
    have hx2 : t.l[i]? = some x := by
      rw [List.getElem?_take, if_pos (by omega)] at hx
      exact hx
    have h40 : (x.l.take 40).length ≤ 40 := by rw [List.length_take]; omega
    simp only [m_syntagmalaw13_Few_l1]
    rw [decide_eq_true (show (i : Int) < t.l.length by omega), Bool.true_and, show (decide ((i : Int) < 60) || (decide (2000 < (t.l.length : Int)) && decide ((i : Int) ≤ 2000))) = true by
      rw [Bool.or_eq_true, Bool.and_eq_true, decide_eq_true_eq, decide_eq_true_eq, decide_eq_true_eq]; omega, cond_true, getI hx2, Option.bind_some, min40, Option.bind_some, grd_pos (by omega), grd_pos (by simp only [List.length_cons, List.length_nil]; omega), grd_pos (by omega)]
    rfl
  · intro n s hs
    simp only [m_syntagmalaw13_Few_l1]
    rw [show (decide (((t.l.take (fewC t.l)).length : Int) < t.l.length) && (decide (((t.l.take (fewC t.l)).length : Int) < 60) || (decide (2000 < (t.l.length : Int)) && decide (((t.l.take (fewC t.l)).length : Int) ≤ 2000)))) = false by
      rw [List.length_take, Bool.and_eq_false_iff, Bool.or_eq_false_iff, Bool.and_eq_false_iff, decide_eq_false_iff_not, decide_eq_false_iff_not, decide_eq_false_iff_not, decide_eq_false_iff_not]; omega, cond_false]
theorem fewT_len (t : ApiType) : (fewT t).l.length ≤ 2001 := by unfold fewT fewC; simp only [List.length_map, List.length_take]; split <;> omega
def NB (n : ApiTNode) : Prop := n.l.length ≤ 40
theorem fewN_nb (n : ApiTNode) : NB (fewN n) := by unfold fewN NB; simp; omega
theorem fewT_nb (t : ApiType) : ∀ n ∈ (fewT t).l, NB n := by
  intro n hn
  obtain ⟨m, _, rfl⟩ := List.mem_map.1 hn
  exact fewN_nb m
def pB (k : Int) : Bool := (decide (k = 6) || decide (k = 9)) || decide (k = 10)
def wB (k : Int) : Bool := decide (k = 7) || decide (k = 8)
def kidsL (n : ApiTNode) : List Int := bif pB n.kind then [n.a, n.b] else bif wB n.kind then n.l.map (·.at_) else []
theorem kids_eq (n : ApiTNode) (h : NB n) : m_graph_Kids n = some (kidsL n) := by
  unfold m_graph_Kids kidsL m_graph_pair m_graph_wide
  unfold NB at h
  rw [Option.bind_some, Option.bind_some]
  change (bif pB n.kind then _ else bif wB n.kind then _ else _) = _
  cases pB n.kind
  · cases wB n.kind
    · rfl
    · rw [cond_false, cond_true, cond_false, cond_true, loop_map (φ := fun k i s => m_graph_Kids_l1 n k (i, s)) (l := n.l) (·.at_) id 0 ?_ ?_ (by rw [FUv]; omega) [] rfl]
      · rfl
      · intro k i x s hx hi hs
        simp only [m_graph_Kids_l1]
        rw [decide_eq_true (show (i : Int) < n.l.length by omega), cond_true, getI hx, Option.bind_some, grd_pos (by simp only [List.length_cons, List.length_nil]; omega), grd_pos (by omega)]
      · intro k s hs
        simp only [m_graph_Kids_l1]
        rw [decide_eq_false (by omega), cond_false]; rfl
  · rfl
theorem rkids_eq (n : ApiTNode) (h : NB n) : m_syntagmaref13_Kids n = some (kidsL n) := by
  unfold m_syntagmaref13_Kids kidsL
  unfold NB at h
  change (bif pB n.kind then _ else bif wB n.kind then _ else _) = _
  cases pB n.kind
  · cases wB n.kind
    · rfl
    · rw [cond_false, cond_true, cond_false, cond_true, loop_map (φ := fun k i s => m_syntagmaref13_Kids_l1 n k (i, s)) (l := n.l) (·.at_) id 0 ?_ ?_ (by rw [FUv]; omega) [] rfl]
      · rfl
      · intro k i x s hx hi hs
        simp only [m_syntagmaref13_Kids_l1]
        rw [decide_eq_true (show (i : Int) < n.l.length by omega), cond_true, getI hx, Option.bind_some, grd_pos (by simp only [List.length_cons, List.length_nil]; omega), grd_pos (by omega)]
      · intro k s hs
        simp only [m_syntagmaref13_Kids_l1]
        rw [decide_eq_false (by omega), cond_false]; rfl
  · rfl
theorem kidsL_len (n : ApiTNode) (h : NB n) : (kidsL n).length ≤ 40 := by
  unfold kidsL; unfold NB at h
  cases pB n.kind
  · cases wB n.kind
    · simp
    · simpa using h
  · simp
def badF (n : ApiTNode) (x : ApiTField) : Bool := (decide (n.kind = 7) && !nameP x.name) || (decide (n.kind = 8) && !tagP x.name)
def okF (n : ApiTNode) (i : Nat) (x : ApiTField) : Prop := badF n x = false ∧ (0 < i → ∀ y, n.l[i - 1]? = some y → Op.bytesLess y.name x.name = true)
def namedP (n : ApiTNode) : Prop := ∀ i x, n.l[i]? = some x → okF n i x
theorem named_eq (n : ApiTNode) (h : NB n) : m_graph_named n = some (decide (namedP n) && decide ((n.l.length : Int) ≤ 30)) := by
  unfold m_graph_named
  unfold NB at h
  rw [loop_all (φ := m_graph_named_l1 n) (l := n.l) false (okF n) ?_ ?_ (by rw [FUv]; omega), Option.bind_some]
  · by_cases hp : namedP n
    · rw [if_pos (show ∀ i x, n.l[i]? = some x → okF n i x from hp), decide_eq_true hp]; rfl
    · rw [if_neg (show ¬ ∀ i x, n.l[i]? = some x → okF n i x from hp), decide_eq_false hp]; rfl
  · intro k i x hx hi
    simp only [m_graph_named_l1]
    have e1 : ((bif (decide (n.kind = 7)) then ((m_name_Name x.name).bind fun x3 => some (!x3)) else (some false)).bind fun p1 =>
      (bif p1 then (some true) else ((bif (decide (n.kind = 8)) then ((m_name_Tag x.name).bind fun x4 => some (!x4)) else (some false)).bind fun p3 => some p3))) = some (badF n x) := by
      rw [name_eq, tag_eq, Option.bind_some, Option.bind_some, bf, Option.bind_some, bf, Option.bind_some, bt]; rfl
    rw [decide_eq_true (show (i : Int) < n.l.length by omega), cond_true, getI hx, Option.bind_some, ← Option.bind_assoc, e1, Option.bind_some]
    unfold okF
    cases hb : badF n x
    · rw [cond_false]
      by_cases h0 : 0 < i
      · have hy : n.l[i - 1]? = some n.l[i - 1] := List.getElem?_eq_getElem (by omega)
        rw [decide_eq_true (show (0 : Int) < (i : Int) by omega), cond_true, grd_pos (by omega), show ((i : Int) - 1) = ((i - 1 : Nat) : Int) by omega, getI hy, Option.bind_some]
        constructor
        · rintro ⟨_, h2⟩
          rw [h2 h0 _ hy, Bool.not_true, cond_false, grd_pos (by omega)]
        · intro h2
          cases hl : Op.bytesLess (n.l[i - 1]).name x.name
          · rfl
          · exact absurd ⟨rfl, fun _ y hy2 => by rw [hy] at hy2; cases hy2; exact hl⟩ h2
      · rw [decide_eq_false (show ¬ (0 : Int) < (i : Int) by omega), cond_false]
        exact ⟨fun _ => by rw [grd_pos (by omega)], fun h2 => absurd ⟨rfl, fun h3 => absurd h3 h0⟩ h2⟩
    · rw [cond_true]
      exact ⟨fun h2 => by simp at h2, fun _ => rfl⟩
  · intro k
    simp only [m_graph_named_l1]
    rw [decide_eq_false (by omega), cond_false]
def inB (all k : Int) : Bool := decide (k < 0) || decide (all ≤ k)
theorem outKids_eq (l : List Int) (all : Int) (h : l.length ≤ 1000) : m_slices_ContainsFunc_int_int l (fun y0 => m_graph_right_1 y0 all) = some (decide (∃ k ∈ l, inB all k = true)) := by
  unfold m_slices_ContainsFunc_int_int m_slices_IndexFunc_int_int
  rw [loop_find (φ := m_slices_IndexFunc_int_int_l1 l (fun y0 => m_graph_right_1 y0 all)) (l := l) (fun i => (i : Int)) (inB all) ?_ ?_ (by rw [FUv]; omega)]
  · rw [Option.bind_some]
    cases hf : l.findIdx? (inB all) with
    | none =>
      have : ¬ ∃ k ∈ l, inB all k = true := by
        rintro ⟨c, hc, hne⟩
        have := List.findIdx?_eq_none_iff.1 hf c hc
        rw [hne] at this; cases this
      rw [decide_eq_false this]; rfl
    | some i =>
      obtain ⟨hi, h1, _⟩ := List.findIdx?_eq_some_iff_getElem.1 hf
      have : ∃ k ∈ l, inB all k = true := ⟨l[i], List.getElem_mem hi, h1⟩
      rw [decide_eq_true this]
      show some (decide (0 ≤ (i : Int))) = some true
      rw [decide_eq_true (by omega)]
  · intro n i x hx hi
    simp only [m_slices_IndexFunc_int_int_l1]
    rw [decide_eq_true (show (i : Int) < l.length by omega), cond_true, getI hx, Option.bind_some, show m_graph_right_1 x all = some (inB all x) from rfl, Option.bind_some]
    exact ⟨fun hq => by rw [hq, cond_false, grd_pos (by omega)], fun hq => by rw [hq, cond_true]⟩
  · intro n
    simp only [m_slices_IndexFunc_int_int_l1]
    rw [decide_eq_false (by omega), cond_false]
noncomputable def rightB (n : ApiTNode) (all : Int) : Bool :=
  !(decide (n.kind < 1) || decide (11 < n.kind)) && (!((!pB n.kind) && ((!decide (n.b = 0)) || ((!decide (n.kind = 11)) && (!decide (n.a = 0))))) && (!(decide (n.kind = 11) && (decide (n.a < 0) || decide (999 < n.a))) &&
    (!((!wB n.kind) && decide (0 < (n.l.length : Int))) && ((decide (namedP n) && decide ((n.l.length : Int) ≤ 30)) && !decide (∃ k ∈ kidsL n, inB all k = true)))))
theorem right_eq (n : ApiTNode) (all : Int) (h : NB n) : m_graph_right n all = some (rightB n all) := by
  unfold m_graph_right rightB
  rw [show m_graph_pair n.kind = some (pB n.kind) from rfl, show m_graph_wide n.kind = some (wB n.kind) from rfl, Option.bind_some, Option.bind_some, named_eq n h, kids_eq n h, Option.bind_some, Option.bind_some, outKids_eq _ _ (by have := kidsL_len n h; omega), Option.bind_some]
  cases (decide (n.kind < 1) || decide (11 < n.kind))
  · cases ((!pB n.kind) && ((!decide (n.b = 0)) || ((!decide (n.kind = 11)) && (!decide (n.a = 0)))))
    · cases (decide (n.kind = 11) && (decide (n.a < 0) || decide (999 < n.a)))
      · cases ((!wB n.kind) && decide (0 < (n.l.length : Int)))
        · cases (decide (namedP n) && decide ((n.l.length : Int) ≤ 30)) <;> rfl
        · rfl
      · rfl
    · rfl
  · rfl
end Go.Proofs.Ytafphfokopkhdaa
set_option linter.unusedVariables false
set_option linter.unusedSimpArgs false
set_option maxRecDepth 100000
namespace Go.Proofs.Ytafphfokopkhdaa
open Go.V
open Classical
def latB (k : Int) : Bool := decide (k = 9) || decide (k = 10)
def endk (L : List ApiTNode) : Nat → Nat → Bool
  | 0, _ => false
  | k + 1, i => match L[i]? with
    | some n => !latB n.kind || (endk L k n.a.toNat && endk L k n.b.toNat)
    | none => false
theorem endk_succ (L : List ApiTNode) : ∀ (k i : Nat), endk L k i = true → endk L (k + 1) i = true
  | 0, i, h => by simp [endk] at h
  | k + 1, i, h => by
    unfold endk at h ⊢
    cases hq : L[i]? with
    | none => rw [hq] at h; exact h
    | some n =>
      rw [hq] at h
      simp only at h ⊢
      cases hl : latB n.kind
      · rfl
      · rw [hl] at h
        simp only [Bool.not_true, Bool.false_or, Bool.and_eq_true] at h ⊢
        exact ⟨endk_succ L k _ h.1, endk_succ L k _ h.2⟩
theorem endk_mono {L : List ApiTNode} {k m i : Nat} (hkm : k ≤ m) (h : endk L k i = true) : endk L m i = true := by
  induction hkm with
  | refl => exact h
  | step _ ih => exact endk_succ L _ _ ih
def Ends (L : List ApiTNode) (i : Nat) : Prop := ∃ k, endk L k i = true
def AllEnds (L : List ApiTNode) : Prop := ∀ i, i < L.length → Ends L i
def InL (L : List ApiTNode) : Prop := ∀ n ∈ L, ∀ k ∈ kidsL n, 0 ≤ k ∧ k < (L.length : Int)
theorem lat_kids {n : ApiTNode} (h : latB n.kind = true) : kidsL n = [n.a, n.b] := by
  unfold kidsL
  have : pB n.kind = true := by
    unfold latB at h; unfold pB
    rw [Bool.or_eq_true, decide_eq_true_eq, decide_eq_true_eq] at h
    rcases h with h | h <;> rw [h] <;> rfl
  rw [this]; rfl
theorem ends_of {L : List ApiTNode} {i : Nat} {n : ApiTNode} (hi : L[i]? = some n) (h : latB n.kind = true → Ends L n.a.toNat ∧ Ends L n.b.toNat) : Ends L i := by
  cases hl : latB n.kind with
  | false => exact ⟨1, by simp [endk, hi, hl]⟩
  | true =>
    obtain ⟨⟨k1, h1⟩, ⟨k2, h2⟩⟩ := h hl
    exact ⟨max k1 k2 + 1, by simp [endk, hi, hl, endk_mono (Nat.le_max_left k1 k2) h1, endk_mono (Nat.le_max_right k1 k2) h2]⟩
def cnd (L : List ApiTNode) (l : List Bool) (i : Nat) : Bool := match L[i]? with
  | some n => !latB n.kind || (l.getD n.a.toNat false && l.getD n.b.toNat false)
  | none => false
theorem count_set {l : List Bool} {i : Nat} (h : l[i]? = some false) : (l.set i true).count true = l.count true + 1 := by
  have hi := (List.getElem?_eq_some_iff.1 h).1
  have h2 := (List.getElem?_eq_some_iff.1 h).2
  rw [List.count_set hi, h2]
  simp
theorem cnd_eq {L : List ApiTNode} {l : List Bool} {i : Nat} {n : ApiTNode} (hR : InL L) (hl : l.length = L.length) (hi : L[i]? = some n) {β : Type} (K : Bool → Option β) :
    ((bif ((!decide (n.kind = 9)) && (!decide (n.kind = 10))) then (some true) else ((idx l n.a).bind fun x4 => (bif x4 then ((idx l n.b).bind fun x5 => some x5) else (some false)).bind fun p2 => some p2)).bind K) = K (cnd L l i) := by
  have e : ((!decide (n.kind = 9)) && (!decide (n.kind = 10))) = !latB n.kind := by unfold latB; rw [Bool.not_or]
  rw [e]
  unfold cnd
  rw [hi]
  simp only
  cases hb : latB n.kind with
  | false => simp
  | true =>
    have hk := hR n (List.mem_of_getElem? hi)
    rw [lat_kids hb] at hk
    obtain ⟨a0, a1⟩ := hk n.a (by simp)
    obtain ⟨b0, b1⟩ := hk n.b (by simp)
    have ha : l[n.a.toNat]? = some (l[n.a.toNat]'(by omega)) := List.getElem?_eq_getElem (by omega)
    have hb2 : l[n.b.toNat]? = some (l[n.b.toNat]'(by omega)) := List.getElem?_eq_getElem (by omega)
    have ia : idx l n.a = some (l[n.a.toNat]'(by omega)) := by rw [← ha]; unfold idx; rw [if_pos a0]
    have ib : idx l n.b = some (l[n.b.toNat]'(by omega)) := by rw [← hb2]; unfold idx; rw [if_pos b0]
    rw [Bool.not_true, cond_false, ia, Option.bind_some, ib, Option.bind_some, List.getD_eq_getElem?_getD, List.getD_eq_getElem?_getD, ha, hb2]
    cases l[n.a.toNat]'(by omega) <;> simp
theorem pass {t : ApiType} (hR : InL t.l) (hlen : t.l.length ≤ 2001) (l0 : List Bool) (h0 : l0.length = t.l.length) (hs : ∀ i : Nat, l0[i]? = some true → Ends t.l i) :
    ∃ m l, m_syntagmaref13_May_l3 t FU (false, 0, l0) = some (m, l) ∧ l.length = t.l.length ∧ (∀ i : Nat, l[i]? = some true → Ends t.l i) ∧ (m = false → l = l0 ∧ ∀ j, j < t.l.length → cnd t.l l0 j = true → l0[j]? = some true) ∧ (m = true → l0.count true < l.count true) := by
  obtain ⟨o, h1, h2⟩ := loop_rng (φ := fun n i (s : Bool × List Bool) => m_syntagmaref13_May_l3 t n (s.1, i, s.2)) (l := t.l)
    (fun i s => s.2.length = t.l.length ∧ (∀ i : Nat, s.2[i]? = some true → Ends t.l i) ∧ l0.count true ≤ s.2.count true ∧ (s.1 = false → s.2 = l0 ∧ ∀ j, j < i → cnd t.l l0 j = true → l0[j]? = some true) ∧ (s.1 = true → l0.count true < s.2.count true))
    (fun o : Bool × List Bool => o.2.length = t.l.length ∧ (∀ i : Nat, o.2[i]? = some true → Ends t.l i) ∧ (o.1 = false → o.2 = l0 ∧ ∀ j, j < t.l.length → cnd t.l l0 j = true → l0[j]? = some true) ∧ (o.1 = true → l0.count true < o.2.count true))
    (by
      rintro n i x ⟨m, l⟩ hx hi ⟨i1, i2, i3, i4, i5⟩
      simp only at i1 i2 i3 i4 i5
      left
      simp only [m_syntagmaref13_May_l3]
      rw [decide_eq_true (show (i : Int) < t.l.length by omega), cond_true, getI hx, Option.bind_some, cnd_eq hR i1 hx]
      have hy : l[i]? = some (l[i]'(by omega)) := List.getElem?_eq_getElem (by omega)
      cases hc : cnd t.l l i with
      | false =>
        refine ⟨(m, l), by rw [cond_false, Option.bind_some, cond_false, grd_pos (by omega)], i1, i2, i3, fun hm => ⟨(i4 hm).1, fun j hj hcj => ?_⟩, i5⟩
        by_cases hji : j = i
        · subst hji; rw [← (i4 hm).1, hc] at hcj; cases hcj
        · exact (i4 hm).2 j (by omega) hcj
      | true =>
        rw [cond_true, getI hy, Option.bind_some, Option.bind_some]
        cases hv : l[i]'(by omega) with
        | true =>
          refine ⟨(m, l), by rw [Bool.not_true, cond_false, grd_pos (by omega)], i1, i2, i3, fun hm => ⟨(i4 hm).1, fun j hj hcj => ?_⟩, i5⟩
          by_cases hji : j = i
          · subst hji; rw [← (i4 hm).1, hy, hv]
          · exact (i4 hm).2 j (by omega) hcj
        | false =>
          rw [hv] at hy
          have hct := count_set hy
          refine ⟨(true, l.set i true), by rw [Bool.not_false, cond_true, Option.bind_some, grd_pos (by omega), Int.toNat_natCast], by simpa using i1, fun j hj => ?_, by simp only; omega, fun h => (by cases h), fun _ => by simp only; omega⟩
          simp only at hj
          rw [List.getElem?_set] at hj
          by_cases hji : i = j
          · subst hji
            refine ends_of hx fun hlat => ?_
            have hk := hR x (List.mem_of_getElem? hx)
            rw [lat_kids hlat] at hk
            unfold cnd at hc
            rw [hx] at hc
            simp only [hlat, Bool.not_true, Bool.false_or, Bool.and_eq_true] at hc
            rw [List.getD_eq_getElem?_getD, List.getD_eq_getElem?_getD] at hc
            constructor
            · refine i2 _ ?_
              cases hq : l[x.a.toNat]? with
              | none => rw [hq] at hc; simp at hc
              | some v => rw [hq] at hc; simp at hc; rw [hc.1]
            · refine i2 _ ?_
              cases hq : l[x.b.toNat]? with
              | none => rw [hq] at hc; simp at hc
              | some v => rw [hq] at hc; simp at hc; rw [hc.2]
          · rw [if_neg hji] at hj; exact i2 j hj)
    (by
      rintro n ⟨m, l⟩ ⟨i1, i2, i3, i4, i5⟩
      refine ⟨(m, l), ?_, i1, i2, i4, i5⟩
      simp only [m_syntagmaref13_May_l3]
      rw [decide_eq_false (by omega), cond_false]) (by rw [FUv]; omega) (false, l0) ⟨h0, hs, Nat.le_refl _, fun _ => ⟨rfl, fun j hj => by omega⟩, fun h => by cases h⟩
  obtain ⟨a, b, c, d⟩ := h2
  exact ⟨o.1, o.2, h1, a, b, c, d⟩
theorem closed_ends {L : List ApiTNode} {l : List Bool} (hl : l.length = L.length) (hR : InL L) (hc : ∀ j, j < L.length → cnd L l j = true → l[j]? = some true) : ∀ (k i : Nat), i < L.length → endk L k i = true → l[i]? = some true
  | 0, i, _, h => by simp [endk] at h
  | k + 1, i, hi, h => by
    refine hc i hi ?_
    unfold endk at h
    unfold cnd
    have hx : L[i]? = some L[i] := List.getElem?_eq_getElem hi
    rw [hx] at h ⊢
    simp only at h ⊢
    cases hlat : latB (L[i]).kind with
    | false => rfl
    | true =>
      have hk := hR L[i] (List.getElem_mem hi)
      rw [lat_kids hlat] at hk
      obtain ⟨a0, a1⟩ := hk (L[i]).a (by simp)
      obtain ⟨b0, b1⟩ := hk (L[i]).b (by simp)
      rw [hlat] at h
      simp only [Bool.not_true, Bool.false_or, Bool.and_eq_true] at h ⊢
      have e1 := closed_ends hl hR hc k _ (by omega) h.1
      have e2 := closed_ends hl hR hc k _ (by omega) h.2
      rw [List.getD_eq_getElem?_getD, List.getD_eq_getElem?_getD, e1, e2]; exact ⟨rfl, rfl⟩
theorem rounds {t : ApiType} (hR : InL t.l) (hlen : t.l.length ≤ 2001) :
    ∃ l, m_syntagmaref13_May_l2 t FU (true, List.replicate t.l.length false) = some l ∧ l.length = t.l.length ∧ ∀ i, i < t.l.length → (l[i]? = some true ↔ Ends t.l i) := by
  obtain ⟨l, h1, h2, h3, h4⟩ := loop_inv (φ := m_syntagmaref13_May_l2 t) (fun s => 2 * (t.l.length - s.2.count true) + (if s.1 = true then 1 else 0))
    (fun s => s.2.length = t.l.length ∧ (∀ i : Nat, s.2[i]? = some true → Ends t.l i) ∧ (s.1 = false → ∀ j, j < t.l.length → cnd t.l s.2 j = true → s.2[j]? = some true))
    (fun l => l.length = t.l.length ∧ (∀ i : Nat, l[i]? = some true → Ends t.l i) ∧ ∀ j, j < t.l.length → cnd t.l l j = true → l[j]? = some true)
    (by
      rintro n ⟨m, l⟩ ⟨i1, i2, i3⟩
      simp only at i1 i2 i3
      cases m with
      | false => exact .inr ⟨l, ⟨i1, i2, i3 rfl⟩, by simp only [m_syntagmaref13_May_l2]; rfl⟩
      | true =>
        obtain ⟨m, l', e1, e2, e3, e4, e5⟩ := pass hR hlen l i1 i2
        refine .inl ⟨(m, l'), ⟨e2, e3, fun hm => ?_⟩, ?_, ?_⟩
        · simp only at hm ⊢
          obtain ⟨rfl, h⟩ := e4 hm; exact h
        · have hc1 : l'.count true ≤ t.l.length := by rw [← e2]; exact List.count_le_length
          cases m with
          | false => obtain ⟨rfl, _⟩ := e4 rfl; simp
          | true => have := e5 rfl; simp; omega
        · simp only [m_syntagmaref13_May_l2]
          rw [cond_true, e1, Option.bind_some])
    FU (true, List.replicate t.l.length false) ⟨by simp, fun i hi => by rw [List.getElem?_replicate] at hi; split at hi <;> simp at hi, fun h => by cases h⟩ (by rw [FUv]; simp only [List.count_replicate]; simp; omega)
  exact ⟨l, h1, h2, fun i hi => ⟨h3 i, fun ⟨k, hk⟩ => closed_ends h2 hR h4 k i hi hk⟩⟩
end Go.Proofs.Ytafphfokopkhdaa
set_option linter.unusedVariables false
set_option linter.unusedSimpArgs false
set_option maxRecDepth 100000
namespace Go.Proofs.Ytafphfokopkhdaa
open Go.V
open Classical
def ColOk (z : List Int) : Prop := ∀ c ∈ z, c = 0 ∨ c = 1 ∨ c = 2
theorem whites_set {z : List Int} {i : Nat} {c d : Int} (h : z[i]? = some c) : (z.set i d).count 0 + (if c = 0 then 1 else 0) = z.count 0 + (if d = 0 then 1 else 0) := by
  have hi := (List.getElem?_eq_some_iff.1 h).1
  have h2 := (List.getElem?_eq_some_iff.1 h).2
  have hc : c = 0 → 0 < z.count 0 := fun e => List.count_pos_iff.2 (by rw [← e]; exact List.mem_of_getElem? h)
  rw [List.count_set hi, h2]
  by_cases h0 : c = 0
  · have := hc h0
    subst h0
    simp
    split <;> omega
  · rw [if_neg h0]
    have : (c == 0) = false := by simp [h0]
    rw [this]
    simp
theorem colOk_set {z : List Int} {i : Nat} {d : Int} (h : ColOk z) (hd : d = 0 ∨ d = 1 ∨ d = 2) : ColOk (z.set i d) := by
  intro c hc
  rcases List.mem_or_eq_of_mem_set hc with h2 | h2
  · exact h c h2
  · rw [h2]; exact hd
theorem endk_least {L : List ApiTNode} {i : Nat} : ∀ m, endk L m i = true → ∃ k, k < m ∧ endk L (k + 1) i = true ∧ endk L k i = false
  | 0, h => by simp [endk] at h
  | m + 1, h => by
    cases hq : endk L m i with
    | false => exact ⟨m, Nat.lt_succ_self m, h, hq⟩
    | true =>
      obtain ⟨k, h1, h2, h3⟩ := endk_least m hq
      exact ⟨k, by omega, h2, h3⟩
theorem endk_false {L : List ApiTNode} {k m i : Nat} (hkm : k ≤ m) (h : endk L m i = false) : endk L k i = false := by
  cases hq : endk L k i with
  | false => rfl
  | true => rw [endk_mono hkm hq] at h; cases h
/-- What a walk from a node does. -/
structure WalkOk (L : List ApiTNode) (i : Nat) (z : List Int) (b : Bool) (z' : List Int) : Prop where
  len : z'.length = L.length
  col : ColOk z'
  wh : z'.count 0 ≤ z.count 0
  yes : b = true → Ends L i ∧ (∀ j : Nat, z'[j]? = some 2 → Ends L j) ∧ ∀ j : Nat, z'[j]? = some 1 ↔ z[j]? = some 1
  no : b = false → ∀ m, endk L m i = true → (∀ j : Nat, z[j]? = some 1 → endk L m j = false) → False
theorem walk_ok {t : ApiType} (hR : InL t.l) (hN : ∀ n ∈ t.l, NB n) (hlen : t.l.length ≤ 2001) : ∀ (n : Nat) (i : Nat) (z : List Int), i < t.l.length → z.length = t.l.length → ColOk z → z.count 0 < n → (∀ j : Nat, z[j]? = some 2 → Ends t.l j) →
    ∃ b z', m_graph_contractive_1 t n (i : Int) z = some (b, z') ∧ WalkOk t.l i z b z'
  | 0, i, z, _, _, _, h, _ => by omega
  | n + 1, i, z, hi, hz, hc, hw, hb => by
    have hx : t.l[i]? = some t.l[i] := List.getElem?_eq_getElem hi
    have hy : z[i]? = some (z[i]'(by omega)) := List.getElem?_eq_getElem (by omega)
    have hcz := hc _ (List.mem_of_getElem? hy)
    show ∃ b z', m_graph_contractive_1F (m_graph_contractive_1 t n) (i : Int) z t = some (b, z') ∧ _
    unfold m_graph_contractive_1F
    rw [getI hx, Option.bind_some, show m_graph_lattice (t.l[i]).kind = some (latB (t.l[i]).kind) from rfl, Option.bind_some, getI hy, Option.bind_some, Option.bind_some, Option.bind_some]
    generalize hn : t.l[i] = nd at *
    generalize z[i]'(by omega) = c at *
    cases hlat : latB nd.kind with
    | false =>
      refine ⟨true, z, by rw [Bool.not_false, cond_true, Option.bind_some, cond_true], hz, hc, Nat.le_refl _, fun _ => ⟨ends_of hx fun h => (by rw [hlat] at h; cases h), hb, fun j => Iff.rfl⟩, fun h => by cases h⟩
    | true =>
      rw [Bool.not_true, cond_false, Option.bind_some]
      by_cases h2 : c = 2
      · refine ⟨true, z, by rw [decide_eq_true h2, cond_true], hz, hc, Nat.le_refl _, fun _ => ⟨hb i (by rw [hy, h2]), hb, fun j => Iff.rfl⟩, fun h => by cases h⟩
      rw [decide_eq_false h2, cond_false]
      by_cases h1 : c = 1
      · refine ⟨false, z, by rw [decide_eq_true h1, cond_true], hz, hc, Nat.le_refl _, fun h => (by cases h), fun _ m hm hg => ?_⟩
        rw [hg i (by rw [hy, h1])] at hm; cases hm
      rw [decide_eq_false h1, cond_false]
      have h0 : c = 0 := by omega
      subst h0
      have hNd : NB nd := by rw [← hn]; exact hN _ (List.getElem_mem hi)
      rw [Option.bind_some, kids_eq _ hNd, Option.bind_some, Int.toNat_natCast]
      have hk : ∀ k ∈ kidsL nd, 0 ≤ k ∧ k < (t.l.length : Int) := hR nd (List.mem_of_getElem? hx)
      have hkl := kidsL_len nd hNd
      have hwz := whites_set (d := 1) hy
      simp at hwz
      have hz1 : (z.set i 1).length = t.l.length := by simpa using hz
      have gr1 : ∀ j : Nat, (z.set i 1)[j]? = some 1 ↔ (j = i ∨ z[j]? = some 1) := by
        intro j
        rw [List.getElem?_set]
        by_cases hji : i = j
        · subst hji; simp; omega
        · rw [if_neg hji]; exact ⟨.inr, fun h => h.elim (fun e => absurd e.symm hji) id⟩
      obtain ⟨o, e1, e2⟩ := loop_rng (φ := fun m q s => m_graph_contractive_1_l1 (m_graph_contractive_1 t n) (kidsL nd) m (q, s)) (l := kidsL nd)
        (fun q s => s.length = t.l.length ∧ ColOk s ∧ s.count 0 ≤ (z.set i 1).count 0 ∧ (∀ j : Nat, s[j]? = some 2 → Ends t.l j) ∧ (∀ j : Nat, s[j]? = some 1 ↔ (z.set i 1)[j]? = some 1) ∧ ∀ (p : Nat) k, p < q → (kidsL nd)[p]? = some k → Ends t.l k.toNat)
        (fun o => (∃ s, o = Out.ret (false, s) ∧ s.length = t.l.length ∧ ColOk s ∧ s.count 0 ≤ (z.set i 1).count 0 ∧ ∀ m, endk t.l m i = true → (∀ j : Nat, z[j]? = some 1 → endk t.l m j = false) → False) ∨
          (∃ s, o = Out.go s ∧ s.length = t.l.length ∧ ColOk s ∧ s.count 0 ≤ (z.set i 1).count 0 ∧ (∀ j : Nat, s[j]? = some 2 → Ends t.l j) ∧ (∀ j : Nat, s[j]? = some 1 ↔ (z.set i 1)[j]? = some 1) ∧ ∀ k ∈ kidsL nd, Ends t.l k.toNat))
        (by
          rintro m q k s hkq hq ⟨s1, s2, s3, s4, s5, s6⟩
          obtain ⟨k0, k1⟩ := hk k (List.mem_of_getElem? hkq)
          obtain ⟨b, z', w1, w2⟩ := walk_ok hR hN hlen n k.toNat s (by omega) s1 s2 (by omega) s4
          rw [Int.toNat_of_nonneg k0] at w1
          simp only [m_graph_contractive_1_l1]
          rw [decide_eq_true (show (q : Int) < (kidsL nd).length by omega), cond_true, getI hkq, Option.bind_some, w1, Option.bind_some]
          dsimp only
          cases b with
          | true =>
            obtain ⟨y1, y2, y3⟩ := w2.yes rfl
            refine .inl ⟨z', by rw [Bool.not_true, cond_false, grd_pos (by omega)], w2.len, w2.col, Nat.le_trans w2.wh s3, y2, fun j => (y3 j).trans (s5 j), fun p k' hp hk' => ?_⟩
            by_cases hpq : p = q
            · subst hpq; rw [hkq] at hk'; cases hk'; exact y1
            · exact s6 p k' (by omega) hk'
          | false =>
            refine .inr ⟨_, by rw [Bool.not_false, cond_true], .inl ⟨z', rfl, w2.len, w2.col, Nat.le_trans w2.wh s3, fun m hm hg => ?_⟩⟩
            obtain ⟨r, r1, r2, r3⟩ := endk_least m hm
            refine w2.no rfl r ?_ fun j hj => ?_
            · unfold endk at r2
              rw [hx] at r2
              simp only [hlat, Bool.not_true, Bool.false_or, Bool.and_eq_true] at r2
              have := List.mem_of_getElem? hkq
              rw [lat_kids hlat] at this
              simp only [List.mem_cons, List.not_mem_nil, or_false] at this
              rcases this with rfl | rfl
              · exact r2.1
              · exact r2.2
            · rcases (gr1 j).1 ((s5 j).1 hj) with rfl | hj
              · exact r3
              · exact endk_false (by omega) (hg j hj))
        (by
          rintro m s ⟨s1, s2, s3, s4, s5, s6⟩
          refine ⟨Out.go s, ?_, .inr ⟨s, rfl, s1, s2, s3, s4, s5, fun k hk' => ?_⟩⟩
          · simp only [m_graph_contractive_1_l1]
            rw [decide_eq_false (by omega), cond_false]
          · obtain ⟨p, hp⟩ := List.getElem?_of_mem hk'
            exact s6 p k (getLt hp) hp)
        (by rw [FUv]; omega) (z.set i 1) ⟨hz1, colOk_set hc (by omega), Nat.le_refl _, fun j hj => (by
          rw [List.getElem?_set] at hj
          by_cases hji : i = j
          · rw [if_pos hji] at hj; split at hj <;> simp at hj
          · rw [if_neg hji] at hj; exact hb j hj), fun j => Iff.rfl, fun p k hp => by omega⟩
      rw [e1, Option.bind_some]
      rcases e2 with ⟨s, rfl, s1, s2, s3, s4⟩ | ⟨s, rfl, s1, s2, s3, s4, s5, s6⟩
      · exact ⟨false, s, rfl, s1, s2, by omega, fun h => (by cases h), fun _ => s4⟩
      · have hsi : s[i]? = some 1 := (s5 i).2 ((gr1 i).2 (.inl rfl))
        have hws := whites_set (d := 2) hsi
        simp at hws
        have hE : Ends t.l i := ends_of hx fun _ => by
          rw [lat_kids hlat] at s6
          exact ⟨s6 _ (by simp), s6 _ (by simp)⟩
        refine ⟨true, s.set i 2, by show (idx s (i : Int)).bind _ = _; rw [getI hsi, Option.bind_some], by simpa using s1, colOk_set s2 (by omega), by omega, fun _ => ⟨hE, fun j hj => ?_, fun j => ?_⟩, fun h => by cases h⟩
        · rw [List.getElem?_set] at hj
          by_cases hji : i = j
          · subst hji; exact hE
          · rw [if_neg hji] at hj; exact s4 j hj
        · rw [List.getElem?_set]
          by_cases hji : i = j
          · subst hji; rw [if_pos rfl, hy]; split <;> simp
          · rw [if_neg hji, s5 j, gr1 j]
            exact ⟨fun h => h.elim (fun e => absurd e.symm hji) id, .inr⟩
theorem contractive_eq {t : ApiType} (hR : InL t.l) (hN : ∀ n ∈ t.l, NB n) (hlen : t.l.length ≤ 2001) : m_graph_contractive t = some (decide (AllEnds t.l)) := by
  unfold m_graph_contractive
  rw [grd_pos (by omega), grd_pos (by omega), Int.toNat_natCast]
  obtain ⟨o, e1, e2⟩ := loop_rng (φ := fun m q s => m_graph_contractive_l1 t m (q, s)) (l := t.l)
    (fun q s => s.length = t.l.length ∧ ColOk s ∧ (∀ j : Nat, s[j]? = some 2 → Ends t.l j) ∧ (∀ j : Nat, ¬ s[j]? = some 1) ∧ ∀ p, p < q → Ends t.l p)
    (fun o => (o = Out.ret false ∧ ¬ AllEnds t.l) ∨ ∃ s, o = Out.go s ∧ AllEnds t.l)
    (by
      rintro m q nd s hnd hq ⟨s1, s2, s3, s4, s5⟩
      obtain ⟨b, z', w1, w2⟩ := walk_ok hR hN hlen FU q s hq s1 s2 (by have := List.count_le_length (a := (0 : Int)) (l := s); rw [FUv]; omega) s3
      simp only [m_graph_contractive_l1]
      rw [decide_eq_true (show (q : Int) < t.l.length by omega), cond_true, w1, Option.bind_some]
      dsimp only
      cases b with
      | true =>
        obtain ⟨y1, y2, y3⟩ := w2.yes rfl
        refine .inl ⟨z', by rw [Bool.not_true, cond_false, grd_pos (by omega)], w2.len, w2.col, y2, fun j hj => s4 j ((y3 j).1 hj), fun p hp => ?_⟩
        by_cases hpq : p = q
        · subst hpq; exact y1
        · exact s5 p (by omega)
      | false =>
        refine .inr ⟨_, by rw [Bool.not_false, cond_true], .inl ⟨rfl, fun hA => ?_⟩⟩
        obtain ⟨k, hk⟩ := hA q hq
        exact w2.no rfl k hk fun j hj => absurd hj (s4 j))
    (by
      rintro m s ⟨s1, s2, s3, s4, s5⟩
      refine ⟨Out.go s, ?_, .inr ⟨s, rfl, s5⟩⟩
      simp only [m_graph_contractive_l1]
      rw [decide_eq_false (by omega), cond_false])
    (by rw [FUv]; omega) (List.replicate t.l.length 0) ⟨by simp, fun c hc => (by rw [List.mem_replicate] at hc; exact .inl hc.2), fun j hj => (by rw [List.getElem?_replicate] at hj; split at hj <;> simp at hj), fun j hj => (by rw [List.getElem?_replicate] at hj; split at hj <;> simp at hj), fun p hp => by omega⟩
  rw [e1, Option.bind_some]
  rcases e2 with ⟨rfl, h⟩ | ⟨s, rfl, h⟩
  · rw [decide_eq_false h]; rfl
  · rw [decide_eq_true h]; rfl
end Go.Proofs.Ytafphfokopkhdaa
set_option linter.unusedVariables false
set_option linter.unusedSimpArgs false
set_option maxRecDepth 100000
namespace Go.Proofs.Ytafphfokopkhdaa
open Go.V
open Classical
def AllRight (L : List ApiTNode) : Prop := ∀ n ∈ L, rightB n L.length = true
theorem right_in {n : ApiTNode} {all : Int} (h : rightB n all = true) : ∀ k ∈ kidsL n, 0 ≤ k ∧ k < all := by
  intro k hk
  unfold rightB at h
  simp only [Bool.and_eq_true, Bool.not_eq_true', decide_eq_false_iff_not] at h
  have h2 := h.2.2.2.2.2
  have : inB all k = false := by
    cases hq : inB all k with
    | false => rfl
    | true => exact absurd ⟨k, hk, hq⟩ h2
  unfold inB at this
  rw [Bool.or_eq_false_iff, decide_eq_false_iff_not, decide_eq_false_iff_not] at this
  omega
theorem allRight_in {L : List ApiTNode} (h : AllRight L) : InL L := fun n hn k hk => right_in (h n hn) k hk
theorem wrong_eq (t : ApiType) (hlen : t.l.length ≤ 2001) (hN : ∀ n ∈ t.l, NB n) : m_slices_ContainsFunc_api_TNode_api_TNode t.l (fun y0 => m_graph_May_1 y0 t) = some (!decide (AllRight t.l)) := by
  unfold m_slices_ContainsFunc_api_TNode_api_TNode m_slices_IndexFunc_api_TNode_api_TNode
  rw [loop_find (φ := m_slices_IndexFunc_api_TNode_api_TNode_l1 t.l (fun y0 => m_graph_May_1 y0 t)) (l := t.l) (fun i => (i : Int)) (fun n => !rightB n t.l.length) ?_ ?_ (by rw [FUv]; omega)]
  · rw [Option.bind_some]
    cases hf : t.l.findIdx? (fun n => !rightB n t.l.length) with
    | none =>
      have : AllRight t.l := by
        intro n hn
        have := List.findIdx?_eq_none_iff.1 hf n hn
        simpa using this
      rw [decide_eq_true this]; rfl
    | some i =>
      obtain ⟨hi, h1, _⟩ := List.findIdx?_eq_some_iff_getElem.1 hf
      have : ¬ AllRight t.l := fun h => by
        rw [h _ (List.getElem_mem hi)] at h1; cases h1
      rw [decide_eq_false this]
      show some (decide (0 ≤ (i : Int))) = some true
      rw [decide_eq_true (by omega)]
  · intro n i x hx hi
    simp only [m_slices_IndexFunc_api_TNode_api_TNode_l1]
    rw [decide_eq_true (show (i : Int) < t.l.length by omega), cond_true, getI hx, Option.bind_some, show m_graph_May_1 x t = some (!rightB x t.l.length) by unfold m_graph_May_1; rw [right_eq _ _ (hN x (List.mem_of_getElem? hx)), Option.bind_some], Option.bind_some]
    exact ⟨fun hq => by rw [hq, cond_false, grd_pos (by omega)], fun hq => by rw [hq, cond_true]⟩
  · intro n
    simp only [m_slices_IndexFunc_api_TNode_api_TNode_l1]
    rw [decide_eq_false (by omega), cond_false]
noncomputable def mayT (L : List ApiTNode) (root : Int) : Int := if L.length = 0 ∨ 2000 < L.length then 8 else if root < 0 ∨ (L.length : Int) ≤ root then 4 else if AllRight L ∧ AllEnds L then 0 else 4
theorem may_eq (t : ApiType) (hlen : t.l.length ≤ 2001) (hN : ∀ n ∈ t.l, NB n) : m_graph_May t = some (mayT t.l t.root) := by
  unfold m_graph_May mayT
  by_cases h0 : t.l.length = 0 ∨ 2000 < t.l.length
  · rw [if_pos h0, show (decide ((t.l.length : Int) = 0) || decide (2000 < (t.l.length : Int))) = true by rw [Bool.or_eq_true, decide_eq_true_eq, decide_eq_true_eq]; omega, cond_true]
  rw [if_neg h0, decide_eq_false (by omega), decide_eq_false (by omega), Bool.or_false, cond_false]
  by_cases hr : t.root < 0 ∨ (t.l.length : Int) ≤ t.root
  · rw [if_pos hr, show (decide (t.root < 0) || decide ((t.l.length : Int) ≤ t.root)) = true by rw [Bool.or_eq_true, decide_eq_true_eq, decide_eq_true_eq]; exact hr, cond_true]
  rw [if_neg hr, decide_eq_false (by omega), decide_eq_false (by omega), Bool.or_false, cond_false, wrong_eq t hlen hN, Option.bind_some]
  by_cases hA : AllRight t.l
  · rw [decide_eq_true hA, Bool.not_true, cond_false, contractive_eq (allRight_in hA) hN hlen, Option.bind_some]
    by_cases hE : AllEnds t.l
    · rw [decide_eq_true hE, if_pos ⟨hA, hE⟩]; rfl
    · rw [decide_eq_false hE, if_neg (fun h => hE h.2)]; rfl
  · rw [decide_eq_false hA, Bool.not_false, cond_true, if_neg (fun h => hA h.1)]; rfl
theorem mayT_ok {L : List ApiTNode} {r : Int} (h : mayT L r = 0) : 0 < L.length ∧ L.length ≤ 2000 ∧ 0 ≤ r ∧ r < L.length ∧ AllRight L ∧ AllEnds L := by
  unfold mayT at h
  split at h
  · omega
  · split at h
    · omega
    · split at h
      · rename_i h1 h2 h3; exact ⟨by omega, by omega, by omega, by omega, h3.1, h3.2⟩
      · omega
end Go.Proofs.Ytafphfokopkhdaa
set_option linter.unusedVariables false
set_option linter.unusedSimpArgs false
set_option maxRecDepth 100000
namespace Go.Proofs.Ytafphfokopkhdaa
open Go.V
open Classical
theorem reverse_eq (s : List Int) (h : s.length ≤ 1000) : m_slices_Reverse_int_int s = some s.reverse := by
  unfold m_slices_Reverse_int_int
  rw [grd_pos (by omega)]
  obtain ⟨o, e1, e2⟩ := loop_inv (φ := m_slices_Reverse_int_int_l1) (fun st => (st.2.1 + 1 - st.1).toNat)
    (fun st => 0 ≤ st.1 ∧ -1 ≤ st.2.1 ∧ st.1 + st.2.1 = (s.length : Int) - 1 ∧ st.1 ≤ st.2.1 + 2 ∧ st.2.2.length = s.length ∧ ∀ k : Nat, k < s.length → st.2.2[k]? = if (k : Int) < st.1 ∨ st.2.1 < (k : Int) then s.reverse[k]? else s[k]?)
    (fun o => o = s.reverse)
    (by
      rintro n ⟨i, j, l⟩ ⟨h0, h1, h2, h3, h4, h5⟩
      simp only at h0 h1 h2 h3 h4 h5
      by_cases hij : i < j
      · left
        obtain ⟨a, rfl⟩ := Int.eq_ofNat_of_zero_le h0
        obtain ⟨b, rfl⟩ := Int.eq_ofNat_of_zero_le (show 0 ≤ j by omega)
        have ha : a < s.length := by omega
        have hb : b < s.length := by omega
        have la : l[a]? = some s[a] := by rw [h5 a ha, if_neg (by omega), List.getElem?_eq_getElem ha]
        have lb : l[b]? = some s[b] := by rw [h5 b hb, if_neg (by omega), List.getElem?_eq_getElem hb]
        have lb2 : (l.set a s[b])[b]? = some s[b] := by rw [List.getElem?_set_ne (by omega)]; exact lb
        refine ⟨((a : Int) + 1, (b : Int) - 1, (l.set a s[b]).set b s[a]), ⟨by simp only; omega, by simp only; omega, by simp only; omega, by simp only; omega, by simpa using h4, fun k hk => ?_⟩, by simp only; omega, ?_⟩
        · simp only
          by_cases hkb : k = b
          · subst hkb
            rw [List.getElem?_set_self (by simp; omega), if_pos (by omega), List.getElem?_reverse hk, List.getElem?_eq_getElem (by omega)]
            congr 2; omega
          · rw [List.getElem?_set_ne (by omega)]
            by_cases hka : k = a
            · subst hka
              rw [List.getElem?_set_self (by omega), if_pos (by omega), List.getElem?_reverse hk, List.getElem?_eq_getElem (by omega)]
              congr 2; omega
            · rw [List.getElem?_set_ne (by omega), h5 k hk]
              by_cases hc : (k : Int) < a ∨ (b : Int) < k
              · rw [if_pos hc, if_pos (by omega)]
              · rw [if_neg hc, if_neg (by omega)]
        · simp only [m_slices_Reverse_int_int_l1]
          rw [decide_eq_true hij, cond_true, getI lb, Option.bind_some, getI la, Option.bind_some, Option.bind_some, Option.bind_some, Int.toNat_natCast, Int.toNat_natCast, getI lb2, Option.bind_some, grd_pos (by omega), grd_pos (by omega)]
      · right
        refine ⟨l, ?_, by simp only [m_slices_Reverse_int_int_l1]; rw [decide_eq_false hij, cond_false]⟩
        refine List.ext_getElem? fun k => ?_
        by_cases hk : k < s.length
        · rw [h5 k hk]
          split
          · rfl
          · rw [List.getElem?_reverse hk]; congr 1; omega
        · rw [List.getElem?_eq_none (by omega), List.getElem?_eq_none (by simp; omega)])
    FU (0, (s.length : Int) - 1, s) ⟨by simp only; omega, by simp only; omega, by simp only; omega, by simp only; omega, rfl, fun k hk => by simp only; rw [if_neg (by omega)]⟩ (by rw [FUv]; simp only; omega)
  rw [e1, e2]
theorem push_eq (x : List Int) (hx : x.length ≤ 1000) : ∀ (n q : Nat) (l : List Int), q ≤ x.length → q < n → l.length + q ≤ 1000000000 → m_syntagmaref13_Below_l2 x n ((q : Int) - 1, l) = some (l ++ (x.take q).reverse)
  | 0, q, l, _, h, _ => by omega
  | n + 1, 0, l, _, _, _ => by
    simp only [m_syntagmaref13_Below_l2]
    rw [decide_eq_false (by omega), cond_false]; simp
  | n + 1, q + 1, l, hq, hn, hl => by
    have hxq : x[q]? = some x[q] := List.getElem?_eq_getElem (by omega)
    simp only [m_syntagmaref13_Below_l2]
    rw [decide_eq_true (by omega), cond_true, show (((q + 1 : Nat) : Int) - 1) = (q : Int) by omega, getI hxq, Option.bind_some, grd_pos (by simp only [List.length_cons, List.length_nil]; omega), grd_pos (by omega), push_eq x hx n q (l ++ [x[q]]) (by omega) (by omega) (by simp only [List.length_append, List.length_cons, List.length_nil]; omega)]
    rw [List.take_succ_eq_append_getElem (by omega), List.reverse_append]
    simp
def kat (L : List ApiTNode) (i : Int) : List Int := match L[i.toNat]? with
  | some n => kidsL n
  | none => []
/-- Through what is below: the stack's top first. -/
noncomputable def dfs (K : Int → List Int) : Nat → List Int → List Int → List Int
  | 0, _, out => out
  | _ + 1, [], out => out
  | n + 1, x :: s, out => if x ∈ out then dfs K n s out else dfs K n (K x ++ s) (out ++ [x])
theorem hasInt_eq (l : List Int) (x : Int) (h : l.length ≤ 1000000000) : m_syntagmabase_HasInt l x = some (decide (x ∈ l)) := by
  unfold m_syntagmabase_HasInt
  rw [loop_any (φ := m_syntagmabase_HasInt_l1 l x) (l := l) true (fun _ k => k = x) ?_ ?_ (by rw [FUv]; omega), Option.bind_some]
  · have e : (∃ (i : Nat) (y : Int), l[i]? = some y ∧ y = x) ↔ x ∈ l := by
      constructor
      · rintro ⟨i, y, h1, rfl⟩; exact List.mem_of_getElem? h1
      · intro h1; obtain ⟨i, hi⟩ := List.getElem?_of_mem h1; exact ⟨i, x, hi, rfl⟩
    by_cases h2 : x ∈ l
    · rw [if_pos (e.2 h2), decide_eq_true h2]; rfl
    · rw [if_neg (fun h3 => h2 (e.1 h3)), decide_eq_false h2]; rfl
  · intro n i y hy hi
    simp only [m_syntagmabase_HasInt_l1]
    rw [decide_eq_true (show (i : Int) < l.length by omega), cond_true, getI hy, Option.bind_some]
    by_cases h2 : y = x
    · rw [decide_eq_true h2]; exact ⟨fun h => absurd h2 h, fun _ => rfl⟩
    · rw [decide_eq_false h2]; exact ⟨fun _ => by rw [cond_false, grd_pos (by omega)], fun h => absurd h h2⟩
  · intro n
    simp only [m_syntagmabase_HasInt_l1]
    rw [decide_eq_false (by omega), cond_false]
theorem sum_flip (f g : Nat → Nat) (i : Nat) : ∀ l : List Nat, l.Nodup → i ∈ l → (∀ j ∈ l, j ≠ i → f j = g j) → (l.map f).sum + g i = (l.map g).sum + f i
  | [], _, h, _ => by simp at h
  | j :: l, hn, hi, he => by
    rw [List.nodup_cons] at hn
    simp only [List.map_cons, List.sum_cons]
    by_cases hji : j = i
    · subst hji
      have : l.map f = l.map g := List.map_congr_left fun k hk => he k (by simp [hk]) (fun e => hn.1 (e ▸ hk))
      rw [this]; omega
    · have := sum_flip f g i l hn.2 (by simpa [Ne.symm hji] using hi) (fun k hk => he k (by simp [hk]))
      have := he j (by simp) hji
      omega
noncomputable def wt (K : Int → List Int) (len : Nat) (out : List Int) : Nat := ((List.range len).map (fun (i : Nat) => if (i : Int) ∈ out then 0 else (K (i : Int)).length)).sum
theorem wt_add {K : Int → List Int} {len : Nat} {out : List Int} {i : Nat} (hi : i < len) (ho : ¬ (i : Int) ∈ out) : wt K len (out ++ [(i : Int)]) + (K i).length = wt K len out := by
  have := sum_flip (fun (j : Nat) => if (j : Int) ∈ out ++ [(i : Int)] then 0 else (K (j : Int)).length) (fun (j : Nat) => if (j : Int) ∈ out then 0 else (K (j : Int)).length) i (List.range len) List.nodup_range (List.mem_range.2 hi) (fun j _ hj => by
    have e : ((j : Int) ∈ out ++ [(i : Int)]) ↔ (j : Int) ∈ out := by simp; omega
    by_cases h : (j : Int) ∈ out
    · rw [if_pos h, if_pos (e.2 h)]
    · rw [if_neg h, if_neg (fun h2 => h (e.1 h2))])
  rw [if_neg ho, if_pos (by simp)] at this
  unfold wt; omega
theorem kat_in {L : List ApiTNode} (hR : InL L) : ∀ i k, k ∈ kat L i → 0 ≤ k ∧ k < (L.length : Int) := by
  intro i k hk
  unfold kat at hk
  cases hq : L[i.toNat]? with
  | none => rw [hq] at hk; simp at hk
  | some n => rw [hq] at hk; exact hR n (List.mem_of_getElem? hq) k hk
theorem kat_len {L : List ApiTNode} (hN : ∀ n ∈ L, NB n) (i : Int) : (kat L i).length ≤ 40 := by
  unfold kat
  cases hq : L[i.toNat]? with
  | none => simp
  | some n => exact kidsL_len n (hN n (List.mem_of_getElem? hq))
theorem lastI (s : List Int) (x : Int) : idx (s ++ [x]) (((s ++ [x]).length : Int) - 1) = some x := by
  rw [show (((s ++ [x]).length : Int) - 1) = (s.length : Int) by simp]
  exact getI (by simp)
theorem initI (s : List Int) (x : Int) : sli (s ++ [x]) 0 (((s ++ [x]).length : Int) - 1) = some s := by
  rw [show (((s ++ [x]).length : Int) - 1) = (s.length : Int) by simp, sli_take (by simp)]
  simp
theorem below_lock {t : ApiType} (hR : InL t.l) (hN : ∀ n ∈ t.l, NB n) (hlen : t.l.length ≤ 2001) : ∀ (n : Nat) (s out : List Int) (seen : List Bool), (∀ x ∈ s, 0 ≤ x ∧ x < (t.l.length : Int)) → seen.length = t.l.length →
    (∀ i : Nat, seen[i]? = some true ↔ ((i : Int) ∈ out ∧ i < t.l.length)) → out.length + s.length + wt (kat t.l) t.l.length out ≤ 100000000 → s.length + wt (kat t.l) t.l.length out < n →
    ∃ ys, m_below_l1 t n (s.reverse, seen) = some ys ∧ dfs (kat t.l) n s out = out ++ ys ∧ m_syntagmaref13_Below_l1 t n (s.reverse, out) = some ([], out ++ ys)
  | 0, s, out, seen, _, _, _, _, h => by omega
  | n + 1, [], out, seen, _, _, _, _, _ => by
    refine ⟨[], ?_, by simp [dfs], ?_⟩
    · simp only [m_below_l1, List.reverse_nil, List.length_nil]; rfl
    · simp only [m_syntagmaref13_Below_l1, List.reverse_nil, List.length_nil, List.append_nil]; rfl
  | n + 1, x :: s, out, seen, hs, hsl, hse, hB, hn => by
    obtain ⟨x0, x1⟩ := hs x (by simp)
    obtain ⟨i, rfl⟩ := Int.eq_ofNat_of_zero_le x0
    have hi : i < t.l.length := by omega
    have hx : t.l[i]? = some t.l[i] := List.getElem?_eq_getElem hi
    have hv : seen[i]? = some (seen[i]'(by omega)) := List.getElem?_eq_getElem (by omega)
    have hk : kat t.l (i : Int) = kidsL t.l[i] := by unfold kat; rw [Int.toNat_natCast, hx]
    have hkl := kat_len hN (i : Int)
    have hNi := hN _ (List.getElem_mem hi)
    simp only [List.length_cons] at hB hn
    rw [List.reverse_cons]
    have hl1 : (s.reverse ++ [(i : Int)]).length = s.length + 1 := by simp
    simp only [m_below_l1, m_syntagmaref13_Below_l1]
    rw [decide_eq_true (show (0 : Int) < ((s.reverse ++ [(i : Int)]).length : Int) by rw [hl1]; omega), cond_true, grd_pos (by rw [hl1]; omega), lastI, Option.bind_some, grd_pos (by rw [hl1]; omega), initI, Option.bind_some, getI hv, Option.bind_some, cond_true, grd_pos (by rw [hl1]; omega), Option.bind_some, Option.bind_some, grd_pos (by rw [hl1]; omega), Option.bind_some, hasInt_eq out _ (by omega), Option.bind_some]
    have hd : dfs (kat t.l) (n + 1) ((i : Int) :: s) out = if (i : Int) ∈ out then dfs (kat t.l) n s out else dfs (kat t.l) n (kat t.l i ++ s) (out ++ [(i : Int)]) := rfl
    rw [hd]
    by_cases ho : (i : Int) ∈ out
    · have h1 : seen[i]'(by omega) = true := by have := (hse i).2 ⟨ho, hi⟩; rw [hv] at this; exact Option.some.inj this
      rw [h1, cond_true, if_pos ho, decide_eq_true ho, cond_true]
      exact below_lock hR hN hlen n s out seen (fun x hx => hs x (by simp [hx])) hsl hse (by omega) (by omega)
    · have h1 : seen[i]'(by omega) = false := by
        cases hq : seen[i]'(by omega) with
        | false => rfl
        | true => exact absurd ((hse i).1 (by rw [hv, hq])).1 ho
      have hw := wt_add (K := kat t.l) hi ho
      obtain ⟨ys, e1, e2, e3⟩ := below_lock hR hN hlen n (kat t.l i ++ s) (out ++ [(i : Int)]) (seen.set i true) (fun y hy => by
        rcases List.mem_append.1 hy with hy | hy
        · exact kat_in hR _ _ hy
        · exact hs y (by simp [hy])) (by simpa using hsl) (fun j => by
        rw [List.getElem?_set]
        by_cases hij : i = j
        · subst hij; simp; omega
        · rw [if_neg hij, hse j]; simp; omega) (by simp only [List.length_append, List.length_cons, List.length_nil]; omega) (by simp only [List.length_append]; omega)
      rw [h1, cond_false, if_neg ho, decide_eq_false ho, cond_false, getI hx, Option.bind_some, kids_eq _ hNi, Option.bind_some, ← hk, grd_pos (by omega), reverse_eq _ (by omega), Option.bind_some, grd_pos (by simp only [List.length_reverse]; omega), Int.toNat_natCast]
      refine ⟨(i : Int) :: ys, ?_, by rw [e2]; simp, ?_⟩
      · rw [List.reverse_append] at e1
        rw [e1]; rfl
      · rw [grd_pos (by simp only [List.length_cons, List.length_nil]; omega), Option.bind_some, rkids_eq _ hNi, Option.bind_some, ← hk, grd_pos (by omega), push_eq _ (by omega) FU _ _ (Nat.le_refl _) (by rw [FUv]; omega) (by simp only [List.length_reverse]; omega), Option.bind_some, List.take_length]
        rw [List.reverse_append] at e3
        rw [e3]; simp
end Go.Proofs.Ytafphfokopkhdaa
set_option linter.unusedVariables false
set_option linter.unusedSimpArgs false
set_option maxRecDepth 100000
namespace Go.Proofs.Ytafphfokopkhdaa
open Go.V
open Classical
noncomputable def belowL (L : List ApiTNode) (root : Int) : List Int := dfs (kat L) FU [root] []
theorem sum_bound (f : Nat → Nat) (c : Nat) : ∀ l : List Nat, (∀ j ∈ l, f j ≤ c) → (l.map f).sum ≤ l.length * c
  | [], _ => by simp
  | j :: l, h => by
    have h1 := sum_bound f c l (fun k hk => h k (by simp [hk]))
    have h2 := h j (by simp)
    simp only [List.map_cons, List.sum_cons, List.length_cons, Nat.add_mul]
    omega
theorem wt_bound {L : List ApiTNode} (hN : ∀ n ∈ L, NB n) (out : List Int) : wt (kat L) L.length out ≤ L.length * 40 := by
  have := sum_bound (fun (i : Nat) => if (i : Int) ∈ out then 0 else (kat L (i : Int)).length) 40 (List.range L.length) (fun j _ => by
    split
    · omega
    · exact kat_len hN _)
  rw [List.length_range] at this
  exact this
theorem below_eqs {t : ApiType} (hR : InL t.l) (hN : ∀ n ∈ t.l, NB n) (hlen : t.l.length ≤ 2001) {root : Int} (h0 : 0 ≤ root) (h1 : root < (t.l.length : Int)) :
    m_below t root = some (belowL t.l root) ∧ m_syntagmaref13_Below t root = some (belowL t.l root) := by
  have hw := wt_bound hN []
  obtain ⟨ys, e1, e2, e3⟩ := below_lock hR hN hlen FU [root] [] (List.replicate t.l.length false) (fun x hx => by simp at hx; subst hx; exact ⟨h0, h1⟩) (by simp) (fun i => by rw [List.getElem?_replicate]; split <;> simp) (by simp only [List.length_cons, List.length_nil]; omega) (by rw [FUv]; simp only [List.length_cons, List.length_nil]; omega)
  rw [List.nil_append] at e2 e3
  constructor
  · unfold m_below
    rw [grd_pos (by omega), grd_pos (by omega), Int.toNat_natCast]
    show m_below_l1 t FU ([root].reverse, _) = _
    rw [e1, belowL, e2]
  · unfold m_syntagmaref13_Below
    show (m_syntagmaref13_Below_l1 t FU ([root].reverse, [])).bind _ = _
    rw [e3, belowL, e2]; rfl
theorem dfs_props {K : Int → List Int} {D : Int → Prop} (hK : ∀ x, D x → ∀ k ∈ K x, D k) : ∀ (n : Nat) (s out : List Int), (∀ x ∈ s, D x) → (∀ x ∈ out, D x) → out.Nodup → (∀ x ∈ dfs K n s out, D x) ∧ (dfs K n s out).Nodup
  | 0, s, out, _, ho, hn => ⟨ho, hn⟩
  | n + 1, [], out, _, ho, hn => ⟨ho, hn⟩
  | n + 1, x :: s, out, hs, ho, hn => by
    unfold dfs
    split
    · exact dfs_props hK n s out (fun y hy => hs y (by simp [hy])) ho hn
    · rename_i hx
      have hDx := hs x (by simp)
      refine dfs_props hK n _ _ (fun y hy => ?_) (fun y hy => ?_) ?_
      · rcases List.mem_append.1 hy with hy | hy
        · exact hK x hDx y hy
        · exact hs y (by simp [hy])
      · rcases List.mem_append.1 hy with hy | hy
        · exact ho y hy
        · simp at hy; subst hy; exact hDx
      · rw [List.nodup_append]
        refine ⟨hn, by simp, fun a ha b hb e => ?_⟩
        simp at hb
        subst hb e
        exact hx ha
theorem nodup_bound : ∀ (m : Nat) (l : List Int), l.Nodup → (∀ x ∈ l, 0 ≤ x ∧ x < (m : Int)) → l.length ≤ m
  | 0, l, _, h => by
    cases l with
    | nil => simp
    | cons a l => have := h a (by simp); omega
  | m + 1, l, hn, h => by
    have h1 := nodup_bound m (l.erase (m : Int)) (hn.erase _) (fun x hx => by
      have h2 := h x (List.mem_of_mem_erase hx)
      have h3 : x ≠ (m : Int) := fun e => by rw [e] at hx; exact absurd hx (by rw [hn.mem_erase_iff]; simp)
      omega)
    have := List.length_erase_le (a := (m : Int)) (l := l)
    have h4 : l.length ≤ (l.erase (m : Int)).length + 1 := by rw [List.length_erase]; split <;> omega
    omega
theorem belowL_props {L : List ApiTNode} (hR : InL L) {root : Int} (h0 : 0 ≤ root) (h1 : root < (L.length : Int)) : (∀ x ∈ belowL L root, 0 ≤ x ∧ x < (L.length : Int)) ∧ (belowL L root).Nodup ∧ (belowL L root).length ≤ L.length := by
  obtain ⟨a, b⟩ := dfs_props (K := kat L) (D := fun x => 0 ≤ x ∧ x < (L.length : Int)) (fun x _ k hk => kat_in hR x k hk) FU [root] [] (fun x hx => by simp at hx; subst hx; exact ⟨h0, h1⟩) (by simp) (by simp)
  exact ⟨a, b, nodup_bound _ _ b a⟩
end Go.Proofs.Ytafphfokopkhdaa
set_option linter.unusedVariables false
set_option linter.unusedSimpArgs false
set_option maxRecDepth 100000
namespace Go.Proofs.Ytafphfokopkhdaa
open Go.V
open Classical
noncomputable def roundN : ApiType := ⟨[⟨6, 1, 0, []⟩, ⟨3, 0, 0, []⟩], 0⟩
theorem w13n : m_graph_Norm ⟨[⟨3, 0, 0, []⟩, ⟨6, 0, 1, []⟩], 1⟩ = some (roundN, 0) := by kernel_rfl
theorem w13r : m_graph_May ⟨[⟨3, 0, 0, []⟩, ⟨6, 0, 1, []⟩], 1⟩ = some 0 := by kernel_rfl
theorem w13m : m_graph_May roundN = some 0 := by kernel_rfl
theorem w13v : ((m_below roundN roundN.root).bind fun xs1 => m_graph_Vars_r1 roundN xs1 [] : Option (List Int)) = some [] := by kernel_rfl
theorem w13g : m_graph_Ground roundN = some true := by
  unfold m_graph_Ground m_graph_Vars
  rw [w13m, Option.bind_some, Option.bind_some, w13v]
  simp [Lib.compact, Lib.compactUpTo, grd]
theorem works13 : m_syntagmalaw13_works = some true := by
  unfold m_syntagmalaw13_works
  rw [show m_syntagmalaw13_round = some ⟨[⟨3, 0, 0, []⟩, ⟨6, 0, 1, []⟩], 1⟩ from rfl, Option.bind_some, w13n, Option.bind_some]
  dsimp only
  rw [Option.bind_some, w13r, Option.bind_some]
  show (((some true).bind fun p1 => _) : Option Bool) = _
  rw [Option.bind_some, show (⟨roundN.l, roundN.root⟩ : ApiType) = roundN from rfl, w13g]
  rfl
end Go.Proofs.Ytafphfokopkhdaa
set_option linter.unusedVariables false
set_option linter.unusedSimpArgs false
set_option maxRecDepth 100000
namespace Go.Proofs.Ytafphfokopkhdaa
open Go.V
open Classical
def movedN (f : Int → Int) (n : ApiTNode) : ApiTNode := ⟨n.kind, bif pB n.kind then f n.a else n.a, bif pB n.kind then f n.b else n.b, n.l.map (fun x => ⟨x.name, f x.at_⟩)⟩
theorem moved_eq (n : ApiTNode) (p : Int → Option Int) (f : Int → Int) (h : NB n) (h1 : pB n.kind = true → p n.a = some (f n.a) ∧ p n.b = some (f n.b)) (h2 : ∀ x ∈ n.l, p x.at_ = some (f x.at_)) : m_graph_moved n p = some (movedN f n) := by
  unfold m_graph_moved movedN
  unfold NB at h
  rw [show m_graph_pair n.kind = some (pB n.kind) from rfl, Option.bind_some]
  have key : ∀ z1 z2 z3, m_graph_moved_l1 p n.l FU (0, n.l, z1, z2, z3) = some (n.l.map (fun x => ⟨x.name, f x.at_⟩), z1, z2, z3) := by
    intro z1 z2 z3
    refine loop_setmap (φ := fun k i s => m_graph_moved_l1 p n.l k (i, s, z1, z2, z3)) (l := n.l) (fun x => ⟨x.name, f x.at_⟩) (fun s => (s, z1, z2, z3)) ?_ ?_ (by rw [FUv]; omega)
    · intro k i x s hx hi hs hsx
      simp only [m_graph_moved_l1]
      rw [decide_eq_true (show (i : Int) < n.l.length by omega), cond_true, getI hsx, Option.bind_some, h2 x (List.mem_of_getElem? hx), Option.bind_some, Option.bind_some, grd_pos (by omega), Int.toNat_natCast]
    · intro k s hs
      simp only [m_graph_moved_l1]
      rw [decide_eq_false (by omega), cond_false]
  cases hp : pB n.kind with
  | true =>
    obtain ⟨ha, hb⟩ := h1 hp
    rw [cond_true, ha, Option.bind_some, hb, Option.bind_some, Option.bind_some]
    dsimp only
    rw [grd_pos (by omega), key, Option.bind_some]; rfl
  | false =>
    rw [cond_false, Option.bind_some]
    dsimp only
    rw [grd_pos (by omega), key, Option.bind_some]; rfl
theorem right_wide {n : ApiTNode} {all : Int} (h : rightB n all = true) (hw : wB n.kind = false) : n.l = [] := by
  unfold rightB at h
  simp only [Bool.and_eq_true, Bool.not_eq_true'] at h
  have h2 := h.2.2.2.1
  rw [hw, Bool.not_false, Bool.true_and, decide_eq_false_iff_not] at h2
  exact List.length_eq_zero_iff.1 (by omega)
theorem pw_no {k : Int} (h : wB k = true) : pB k = false := by
  unfold wB at h; unfold pB
  rw [Bool.or_eq_true, decide_eq_true_eq, decide_eq_true_eq] at h
  rcases h with h | h <;> rw [h] <;> rfl
/-- What a right node's children's places are. -/
theorem right_kids {n : ApiTNode} {all : Int} (h : rightB n all = true) : (pB n.kind = true → (0 ≤ n.a ∧ n.a < all) ∧ (0 ≤ n.b ∧ n.b < all)) ∧ ∀ x ∈ n.l, 0 ≤ x.at_ ∧ x.at_ < all := by
  have hk := right_in h
  unfold kidsL at hk
  constructor
  · intro hp
    rw [hp, cond_true] at hk
    exact ⟨hk n.a (by simp), hk n.b (by simp)⟩
  · intro x hx
    cases hw : wB n.kind with
    | false => rw [right_wide h hw] at hx; simp at hx
    | true =>
      rw [pw_no hw, cond_false, hw, cond_true] at hk
      exact hk x.at_ (List.mem_map.2 ⟨x, hx, rfl⟩)
noncomputable def graftT (a b : ApiType) : ApiType := ⟨a.l ++ b.l.map (movedN (fun k => k + (a.l.length : Int))), a.root⟩
theorem graft_eq (a b : ApiType) (ha : a.l.length ≤ 4001) (hb : b.l.length ≤ 2001) (hN : ∀ n ∈ b.l, NB n) (hR : AllRight b.l) : m_graph_Graft a b = some (graftT a b, (a.l.length : Int)) := by
  unfold m_graph_Graft
  rw [grd_pos (by omega)]
  rw [loop_map (φ := fun n i s => m_graph_Graft_l1 a b n (i, a.root, s)) (l := b.l) (movedN (fun k => k + (a.l.length : Int))) (fun s => (a.root, s)) a.l.length ?_ ?_ (by rw [FUv]; omega) a.l rfl]
  · rfl
  · intro n i x s hx hi hs
    have hr := right_kids (hR x (List.mem_of_getElem? hx))
    simp only [m_graph_Graft_l1]
    rw [decide_eq_true (show (i : Int) < b.l.length by omega), cond_true, getI hx, Option.bind_some, show (⟨x.kind, x.a, x.b, x.l⟩ : ApiTNode) = x from rfl, moved_eq x _ (fun k => k + (a.l.length : Int)) (hN x (List.mem_of_getElem? hx)) (fun hp => by
      obtain ⟨⟨a0, a1⟩, b0, b1⟩ := hr.1 hp
      unfold m_graph_Graft_1
      rw [grd_pos (by omega), grd_pos (by omega)]; exact ⟨rfl, rfl⟩) (fun y hy => by
      obtain ⟨y0, y1⟩ := hr.2 y hy
      unfold m_graph_Graft_1
      rw [grd_pos (by omega)]), Option.bind_some, grd_pos (by simp only [List.length_cons, List.length_nil]; omega), grd_pos (by omega)]
  · intro n s hs
    simp only [m_graph_Graft_l1]
    rw [decide_eq_false (by omega), cond_false]
theorem field_eqv (x y : ApiTField) : ApiTField.eqv x y = decide (x = y) := by
  obtain ⟨n, a⟩ := x
  obtain ⟨m, b⟩ := y
  unfold ApiTField.eqv
  by_cases h1 : n = m <;> by_cases h2 : a = b <;> simp [h1, h2]
theorem sameF_eq (x y : ApiTNode) (h : x.l.length = y.l.length) (hN : NB x) : m_syntagmaref13_SameList_l2 x y FU 0 = some (if x.l = y.l then .go () else .ret false) := by
  unfold NB at hN
  refine loop_same (φ := m_syntagmaref13_SameList_l2 x y) (l := x.l) (m := y.l) false h ?_ ?_ (by rw [FUv]; omega)
  · intro n i a b ha hb hi
    simp only [m_syntagmaref13_SameList_l2]
    rw [decide_eq_true (show (i : Int) < x.l.length by omega), cond_true, getI ha, Option.bind_some, getI hb, Option.bind_some, field_eqv]
    constructor
    · intro e; rw [decide_eq_true e, Bool.not_true, cond_false, grd_pos (by omega)]
    · intro e; rw [decide_eq_false e, Bool.not_false, cond_true]
  · intro n
    simp only [m_syntagmaref13_SameList_l2]
    rw [decide_eq_false (by omega), cond_false]
theorem node_ext {x y : ApiTNode} : x = y ↔ x.kind = y.kind ∧ x.a = y.a ∧ x.b = y.b ∧ x.l = y.l := by
  obtain ⟨a, b, c, d⟩ := x
  obtain ⟨a', b', c', d'⟩ := y
  simp
theorem sameList_eq (a b : ApiType) (hl : a.l.length ≤ 10000) (hN : ∀ n ∈ a.l, NB n) : m_syntagmaref13_SameList a b = some (decide (a.l = b.l ∧ a.root = b.root)) := by
  unfold m_syntagmaref13_SameList
  by_cases h1 : a.l.length = b.l.length ∧ a.root = b.root
  · rw [decide_eq_true (show (a.l.length : Int) = b.l.length by omega), decide_eq_true h1.2, Bool.not_true, Bool.or_false, cond_false]
    rw [loop_same (φ := m_syntagmaref13_SameList_l1 a b) (l := a.l) (m := b.l) false h1.1 ?_ ?_ (by rw [FUv]; omega), Option.bind_some]
    · by_cases h2 : a.l = b.l
      · rw [if_pos h2, decide_eq_true ⟨h2, h1.2⟩]; rfl
      · rw [if_neg h2, decide_eq_false (fun h => h2 h.1)]; rfl
    · intro n i x y hx hy hi
      simp only [m_syntagmaref13_SameList_l1]
      rw [decide_eq_true (show (i : Int) < a.l.length by omega), cond_true, getI hx, Option.bind_some, getI hy, Option.bind_some]
      by_cases h4 : x.kind = y.kind ∧ x.a = y.a ∧ x.b = y.b ∧ x.l.length = y.l.length
      · obtain ⟨e1, e2, e3, e4⟩ := h4
        rw [decide_eq_true e1, decide_eq_true e2, decide_eq_true e3, decide_eq_true (show (x.l.length : Int) = y.l.length by omega), Bool.not_true, Bool.or_false, Bool.or_false, Bool.or_false, cond_false, sameF_eq x y e4 (hN x (List.mem_of_getElem? hx)), Option.bind_some]
        constructor
        · intro e; rw [if_pos (by rw [e]), go_on, grd_pos (by omega)]
        · intro e; rw [if_neg (fun h => e (node_ext.2 ⟨e1, e2, e3, h⟩))]; rfl
      · rw [show (((!decide (x.kind = y.kind)) || (!decide (x.a = y.a))) || (!decide (x.b = y.b)) || (!decide ((x.l.length : Int) = (y.l.length : Int)))) = true by
          simp only [Bool.or_eq_true, Bool.not_eq_true', decide_eq_false_iff_not]
          refine Classical.byContradiction fun h => h4 ?_
          simp only [not_or, Classical.not_not] at h
          obtain ⟨⟨⟨h5, h6⟩, h7⟩, h8⟩ := h
          exact ⟨h5, h6, h7, by omega⟩, cond_true]
        exact ⟨fun e => absurd (by subst e; exact ⟨rfl, rfl, rfl, rfl⟩) h4, fun _ => rfl⟩
    · intro n
      simp only [m_syntagmaref13_SameList_l1]
      rw [decide_eq_false (by omega), cond_false]
  · rw [show ((!decide ((a.l.length : Int) = (b.l.length : Int))) || (!decide (a.root = b.root))) = true by
      simp only [Bool.or_eq_true, Bool.not_eq_true', decide_eq_false_iff_not]
      refine Classical.byContradiction fun h => h1 ?_
      simp only [not_or, Classical.not_not] at h
      exact ⟨by omega, h.2⟩, cond_true, decide_eq_false (fun h => h1 ⟨by rw [h.1], h.2⟩)]
theorem movedN_nb {n : ApiTNode} {f : Int → Int} (h : NB n) : NB (movedN f n) := by unfold NB movedN at *; simpa using h
theorem graftT_nb {a b : ApiType} (ha : ∀ n ∈ a.l, NB n) (hb : ∀ n ∈ b.l, NB n) : ∀ n ∈ (graftT a b).l, NB n := by
  intro n hn
  rcases List.mem_append.1 hn with hn | hn
  · exact ha n hn
  · obtain ⟨m, hm, rfl⟩ := List.mem_map.1 hn
    exact movedN_nb (hb m hm)
end Go.Proofs.Ytafphfokopkhdaa
set_option linter.unusedVariables false
set_option linter.unusedSimpArgs false
set_option maxRecDepth 100000
namespace Go.Proofs.Ytafphfokopkhdaa
open Go.V
open Classical
def nodeAt (L : List ApiTNode) (x : Int) : ApiTNode := match L[x.toNat]? with
  | some n => n
  | none => ⟨0, 0, 0, []⟩
noncomputable def posOf (B : List Int) (k : Int) : Int := if k ∈ B then ((B.idxOf k : Nat) : Int) else 0
theorem nodeAt_get {L : List ApiTNode} {x : Int} (h0 : 0 ≤ x) (h1 : x < (L.length : Int)) : idx L x = some (nodeAt L x) ∧ nodeAt L x ∈ L := by
  have hn : L[x.toNat]? = some (L[x.toNat]'(by omega)) := List.getElem?_eq_getElem (by omega)
  unfold nodeAt idx
  rw [if_pos h0, hn]
  exact ⟨rfl, List.getElem_mem _⟩
theorem normR_eq : ∀ (xs l : List Int) (mm : List (Int × Int)), xs.Nodup → l.length + xs.length ≤ 1000000 → ∃ mm', m_graph_norm_r1 xs (l, mm) = some (l ++ xs, mm') ∧ ∀ k, mget mm' k = if k ∈ xs then some (((l.length + xs.idxOf k : Nat)) : Int) else mget mm k
  | [], l, mm, _, _ => ⟨mm, by simp [m_graph_norm_r1], fun k => by simp⟩
  | x :: xs, l, mm, hn, hl => by
    rw [List.nodup_cons] at hn
    simp only [List.length_cons] at hl
    obtain ⟨mm', e1, e2⟩ := normR_eq xs (l ++ [x]) (mset mm x (l.length : Int)) hn.2 (by simp only [List.length_append, List.length_cons, List.length_nil]; omega)
    refine ⟨mm', ?_, fun k => ?_⟩
    · unfold m_graph_norm_r1
      rw [grd_pos (by simp only [List.length_cons, List.length_nil]; omega), e1]; simp
    · rw [e2 k, mget_set]
      by_cases hk : k ∈ xs
      · have hkx : ¬ x = k := fun e => hn.1 (e ▸ hk)
        rw [if_pos hk, if_pos (by simp [hk]), List.idxOf_cons]
        have : (x == k) = false := by simp [hkx]
        rw [this]
        simp only [List.length_append, List.length_cons, List.length_nil, cond_false]
        congr 2; omega
      · rw [if_neg hk]
        by_cases hkx : k = x
        · subst hkx
          rw [if_pos rfl, if_pos (by simp), List.idxOf_cons]
          simp
        · rw [if_neg hkx, if_neg (by simp [hk, hkx])]
noncomputable def normL (L : List ApiTNode) (root : Int) : List ApiTNode := (belowL L root).map (fun x => movedN (posOf (belowL L root)) (nodeAt L x))
theorem norm_eq {t : ApiType} (hA : AllRight t.l) (hN : ∀ n ∈ t.l, NB n) (hlen : t.l.length ≤ 2001) {root : Int} (h0 : 0 ≤ root) (h1 : root < (t.l.length : Int)) : m_graph_norm t root = some ⟨normL t.l root, 0⟩ := by
  obtain ⟨b1, b2, b3⟩ := belowL_props (allRight_in hA) h0 h1
  unfold m_graph_norm
  rw [(below_eqs (allRight_in hA) hN hlen h0 h1).1, Option.bind_some]
  generalize hB : belowL t.l root = B at *
  obtain ⟨mm, e1, e2⟩ := normR_eq B [] [] b2 (by simp only [List.length_nil]; omega)
  rw [List.nil_append] at e1
  rw [e1, Option.bind_some]
  dsimp only
  have hp : ∀ k, m_graph_norm_1 k mm = some (posOf B k) := by
    intro k
    unfold m_graph_norm_1 posOf
    rw [e2 k]
    by_cases hk : k ∈ B
    · rw [if_pos hk, if_pos hk]; simp
    · rw [if_neg hk, if_neg hk]; rfl
  rw [loop_map (φ := fun n i s => m_graph_norm_l2 t B mm n (i, s, 0)) (l := B) (fun x => movedN (posOf B) (nodeAt t.l x)) (fun s => (s, 0)) 0 ?_ ?_ (by rw [FUv]; omega) [] rfl]
  · rw [Option.bind_some]
    dsimp only
    unfold normL
    rw [hB]; rfl
  · intro n i x s hx hi hs
    obtain ⟨x0, x1⟩ := b1 x (List.mem_of_getElem? hx)
    obtain ⟨ix, hm⟩ := nodeAt_get x0 x1
    simp only [m_graph_norm_l2]
    rw [decide_eq_true (show (i : Int) < B.length by omega), cond_true, getI hx, Option.bind_some, ix, Option.bind_some, moved_eq _ _ (posOf B) (hN _ hm) (fun _ => ⟨hp _, hp _⟩) (fun y _ => hp _), Option.bind_some, grd_pos (by simp only [List.length_cons, List.length_nil]; omega), grd_pos (by omega)]
  · intro n s hs
    simp only [m_graph_norm_l2]
    rw [decide_eq_false (by omega), cond_false]
end Go.Proofs.Ytafphfokopkhdaa
set_option linter.unusedVariables false
set_option linter.unusedSimpArgs false
set_option maxRecDepth 100000
namespace Go.Proofs.Ytafphfokopkhdaa
open Go.V
open Classical
theorem idxOf_get {B : List Int} {i : Nat} {x : Int} (hn : B.Nodup) (hx : B[i]? = some x) : B.idxOf x = i := by
  have hi := getLt hx
  have e : B[i] = x := by rw [List.getElem?_eq_getElem hi] at hx; exact Option.some.inj hx
  rw [← e]; exact List.Nodup.idxOf_getElem hn i hi
end Go.Proofs.Ytafphfokopkhdaa
set_option linter.unusedVariables false
set_option linter.unusedSimpArgs false
set_option maxRecDepth 100000
namespace Go.Proofs.Ytafphfokopkhdaa
open Go.V
open Classical
theorem eqFields_eq (a b : List ApiTField) (h : a.length ≤ 1000) : m_slices_Equal_api_TField_api_TField a b = some (decide (a = b)) := by
  unfold m_slices_Equal_api_TField_api_TField
  rw [lenNe]
  by_cases hl : a.length = b.length
  · rw [decide_eq_true hl, Bool.not_true, cond_false, loop_same (φ := m_slices_Equal_api_TField_api_TField_l1 a b) (l := a) (m := b) false hl ?_ ?_ (by rw [FUv]; omega), Option.bind_some]
    · by_cases h2 : a = b
      · rw [if_pos h2, decide_eq_true h2]; rfl
      · rw [if_neg h2, decide_eq_false h2]; rfl
    · intro n i x y hx hy hi
      simp only [m_slices_Equal_api_TField_api_TField_l1]
      rw [decide_eq_true (show (i : Int) < a.length by omega), cond_true, getI hx, Option.bind_some, getI hy, Option.bind_some, field_eqv]
      constructor
      · intro e; rw [decide_eq_true e, Bool.not_true, cond_false, grd_pos (by omega)]
      · intro e; rw [decide_eq_false e, Bool.not_false, cond_true]
    · intro n
      simp only [m_slices_Equal_api_TField_api_TField_l1]
      rw [decide_eq_false (by omega), cond_false]
  · rw [decide_eq_false hl, Bool.not_false, cond_true, decide_eq_false (fun h => hl (by rw [h]))]
theorem sameNode_eq (x y : ApiTNode) (h : NB x) : m_graph_sameNode x y = some (decide (x = y)) := by
  unfold m_graph_sameNode
  unfold NB at h
  rw [eqFields_eq _ _ (by omega), Option.bind_some, bf, Option.bind_some]
  congr 1
  by_cases h1 : x = y
  · subst h1; simp
  · rw [decide_eq_false h1]
    refine Bool.eq_false_iff.2 fun h2 => h1 ?_
    simp only [Bool.and_eq_true, decide_eq_true_eq] at h2
    exact node_ext.2 ⟨h2.1.1.1, h2.1.1.2, h2.1.2, h2.2⟩
theorem eqNodes_eq (a b : List ApiTNode) (h : a.length ≤ 10000) (hN : ∀ n ∈ a, NB n) : m_slices_EqualFunc_api_TNode_api_TNode_api_TNode_api_TNode a b (fun y0 y1 => m_graph_sameNode y0 y1) = some (decide (a = b)) := by
  unfold m_slices_EqualFunc_api_TNode_api_TNode_api_TNode_api_TNode
  rw [lenNe]
  by_cases hl : a.length = b.length
  · rw [decide_eq_true hl, Bool.not_true, cond_false, loop_same (φ := m_slices_EqualFunc_api_TNode_api_TNode_api_TNode_api_TNode_l1 a b (fun y0 y1 => m_graph_sameNode y0 y1)) (l := a) (m := b) false hl ?_ ?_ (by rw [FUv]; omega), Option.bind_some]
    · by_cases h2 : a = b
      · rw [if_pos h2, decide_eq_true h2]; rfl
      · rw [if_neg h2, decide_eq_false h2]; rfl
    · intro n i x y hx hy hi
      simp only [m_slices_EqualFunc_api_TNode_api_TNode_api_TNode_api_TNode_l1]
      rw [decide_eq_true (show (i : Int) < a.length by omega), cond_true, getI hx, Option.bind_some, getI hy, Option.bind_some, show m_graph_sameNode (⟨x.kind, x.a, x.b, x.l⟩ : ApiTNode) (⟨y.kind, y.a, y.b, y.l⟩ : ApiTNode) = some (decide (x = y)) from sameNode_eq x y (hN x (List.mem_of_getElem? hx)), Option.bind_some]
      constructor
      · intro e; rw [decide_eq_true e, Bool.not_true, cond_false, grd_pos (by omega)]
      · intro e; rw [decide_eq_false e, Bool.not_false, cond_true]
    · intro n
      simp only [m_slices_EqualFunc_api_TNode_api_TNode_api_TNode_api_TNode_l1]
      rw [decide_eq_false (by omega), cond_false]
  · rw [decide_eq_false hl, Bool.not_false, cond_true, decide_eq_false (fun h => hl (by rw [h]))]
theorem normL_nb {L : List ApiTNode} (hR : InL L) (hN : ∀ n ∈ L, NB n) {root : Int} (h0 : 0 ≤ root) (h1 : root < (L.length : Int)) : (∀ n ∈ normL L root, NB n) ∧ (normL L root).length ≤ L.length := by
  obtain ⟨b1, b2, b3⟩ := belowL_props hR h0 h1
  unfold normL
  refine ⟨fun n hn => ?_, by rw [List.length_map]; exact b3⟩
  obtain ⟨x, hx, rfl⟩ := List.mem_map.1 hn
  obtain ⟨x0, x1⟩ := b1 x hx
  exact movedN_nb (hN _ (nodeAt_get x0 x1).2)
noncomputable def normT (t : ApiType) : ApiType × Int := if mayT t.l t.root = 0 then (⟨normL t.l t.root, 0⟩, 0) else (⟨[], 0⟩, mayT t.l t.root)
theorem Norm_eq (t : ApiType) (hlen : t.l.length ≤ 2001) (hN : ∀ n ∈ t.l, NB n) : m_graph_Norm t = some (normT t) := by
  unfold m_graph_Norm normT
  rw [may_eq t hlen hN, Option.bind_some]
  by_cases h : mayT t.l t.root = 0
  · obtain ⟨_, _, r0, r1, hA, _⟩ := mayT_ok h
    rw [decide_eq_true h, if_pos h, Bool.not_true, cond_false, norm_eq hA hN hlen r0 r1, Option.bind_some]
  · rw [decide_eq_false h, if_neg h]; rfl
noncomputable def atT (t : ApiType) (i : Int) : ApiType × Int := if mayT t.l t.root = 0 then (if i < 0 ∨ (t.l.length : Int) ≤ i then (⟨[], 0⟩, 3) else (⟨normL t.l i, 0⟩, 0)) else (⟨[], 0⟩, mayT t.l t.root)
theorem At_eq (t : ApiType) (i : Int) (hlen : t.l.length ≤ 2001) (hN : ∀ n ∈ t.l, NB n) : m_graph_At t i = some (atT t i) := by
  unfold m_graph_At atT
  rw [may_eq t hlen hN, Option.bind_some]
  by_cases h : mayT t.l t.root = 0
  · obtain ⟨_, _, r0, r1, hA, _⟩ := mayT_ok h
    rw [decide_eq_true h, if_pos h, Bool.not_true, cond_false]
    by_cases hi : i < 0 ∨ (t.l.length : Int) ≤ i
    · rw [if_pos hi, show (decide (i < 0) || decide ((t.l.length : Int) ≤ i)) = true by rw [Bool.or_eq_true, decide_eq_true_eq, decide_eq_true_eq]; exact hi, cond_true]
    · rw [if_neg hi, show (decide (i < 0) || decide ((t.l.length : Int) ≤ i)) = false by rw [Bool.or_eq_false_iff, decide_eq_false_iff_not, decide_eq_false_iff_not]; omega, cond_false, norm_eq hA hN hlen (by omega) (by omega), Option.bind_some]
  · rw [decide_eq_false h, if_neg h]; rfl
end Go.Proofs.Ytafphfokopkhdaa
set_option linter.unusedVariables false
set_option linter.unusedSimpArgs false
set_option maxRecDepth 100000
namespace Go.Proofs.Ytafphfokopkhdaa
open Go.V
open Classical
noncomputable def sameT (a b : ApiType) : Bool := decide (mayT a.l a.root = 0) && (decide (mayT b.l b.root = 0) && decide (normL a.l a.root = normL b.l b.root))
theorem Same_eq (a b : ApiType) (ha : a.l.length ≤ 2001) (hNa : ∀ n ∈ a.l, NB n) (hb : b.l.length ≤ 2001) (hNb : ∀ n ∈ b.l, NB n) : m_graph_Same a b = some (sameT a b) := by
  unfold m_graph_Same sameT
  rw [Norm_eq a ha hNa, Option.bind_some, Norm_eq b hb hNb]
  unfold normT
  by_cases h1 : mayT a.l a.root = 0
  · obtain ⟨_, _, r0, r1, hA, _⟩ := mayT_ok h1
    obtain ⟨n1, n2⟩ := normL_nb (allRight_in hA) hNa r0 r1
    rw [if_pos h1, decide_eq_true h1, Bool.true_and]
    by_cases h2 : mayT b.l b.root = 0
    · rw [if_pos h2, decide_eq_true h2, Bool.true_and]
      dsimp only
      rw [Option.bind_some]
      dsimp only
      rw [eqNodes_eq _ _ (by omega) n1]; rfl
    · rw [if_neg h2, decide_eq_false h2, Bool.false_and]
      dsimp only
      rw [Option.bind_some]
      dsimp only
      rw [decide_eq_false h2, Bool.and_false]; rfl
  · rw [if_neg h1, decide_eq_false h1, Bool.false_and]
    dsimp only
    rw [Option.bind_some]
    rw [decide_eq_false h1, Bool.false_and]; rfl
end Go.Proofs.Ytafphfokopkhdaa
set_option linter.unusedVariables false
set_option linter.unusedSimpArgs false
set_option maxRecDepth 100000
namespace Go.Proofs.Ytafphfokopkhdaa
open Go.V
open Classical
theorem Norm_ok {t : ApiType} (hlen : t.l.length ≤ 2001) (hN : ∀ n ∈ t.l, NB n) (h : mayT t.l t.root = 0) : m_graph_Norm t = some (⟨normL t.l t.root, 0⟩, 0) := by
  rw [Norm_eq t hlen hN]; unfold normT; rw [if_pos h]
theorem Norm_bad {t : ApiType} (hlen : t.l.length ≤ 2001) (hN : ∀ n ∈ t.l, NB n) (h : ¬ mayT t.l t.root = 0) : m_graph_Norm t = some (⟨[], 0⟩, mayT t.l t.root) := by
  rw [Norm_eq t hlen hN]; unfold normT; rw [if_neg h]
end Go.Proofs.Ytafphfokopkhdaa
set_option linter.unusedVariables false
set_option linter.unusedSimpArgs false
set_option maxRecDepth 100000
namespace Go.Proofs.Ytafphfokopkhdaa
open Go.V
open Classical
theorem kidsL_moved (f : Int → Int) (n : ApiTNode) : kidsL (movedN f n) = (kidsL n).map f := by
  unfold kidsL movedN
  dsimp only
  cases pB n.kind
  · cases wB n.kind
    · rfl
    · simp only [cond_false, cond_true, List.map_map]; rfl
  · rfl
theorem movedN_moved (f g : Int → Int) (n : ApiTNode) : movedN f (movedN g n) = movedN (fun k => f (g k)) n := by
  unfold movedN
  dsimp only
  cases pB n.kind <;> simp [List.map_map, Function.comp_def]
theorem movedN_congr {n : ApiTNode} {all : Int} {f g : Int → Int} (hr : rightB n all = true) (h : ∀ k ∈ kidsL n, f k = g k) : movedN f n = movedN g n := by
  have hw := right_wide hr
  unfold kidsL at h
  unfold movedN
  cases hp : pB n.kind with
  | true =>
    rw [hp, cond_true] at h
    have hl : n.l = [] := hw (by
      cases hq : wB n.kind with
      | false => rfl
      | true => rw [pw_no hq] at hp; cases hp)
    rw [hl, cond_true, cond_true, cond_true, cond_true, h n.a (by simp), h n.b (by simp)]
    rfl
  | false =>
    rw [hp, cond_false] at h
    rw [cond_false, cond_false, cond_false, cond_false]
    cases hq : wB n.kind with
    | false => rw [hw hq]; rfl
    | true =>
      rw [hq, cond_true] at h
      congr 1
      exact List.map_congr_left fun x hx => by rw [h x.at_ (List.mem_map.2 ⟨x, hx, rfl⟩)]
theorem named_moved {n : ApiTNode} {f : Int → Int} (h : namedP n) : namedP (movedN f n) := by
  intro i x hx
  have hx2 : (n.l.map (fun x => (⟨x.name, f x.at_⟩ : ApiTField)))[i]? = some x := hx
  rw [List.getElem?_map] at hx2
  cases h0 : n.l[i]? with
  | none => rw [h0] at hx2; cases hx2
  | some x0 =>
    rw [h0] at hx2
    have e := Option.some.inj hx2
    subst e
    obtain ⟨h1, h2⟩ := h i x0 h0
    refine ⟨h1, fun hi y hy => ?_⟩
    have hy2 : (n.l.map (fun x => (⟨x.name, f x.at_⟩ : ApiTField)))[i - 1]? = some y := hy
    rw [List.getElem?_map] at hy2
    cases h3 : n.l[i - 1]? with
    | none => rw [h3] at hy2; cases hy2
    | some y0 =>
      rw [h3] at hy2
      have e := Option.some.inj hy2
      subst e
      exact h2 hi y0 h3
theorem moved_right {n : ApiTNode} {all all' : Int} {f : Int → Int} (h : rightB n all = true) (hf : ∀ k ∈ kidsL n, 0 ≤ f k ∧ f k < all') : rightB (movedN f n) all' = true := by
  unfold rightB at h ⊢
  simp only [Bool.and_eq_true] at h ⊢
  obtain ⟨h1, h2, h3, h4, ⟨h5, h6⟩, _⟩ := h
  refine ⟨h1, ?_, ?_, ?_, ⟨?_, ?_⟩, ?_⟩
  · show (!((!pB n.kind) && ((!decide ((movedN f n).b = 0)) || ((!decide (n.kind = 11)) && (!decide ((movedN f n).a = 0)))))) = true
    cases hp : pB n.kind with
    | true => rfl
    | false =>
      rw [hp] at h2
      unfold movedN
      dsimp only
      rw [hp, cond_false, cond_false]
      exact h2
  · show (!(decide (n.kind = 11) && (decide ((movedN f n).a < 0) || decide (999 < (movedN f n).a)))) = true
    cases hp : pB n.kind with
    | true =>
      have h11 : ¬ n.kind = 11 := fun e => by rw [e] at hp; exact absurd hp (by decide)
      rw [decide_eq_false h11]; rfl
    | false =>
      unfold movedN
      dsimp only
      rw [hp, cond_false]
      exact h3
  · show (!((!wB n.kind) && decide (0 < ((movedN f n).l.length : Int)))) = true
    unfold movedN
    simp only [List.length_map]
    exact h4
  · rw [decide_eq_true_eq] at h5 ⊢
    exact named_moved h5
  · unfold movedN
    simp only [List.length_map]
    exact h6
  · rw [Bool.not_eq_true', decide_eq_false_iff_not]
    rintro ⟨k, hk, hb⟩
    rw [kidsL_moved] at hk
    obtain ⟨q, hq, rfl⟩ := List.mem_map.1 hk
    obtain ⟨q0, q1⟩ := hf q hq
    unfold inB at hb
    rw [Bool.or_eq_true, decide_eq_true_eq, decide_eq_true_eq] at hb
    omega
theorem kat_node (L : List ApiTNode) (x : Int) : kat L x = kidsL (nodeAt L x) := by
  unfold kat nodeAt
  cases L[x.toNat]? <;> rfl
theorem nodeAt_some {L : List ApiTNode} {x : Int} (h0 : 0 ≤ x) (h1 : x < (L.length : Int)) : L[x.toNat]? = some (nodeAt L x) := by
  have hn : L[x.toNat]? = some (L[x.toNat]'(by omega)) := List.getElem?_eq_getElem (by omega)
  unfold nodeAt
  rw [hn]
/-- A part of a graph in another one. -/
structure Emb (L M : List ApiTNode) (B : List Int) (f : Int → Int) : Prop where
  inn : ∀ x ∈ B, 0 ≤ x ∧ x < (L.length : Int)
  closed : ∀ x ∈ B, ∀ k ∈ kidsL (nodeAt L x), k ∈ B
  inj : ∀ x ∈ B, ∀ y ∈ B, f x = f y → x = y
  out : ∀ x ∈ B, 0 ≤ f x ∧ f x < (M.length : Int)
  node : ∀ x ∈ B, nodeAt M (f x) = movedN f (nodeAt L x)
theorem dfs_prefix (K : Int → List Int) : ∀ (n : Nat) (s out : List Int), ∃ ys, dfs K n s out = out ++ ys
  | 0, s, out => ⟨[], by simp [dfs]⟩
  | n + 1, [], out => ⟨[], by simp [dfs]⟩
  | n + 1, x :: s, out => by
    unfold dfs
    split
    · exact dfs_prefix K n s out
    · obtain ⟨ys, e⟩ := dfs_prefix K n (K x ++ s) (out ++ [x])
      exact ⟨[x] ++ ys, by rw [e, List.append_assoc]⟩
theorem dfs_closed {L : List ApiTNode} (hR : InL L) : ∀ (n : Nat) (s out : List Int), (∀ x ∈ s, 0 ≤ x ∧ x < (L.length : Int)) → s.length + wt (kat L) L.length out < n →
    (∀ x ∈ s, x ∈ dfs (kat L) n s out) ∧ (∀ x ∈ dfs (kat L) n s out, x ∈ out ∨ ∀ k ∈ kat L x, k ∈ dfs (kat L) n s out)
  | 0, s, out, _, h => by omega
  | n + 1, [], out, _, _ => ⟨fun x hx => by simp at hx, fun x hx => .inl (by simpa [dfs] using hx)⟩
  | n + 1, x :: s, out, hs, h => by
    obtain ⟨x0, x1⟩ := hs x (by simp)
    simp only [List.length_cons] at h
    unfold dfs
    by_cases hx : x ∈ out
    · rw [if_pos hx]
      obtain ⟨i1, i2⟩ := dfs_closed hR n s out (fun y hy => hs y (by simp [hy])) (by omega)
      obtain ⟨ys, e⟩ := dfs_prefix (kat L) n s out
      refine ⟨fun y hy => ?_, i2⟩
      rcases List.mem_cons.1 hy with rfl | hy
      · rw [e]; exact List.mem_append_left _ hx
      · exact i1 y hy
    · rw [if_neg hx]
      obtain ⟨q, rfl⟩ := Int.eq_ofNat_of_zero_le x0
      have hw := wt_add (K := kat L) (len := L.length) (out := out) (i := q) (by omega) hx
      obtain ⟨i1, i2⟩ := dfs_closed hR n (kat L (q : Int) ++ s) (out ++ [(q : Int)]) (fun y hy => by
        rcases List.mem_append.1 hy with hy | hy
        · exact kat_in hR _ _ hy
        · exact hs y (by simp [hy])) (by rw [List.length_append]; omega)
      obtain ⟨ys, e⟩ := dfs_prefix (kat L) n (kat L (q : Int) ++ s) (out ++ [(q : Int)])
      refine ⟨fun y hy => ?_, fun y hy => ?_⟩
      · rcases List.mem_cons.1 hy with rfl | hy
        · rw [e]; simp
        · exact i1 y (by simp [hy])
      · rcases i2 y hy with h3 | h3
        · rcases List.mem_append.1 h3 with h3 | h3
          · exact .inl h3
          · simp at h3
            subst h3
            exact .inr fun k hk => i1 k (List.mem_append_left _ hk)
        · exact .inr h3
theorem dfs_map {K K' : Int → List Int} {D : Int → Prop} {f : Int → Int} (hK : ∀ x, D x → K' (f x) = (K x).map f ∧ ∀ k ∈ K x, D k) (hi : ∀ x y, D x → D y → f x = f y → x = y) :
    ∀ (n : Nat) (s out : List Int), (∀ x ∈ s, D x) → (∀ x ∈ out, D x) → dfs K' n (s.map f) (out.map f) = (dfs K n s out).map f
  | 0, s, out, _, _ => by simp [dfs]
  | n + 1, [], out, _, _ => by simp [dfs]
  | n + 1, x :: s, out, hs, ho => by
    have hx := hs x (by simp)
    rw [List.map_cons]
    unfold dfs
    have e : f x ∈ out.map f ↔ x ∈ out := ⟨fun h => by
      obtain ⟨y, hy, he⟩ := List.mem_map.1 h
      rw [← hi y x (ho y hy) hx he]; exact hy, fun h => List.mem_map.2 ⟨x, h, rfl⟩⟩
    by_cases hm : x ∈ out
    · rw [if_pos hm, if_pos (e.2 hm)]
      exact dfs_map hK hi n s out (fun y hy => hs y (by simp [hy])) ho
    · rw [if_neg hm, if_neg (fun h => hm (e.1 h)), (hK x hx).1, ← List.map_append, show out.map f ++ [f x] = (out ++ [x]).map f by simp]
      refine dfs_map hK hi n _ _ (fun y hy => ?_) (fun y hy => ?_)
      · rcases List.mem_append.1 hy with hy | hy
        · exact (hK x hx).2 y hy
        · exact hs y (by simp [hy])
      · rcases List.mem_append.1 hy with hy | hy
        · exact ho y hy
        · simp at hy; subst hy; exact hx
theorem below_closed {L : List ApiTNode} (hR : InL L) (hN : ∀ n ∈ L, NB n) (hlen : L.length ≤ 2001) {root : Int} (h0 : 0 ≤ root) (h1 : root < (L.length : Int)) :
    (∀ x ∈ belowL L root, ∀ k ∈ kidsL (nodeAt L x), k ∈ belowL L root) ∧ ∃ ys, belowL L root = root :: ys := by
  have hw := wt_bound hN []
  obtain ⟨i1, i2⟩ := dfs_closed hR FU [root] [] (fun x hx => by simp at hx; subst hx; exact ⟨h0, h1⟩) (by rw [FUv]; simp only [List.length_cons, List.length_nil]; omega)
  refine ⟨fun x hx k hk => ?_, ?_⟩
  · rw [← kat_node] at hk
    rcases i2 x hx with h | h
    · simp at h
    · exact h k hk
  · obtain ⟨m, hm⟩ : ∃ m, FU = m + 1 := ⟨18446744073709551615, by rw [FUv]⟩
    unfold belowL
    rw [hm]
    unfold dfs
    rw [if_neg (by simp)]
    obtain ⟨ys, e⟩ := dfs_prefix (kat L) m (kat L root ++ []) ([] ++ [root])
    exact ⟨ys, by rw [e]; rfl⟩
theorem idxOf_map {f : Int → Int} {k : Int} : ∀ B : List Int, (∀ x ∈ B, f x = f k → x = k) → (B.map f).idxOf (f k) = B.idxOf k
  | [], _ => rfl
  | x :: B, h => by
    rw [List.map_cons, List.idxOf_cons, List.idxOf_cons]
    by_cases e : x = k
    · subst e; simp
    · have e2 : ¬ f x = f k := fun h2 => e (h x (by simp) h2)
      rw [show (f x == f k) = false by simp [e2], show (x == k) = false by simp [e], cond_false, cond_false, idxOf_map B (fun y hy => h y (by simp [hy]))]
theorem emb_below {L M : List ApiTNode} {root : Int} {f : Int → Int} (E : Emb L M (belowL L root) f) (hr : root ∈ belowL L root) : belowL M (f root) = (belowL L root).map f := by
  have := dfs_map (K := kat L) (K' := kat M) (D := fun x => x ∈ belowL L root) (f := f) (fun x hx => ⟨by rw [kat_node, kat_node, E.node x hx, kidsL_moved], fun k hk => by rw [kat_node] at hk; exact E.closed x hx k hk⟩) (fun x y hx hy => E.inj x hx y hy) FU [root] [] (fun x hx => by simp at hx; subst hx; exact hr) (fun x hx => by simp at hx)
  exact this
theorem emb_norm {L M : List ApiTNode} {root : Int} {f : Int → Int} (hA : AllRight L) (E : Emb L M (belowL L root) f) (hr : root ∈ belowL L root) : normL M (f root) = normL L root := by
  unfold normL
  rw [emb_below E hr, List.map_map]
  refine List.map_congr_left fun x hx => ?_
  obtain ⟨x0, x1⟩ := E.inn x hx
  show movedN _ (nodeAt M (f x)) = _
  rw [E.node x hx, movedN_moved]
  refine movedN_congr (hA _ (nodeAt_get x0 x1).2) fun k hk => ?_
  have hkB := E.closed x hx k hk
  show posOf ((belowL L root).map f) (f k) = posOf (belowL L root) k
  unfold posOf
  rw [if_pos hkB, if_pos (List.mem_map.2 ⟨k, hkB, rfl⟩), idxOf_map _ (fun y hy e => E.inj y hy k hkB e)]
theorem emb_ends {L M : List ApiTNode} {B : List Int} {f : Int → Int} (E : Emb L M B f) : ∀ (k : Nat) (x : Int), x ∈ B → endk M k (f x).toNat = endk L k x.toNat
  | 0, _, _ => rfl
  | k + 1, x, hx => by
    obtain ⟨x0, x1⟩ := E.inn x hx
    obtain ⟨y0, y1⟩ := E.out x hx
    unfold endk
    rw [nodeAt_some x0 x1, nodeAt_some y0 y1, E.node x hx]
    show (!latB (nodeAt L x).kind || (endk M k (movedN f (nodeAt L x)).a.toNat && endk M k (movedN f (nodeAt L x)).b.toNat)) = (!latB (nodeAt L x).kind || (endk L k (nodeAt L x).a.toNat && endk L k (nodeAt L x).b.toNat))
    cases hl : latB (nodeAt L x).kind with
    | false => rfl
    | true =>
      have hk := lat_kids hl
      have hc := E.closed x hx
      rw [hk] at hc
      have hp : pB (nodeAt L x).kind = true := by
        unfold latB at hl; unfold pB
        rw [Bool.or_eq_true, decide_eq_true_eq, decide_eq_true_eq] at hl
        rcases hl with h | h <;> rw [h] <;> rfl
      have ha : (movedN f (nodeAt L x)).a = f (nodeAt L x).a := by unfold movedN; rw [hp]; rfl
      have hb : (movedN f (nodeAt L x)).b = f (nodeAt L x).b := by unfold movedN; rw [hp]; rfl
      rw [ha, hb, emb_ends E k _ (hc _ (by simp)), emb_ends E k _ (hc _ (by simp))]
theorem posOf_in {B : List Int} {k : Int} (h : k ∈ B) : 0 ≤ posOf B k ∧ posOf B k < (B.length : Int) := by
  unfold posOf
  rw [if_pos h]
  have := List.idxOf_lt_length_of_mem h
  omega
theorem posOf_get {B : List Int} {k : Int} (h : k ∈ B) : B[(posOf B k).toNat]? = some k := by
  unfold posOf
  rw [if_pos h, Int.toNat_natCast]
  have hlt := List.idxOf_lt_length_of_mem h
  rw [List.getElem?_eq_getElem hlt, List.getElem_idxOf hlt]
theorem posOf_inj {B : List Int} {x y : Int} (hx : x ∈ B) (hy : y ∈ B) (h : posOf B x = posOf B y) : x = y := by
  have h1 := posOf_get hx
  have h2 := posOf_get hy
  rw [h, h2] at h1
  exact (Option.some.inj h1).symm
theorem normL_at {L : List ApiTNode} {root x : Int} (hx : x ∈ belowL L root) : (normL L root)[(posOf (belowL L root) x).toNat]? = some (movedN (posOf (belowL L root)) (nodeAt L x)) := by
  unfold normL
  rw [List.getElem?_map, posOf_get hx]; rfl
theorem normL_len (L : List ApiTNode) (root : Int) : (normL L root).length = (belowL L root).length := by unfold normL; rw [List.length_map]
/-- In order, with something behind it. -/
theorem emb_left {L : List ApiTNode} {root : Int} (hR : InL L) (hN : ∀ n ∈ L, NB n) (hlen : L.length ≤ 2001) (h0 : 0 ≤ root) (h1 : root < (L.length : Int)) (X : List ApiTNode) :
    Emb L (normL L root ++ X) (belowL L root) (posOf (belowL L root)) := by
  obtain ⟨b1, b2, b3⟩ := belowL_props hR h0 h1
  refine ⟨b1, (below_closed hR hN hlen h0 h1).1, fun x hx y hy => posOf_inj hx hy, fun x hx => ?_, fun x hx => ?_⟩
  · have := posOf_in hx
    rw [List.length_append, normL_len]; omega
  · have h2 := normL_at hx
    have h3 := getLt h2
    unfold nodeAt
    rw [List.getElem?_append_left h3, h2]
    rfl
/-- In order, behind something. -/
theorem emb_right {L : List ApiTNode} {root : Int} (hR : InL L) (hN : ∀ n ∈ L, NB n) (hlen : L.length ≤ 2001) (h0 : 0 ≤ root) (h1 : root < (L.length : Int)) (X : List ApiTNode) :
    Emb L (X ++ (normL L root).map (movedN (fun k => k + (X.length : Int)))) (belowL L root) (fun k => posOf (belowL L root) k + (X.length : Int)) := by
  obtain ⟨b1, b2, b3⟩ := belowL_props hR h0 h1
  refine ⟨b1, (below_closed hR hN hlen h0 h1).1, fun x hx y hy h => posOf_inj hx hy (by omega), fun x hx => ?_, fun x hx => ?_⟩
  · have := posOf_in hx
    rw [List.length_append, List.length_map, normL_len]; omega
  · have h2 := normL_at hx
    have h4 := posOf_in hx
    have h5 : (posOf (belowL L root) x + (X.length : Int)).toNat = X.length + (posOf (belowL L root) x).toNat := by omega
    have h6 : (X ++ (normL L root).map (movedN (fun k => k + (X.length : Int))))[(posOf (belowL L root) x + (X.length : Int)).toNat]? = some (movedN (fun k => k + (X.length : Int)) (movedN (posOf (belowL L root)) (nodeAt L x))) := by
      rw [h5, List.getElem?_append_right (by omega), Nat.add_sub_cancel_left, List.getElem?_map, h2]; rfl
    unfold nodeAt
    rw [h6, movedN_moved]
    rfl
theorem mayT_of {L : List ApiTNode} {r : Int} (h1 : 0 < L.length) (h2 : L.length ≤ 2000) (h3 : 0 ≤ r) (h4 : r < (L.length : Int)) (h5 : AllRight L) (h6 : AllEnds L) : mayT L r = 0 := by
  unfold mayT
  rw [if_neg (by omega), if_neg (by omega), if_pos ⟨h5, h6⟩]
theorem normL_right {L : List ApiTNode} {root : Int} (hA : AllRight L) (hN : ∀ n ∈ L, NB n) (hlen : L.length ≤ 2001) (h0 : 0 ≤ root) (h1 : root < (L.length : Int)) (f : Int → Int) (all : Int) (hf : ∀ k, 0 ≤ k → k < ((normL L root).length : Int) → 0 ≤ f k ∧ f k < all) :
    ∀ n ∈ normL L root, rightB (movedN f n) all = true := by
  obtain ⟨b1, b2, b3⟩ := belowL_props (allRight_in hA) h0 h1
  intro n hn
  unfold normL at hn
  obtain ⟨x, hx, rfl⟩ := List.mem_map.1 hn
  obtain ⟨x0, x1⟩ := b1 x hx
  rw [movedN_moved]
  refine moved_right (hA _ (nodeAt_get x0 x1).2) fun k hk => ?_
  have hp := posOf_in ((below_closed (allRight_in hA) hN hlen h0 h1).1 x hx k hk)
  rw [← normL_len] at hp
  exact hf _ hp.1 hp.2
theorem movedN_id (n : ApiTNode) : movedN (fun k => k) n = n := by
  unfold movedN
  cases pB n.kind <;> simp
theorem ends_all {L M : List ApiTNode} {root : Int} {f : Int → Int} (hE : AllEnds L) (E : Emb L M (belowL L root) f) {x : Int} (hx : x ∈ belowL L root) : Ends M (f x).toNat := by
  obtain ⟨x0, x1⟩ := E.inn x hx
  obtain ⟨k, hk⟩ := hE x.toNat (by omega)
  exact ⟨k, by rw [emb_ends E k x hx]; exact hk⟩
/-- Two types in order, put together. -/
theorem join_ok {L M : List ApiTNode} {r s : Int} (hl : mayT L r = 0) (hm : mayT M s = 0) (hN : ∀ n ∈ L, NB n) (hM : ∀ n ∈ M, NB n) (hLM : L.length + M.length ≤ 2000) :
    mayT (normL L r ++ (normL M s).map (movedN (fun k => k + ((normL L r).length : Int)))) 0 = 0 ∧
    normL (normL L r ++ (normL M s).map (movedN (fun k => k + ((normL L r).length : Int)))) 0 = normL L r ∧
    normL (normL L r ++ (normL M s).map (movedN (fun k => k + ((normL L r).length : Int)))) ((normL L r).length : Int) = normL M s := by
  obtain ⟨_, l2, l3, l4, lA, lE⟩ := mayT_ok hl
  obtain ⟨_, m2, m3, m4, mA, mE⟩ := mayT_ok hm
  obtain ⟨_, ys, ey⟩ := below_closed (allRight_in lA) hN (by omega) l3 l4
  obtain ⟨_, zs, ez⟩ := below_closed (allRight_in mA) hM (by omega) m3 m4
  have hr : r ∈ belowL L r := by rw [ey]; simp
  have hs : s ∈ belowL M s := by rw [ez]; simp
  have pr : posOf (belowL L r) r = 0 := by unfold posOf; rw [if_pos hr, ey]; simp
  have ps : posOf (belowL M s) s = 0 := by unfold posOf; rw [if_pos hs, ez]; simp
  have El := emb_left (allRight_in lA) hN (by omega) l3 l4 ((normL M s).map (movedN (fun k => k + ((normL L r).length : Int))))
  have Em := emb_right (allRight_in mA) hM (by omega) m3 m4 (normL L r)
  obtain ⟨_, n2⟩ := normL_nb (allRight_in lA) hN l3 l4
  obtain ⟨_, n4⟩ := normL_nb (allRight_in mA) hM m3 m4
  have hl0 : 0 < (normL L r).length := by rw [normL_len, ey]; simp
  refine ⟨?_, ?_, ?_⟩
  · refine mayT_of (by rw [List.length_append]; omega) (by rw [List.length_append, List.length_map]; omega) (by omega) (by rw [List.length_append]; omega) ?_ ?_
    · intro n hn
      rw [List.length_append, List.length_map]
      rcases List.mem_append.1 hn with hn | hn
      · have := normL_right lA hN (by omega) l3 l4 (fun k => k) (((normL L r).length + (normL M s).length : Nat) : Int) (fun k k0 k1 => ⟨k0, by omega⟩) n hn
        rwa [movedN_id] at this
      · obtain ⟨n', hn', rfl⟩ := List.mem_map.1 hn
        exact normL_right mA hM (by omega) m3 m4 (fun k => k + ((normL L r).length : Int)) _ (fun k k0 k1 => ⟨by omega, by omega⟩) n' hn'
    · intro i hi
      rw [List.length_append, List.length_map] at hi
      by_cases hc : i < (normL L r).length
      · have hb : i < (belowL L r).length := by rw [← normL_len]; exact hc
        have hx : (belowL L r)[i]? = some ((belowL L r)[i]) := List.getElem?_eq_getElem hb
        have hm2 := List.mem_of_getElem? hx
        have h3 := ends_all lE El hm2
        have h4 : posOf (belowL L r) ((belowL L r)[i]) = (i : Int) := by
          unfold posOf
          rw [if_pos hm2, idxOf_get (belowL_props (allRight_in lA) l3 l4).2.1 hx]
        rw [h4, Int.toNat_natCast] at h3
        exact h3
      · have hb : i - (normL L r).length < (belowL M s).length := by rw [← normL_len]; omega
        have hx : (belowL M s)[i - (normL L r).length]? = some ((belowL M s)[i - (normL L r).length]) := List.getElem?_eq_getElem hb
        have hm2 := List.mem_of_getElem? hx
        have h3 := ends_all mE Em hm2
        have h4 : posOf (belowL M s) ((belowL M s)[i - (normL L r).length]) = ((i - (normL L r).length : Nat) : Int) := by
          unfold posOf
          rw [if_pos hm2, idxOf_get (belowL_props (allRight_in mA) m3 m4).2.1 hx]
        rw [h4, show (((i - (normL L r).length : Nat) : Int) + ((normL L r).length : Int)).toNat = i by omega] at h3
        exact h3
  · have := emb_norm lA El hr
    rwa [pr] at this
  · have := emb_norm mA Em hs
    rwa [ps, Int.zero_add] at this
theorem alone_ok {L : List ApiTNode} {r : Int} (hl : mayT L r = 0) (hN : ∀ n ∈ L, NB n) (hlen : L.length ≤ 2000) : mayT (normL L r) 0 = 0 ∧ normL (normL L r) 0 = normL L r := by
  obtain ⟨_, l2, l3, l4, lA, lE⟩ := mayT_ok hl
  obtain ⟨_, ys, ey⟩ := below_closed (allRight_in lA) hN (by omega) l3 l4
  have hr : r ∈ belowL L r := by rw [ey]; simp
  have pr : posOf (belowL L r) r = 0 := by unfold posOf; rw [if_pos hr, ey]; simp
  have El := emb_left (allRight_in lA) hN (by omega) l3 l4 []
  rw [List.append_nil] at El
  obtain ⟨_, n2⟩ := normL_nb (allRight_in lA) hN l3 l4
  have hl0 : 0 < (normL L r).length := by rw [normL_len, ey]; simp
  refine ⟨?_, ?_⟩
  · refine mayT_of hl0 (by omega) (by omega) (by omega) ?_ ?_
    · intro n hn
      have := normL_right lA hN (by omega) l3 l4 (fun k => k) ((normL L r).length : Int) (fun k k0 k1 => ⟨k0, k1⟩) n hn
      rwa [movedN_id] at this
    · intro i hi
      have hb : i < (belowL L r).length := by rw [← normL_len]; exact hi
      have hx : (belowL L r)[i]? = some ((belowL L r)[i]) := List.getElem?_eq_getElem hb
      have hm2 := List.mem_of_getElem? hx
      have h3 := ends_all lE El hm2
      have h4 : posOf (belowL L r) ((belowL L r)[i]) = (i : Int) := by
        unfold posOf
        rw [if_pos hm2, idxOf_get (belowL_props (allRight_in lA) l3 l4).2.1 hx]
      rw [h4, Int.toNat_natCast] at h3
      exact h3
  · have := emb_norm lA El hr
    rwa [pr] at this
theorem few_60 {t : ApiType} (h : (fewT t).l.length ≤ 2000) : (fewT t).l.length ≤ 60 := by
  unfold fewT fewC at *
  simp only [List.length_map, List.length_take] at *
  split at h <;> split <;> omega
theorem law_GraphStays (a b : ApiType) : m_syntagmalaw13_GraphStays a b = some true := by
  have hla := fewT_len a
  have hNa := fewT_nb a
  have hlb := fewT_len b
  have hNb := fewT_nb b
  have h6a := few_60 (t := a)
  have h6b := few_60 (t := b)
  unfold m_syntagmalaw13_GraphStays
  rw [works13, Option.bind_some, Bool.not_true, cond_false, show m_syntagmalaw13_Few (⟨a.l, a.root⟩ : ApiType) 60 = some (fewT a) from few_eq a, Option.bind_some, show m_syntagmalaw13_Few (⟨b.l, b.root⟩ : ApiType) 60 = some (fewT b) from few_eq b, Option.bind_some]
  generalize fewT a = x at *
  generalize fewT b = y at *
  by_cases h : mayT x.l x.root = 0
  · by_cases h2 : mayT y.l y.root = 0
    · obtain ⟨_, x2, x3, x4, xA, xE⟩ := mayT_ok h
      obtain ⟨_, y2, y3, y4, yA, yE⟩ := mayT_ok h2
      have l6 := h6a x2
      have l7 := h6b y2
      obtain ⟨n1, n2⟩ := normL_nb (allRight_in xA) hNa x3 x4
      obtain ⟨n3, n4⟩ := normL_nb (allRight_in yA) hNb y3 y4
      obtain ⟨a1, a2⟩ := alone_ok h hNa (by omega)
      obtain ⟨a3, a4⟩ := alone_ok h2 hNb (by omega)
      obtain ⟨j1, j2, j3⟩ := join_ok h h2 hNa hNb (by omega)
      have hlenZ : (graftT ⟨normL x.l x.root, 0⟩ ⟨normL y.l y.root, 0⟩).l.length = (normL x.l x.root).length + (normL y.l y.root).length := by unfold graftT; simp only [List.length_append, List.length_map]
      have hNZ := graftT_nb (a := ⟨normL x.l x.root, 0⟩) (b := ⟨normL y.l y.root, 0⟩) n1 n3
      have e1 : m_graph_Norm (⟨x.l, x.root⟩ : ApiType) = some (⟨normL x.l x.root, 0⟩, 0) := Norm_ok hla hNa h
      have e2 : m_graph_Norm (⟨y.l, y.root⟩ : ApiType) = some (⟨normL y.l y.root, 0⟩, 0) := Norm_ok hlb hNb h2
      have e3 : m_graph_Norm (⟨normL x.l x.root, 0⟩ : ApiType) = some (⟨normL x.l x.root, 0⟩, 0) := by
        rw [Norm_ok (t := ⟨normL x.l x.root, 0⟩) (by show (normL x.l x.root).length ≤ _; omega) n1 a1]
        show some ((⟨normL (normL x.l x.root) 0, 0⟩ : ApiType), (0 : Int)) = _
        rw [a2]
      have e4 := graft_eq ⟨normL x.l x.root, 0⟩ ⟨normL y.l y.root, 0⟩ (by show (normL x.l x.root).length ≤ _; omega) (by show (normL y.l y.root).length ≤ _; omega) n3 (mayT_ok a3).2.2.2.2.1
      have e5 : m_graph_At (⟨(graftT ⟨normL x.l x.root, 0⟩ ⟨normL y.l y.root, 0⟩).l, (graftT ⟨normL x.l x.root, 0⟩ ⟨normL y.l y.root, 0⟩).root⟩ : ApiType) ((normL x.l x.root).length : Int) = some (⟨normL y.l y.root, 0⟩, 0) := by
        have hl0 : 0 < (normL y.l y.root).length := (mayT_ok a3).1
        rw [show (⟨(graftT ⟨normL x.l x.root, 0⟩ ⟨normL y.l y.root, 0⟩).l, (graftT ⟨normL x.l x.root, 0⟩ ⟨normL y.l y.root, 0⟩).root⟩ : ApiType) = graftT ⟨normL x.l x.root, 0⟩ ⟨normL y.l y.root, 0⟩ from rfl, At_eq _ _ (by omega) hNZ]
        unfold atT
        rw [if_pos (show mayT (graftT ⟨normL x.l x.root, 0⟩ ⟨normL y.l y.root, 0⟩).l (graftT ⟨normL x.l x.root, 0⟩ ⟨normL y.l y.root, 0⟩).root = 0 from j1), if_neg (by omega), show normL (graftT ⟨normL x.l x.root, 0⟩ ⟨normL y.l y.root, 0⟩).l ((normL x.l x.root).length : Int) = normL y.l y.root from j3]
      have e6 : m_graph_Norm (⟨(graftT ⟨normL x.l x.root, 0⟩ ⟨normL y.l y.root, 0⟩).l, (graftT ⟨normL x.l x.root, 0⟩ ⟨normL y.l y.root, 0⟩).root⟩ : ApiType) = some (⟨normL x.l x.root, 0⟩, 0) := by
        rw [show (⟨(graftT ⟨normL x.l x.root, 0⟩ ⟨normL y.l y.root, 0⟩).l, (graftT ⟨normL x.l x.root, 0⟩ ⟨normL y.l y.root, 0⟩).root⟩ : ApiType) = graftT ⟨normL x.l x.root, 0⟩ ⟨normL y.l y.root, 0⟩ from rfl, Norm_ok (by omega) hNZ j1,
          show normL (graftT ⟨normL x.l x.root, 0⟩ ⟨normL y.l y.root, 0⟩).l (graftT ⟨normL x.l x.root, 0⟩ ⟨normL y.l y.root, 0⟩).root = normL x.l x.root from j2]
      have e7 : m_graph_Same (⟨x.l, x.root⟩ : ApiType) (⟨normL x.l x.root, 0⟩ : ApiType) = some true := by
        rw [Same_eq (⟨x.l, x.root⟩ : ApiType) (⟨normL x.l x.root, 0⟩ : ApiType) hla hNa (by show (normL x.l x.root).length ≤ _; omega) n1]
        unfold sameT
        rw [decide_eq_true (show mayT x.l x.root = 0 from h), decide_eq_true (show mayT (normL x.l x.root) 0 = 0 from a1), decide_eq_true (show normL x.l x.root = normL (normL x.l x.root) 0 from a2.symm)]; rfl
      have s1 : ∀ (l : List ApiTNode), l.length ≤ 2000 → (∀ n ∈ l, NB n) → m_syntagmaref13_SameList (⟨l, 0⟩ : ApiType) ⟨l, 0⟩ = some true := fun l hl hn => by
        rw [sameList_eq _ _ (by show l.length ≤ _; omega) hn, decide_eq_true ⟨rfl, rfl⟩]
      rw [e1, Option.bind_some]
      dsimp only
      rw [e2, Option.bind_some]
      dsimp only
      rw [show ((!decide ((0 : Int) = 0)) || (!decide ((0 : Int) = 0))) = false by decide, cond_false, e3, Option.bind_some]
      dsimp only
      rw [e4, Option.bind_some]
      dsimp only
      rw [e5, Option.bind_some]
      dsimp only
      rw [e6, Option.bind_some]
      dsimp only
      rw [show ((decide ((0 : Int) = 0) && decide ((0 : Int) = 0)) && decide ((0 : Int) = 0)) = true by decide, cond_true, s1 _ (by omega) n1, Option.bind_some, Option.bind_some, cond_true, s1 _ (by omega) n3, Option.bind_some, Option.bind_some, cond_true, Option.bind_some, cond_true, e7]
      rfl
    · rw [show m_graph_Norm (⟨x.l, x.root⟩ : ApiType) = some (⟨normL x.l x.root, 0⟩, 0) from Norm_ok hla hNa h, Option.bind_some]
      dsimp only
      rw [show m_graph_Norm (⟨y.l, y.root⟩ : ApiType) = some (⟨[], 0⟩, mayT y.l y.root) from Norm_bad hlb hNb h2, Option.bind_some]
      dsimp only
      rw [decide_eq_false h2]
      simp
  · rw [show m_graph_Norm (⟨x.l, x.root⟩ : ApiType) = some (⟨[], 0⟩, mayT x.l x.root) from Norm_bad hla hNa h, Option.bind_some]
    dsimp only
    by_cases h2 : mayT y.l y.root = 0
    · rw [show m_graph_Norm (⟨y.l, y.root⟩ : ApiType) = some (⟨normL y.l y.root, 0⟩, 0) from Norm_ok hlb hNb h2, Option.bind_some]
      dsimp only
      rw [decide_eq_false h]
      simp
    · rw [show m_graph_Norm (⟨y.l, y.root⟩ : ApiType) = some (⟨[], 0⟩, mayT y.l y.root) from Norm_bad hlb hNb h2, Option.bind_some]
      dsimp only
      rw [decide_eq_false h]
      simp
end Go.Proofs.Ytafphfokopkhdaa
