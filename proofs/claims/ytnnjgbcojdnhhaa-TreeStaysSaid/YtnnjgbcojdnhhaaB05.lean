/- Part B05 of the proof: contracts of the functions that are walked, and what they compute; no condition. -/
import Derived.Test.YtnnjgbcojdnhhaaB05x2
set_option linter.unusedVariables false
set_option linter.unusedSimpArgs false
set_option maxRecDepth 100000
set_option maxHeartbeats 2000000
namespace Go.Proofs.Ytnnjgbcojdnhhaa
open Go.V
theorem w_syntagmalaw05_TreeNorms {a1 : ApiExpr} {b1 : ApiExpr} {i1 : Int} {r : Bool} (hm : m_syntagmalaw05_TreeNorms a1 b1 i1 = some r) : Fn0 Try.prog 7 [ApiExpr.d a1, ApiExpr.d b1, .i64 i1] (.bool r) := by
  unfold m_syntagmalaw05_TreeNorms at hm
  refine fn_intro Try.func7 rfl Try.ntmps7 rfl fun H0 fr w0 => ?_
  refine g_seq ?_
  refine g_region ?_
  refine go_op rfl rfl rfl (o_box_own rfl rfl rfl) ?_
  rintro _ _ ⟨b1, rfl, rfl⟩
  refine go_op rfl rfl rfl (o_box_own rfl rfl rfl) ?_
  rintro _ _ ⟨b2, rfl, rfl⟩
  refine go_p rfl rfl rfl (o_assign rfl) ?_
  refine go_nil ?_
  refine g_seq ?_
  obtain ⟨x1, hx1, hm⟩ := bind_some hm
  obtain ⟨x2, hx2, hm⟩ := bind_some hm
  refine g_draw 4 Try_mixed (by decide +kernel) ?_
  refine gd_p rfl rfl rfl (o_load_box_agg 1 Try.isAgg37 Try.sizeOf37 rfl rfl rfl rfl (Nat.le_of_ble_eq_true rfl)) ?_
  refine gd_p rfl rfl rfl (o_call0 Try.call25 rfl (w_syntagmalaw05_Few hx1)) ?_
  refine gd_p rfl rfl rfl (o_load_box_agg 0 Try.isAgg37 Try.sizeOf37 rfl rfl rfl rfl (Nat.le_of_ble_eq_true rfl)) ?_
  refine gd_p rfl rfl rfl (o_call0 Try.call25 rfl (w_syntagmalaw05_Few hx2)) ?_
  refine gd_nil ?_
  refine go_u rfl rfl (o_store_box 1 Try.sizeOf37 rfl rfl rfl rfl rfl rfl rfl rfl (Nat.le_of_ble_eq_true rfl)) ?_
  rintro _ _ rfl
  refine go_ms (ms' := [box b2 37 [_], box b1 37 [_]]) rfl ?_
  refine go_u rfl rfl (o_store_box 0 Try.sizeOf37 rfl rfl rfl rfl rfl rfl rfl rfl (Nat.le_of_ble_eq_true rfl)) ?_
  rintro _ _ rfl
  refine go_ms (ms' := [box b2 37 [_], box b1 37 [_]]) rfl ?_
  refine go_nil ?_
  refine g_seq ?_
  refine g_region ?_
  refine go_p rfl rfl rfl (o_load_box_agg 1 Try.isAgg37 Try.sizeOf37 rfl rfl rfl rfl (Nat.le_of_ble_eq_true rfl)) ?_
  obtain ⟨x3, hx3, hm⟩ := bind_some hm
  refine go_p rfl rfl rfl (o_call0 Try.call25 rfl (w_syntagmalaw05_Few hx3)) ?_
  obtain ⟨⟨x4, x5⟩, hx4, hm⟩ := bind_some hm
  refine go_p rfl rfl rfl (o_call0 Try.call37 rfl (w_tree_Norm hx4)) ?_
  refine go_p rfl rfl rfl (o_move rfl) ?_
  refine go_p rfl rfl rfl (o_extract rfl rfl) ?_
  refine go_p rfl rfl rfl (o_extract rfl rfl) ?_
  refine go_op rfl rfl rfl (o_alloc_own Try.zeroValue37 (cs := [.list 9 ApiNode.d []]) rfl) ?_
  rintro _ _ ⟨b3, rfl, rfl⟩
  refine go_u rfl rfl (o_store_box 0 Try.sizeOf37 rfl rfl rfl rfl rfl rfl rfl rfl (Nat.le_of_ble_eq_true rfl)) ?_
  rintro _ _ rfl
  refine go_ms (ms' := [box b3 37 [_], box b2 37 [_], box b1 37 [_]]) rfl ?_
  refine go_p rfl rfl rfl (o_assign rfl) ?_
  refine go_nil ?_
  refine g_seq ?_
  refine g_region ?_
  refine go_p rfl rfl rfl (o_load_box_agg 2 Try.isAgg37 Try.sizeOf37 rfl rfl rfl rfl (Nat.le_of_ble_eq_true rfl)) ?_
  obtain ⟨x6, hx5, hm⟩ := bind_some hm
  refine go_p rfl rfl rfl (o_call0 Try.call25 rfl (w_syntagmalaw05_Few hx5)) ?_
  refine go_p rfl rfl rfl (o_move rfl) ?_
  obtain ⟨⟨x7, x8⟩, hx6, hm⟩ := bind_some hm
  refine go_p rfl rfl rfl (o_call0 Try.call38 rfl (w_tree_Sub hx6)) ?_
  refine go_p rfl rfl rfl (o_move rfl) ?_
  refine go_p rfl rfl rfl (o_extract rfl rfl) ?_
  refine go_p rfl rfl rfl (o_extract rfl rfl) ?_
  refine go_op rfl rfl rfl (o_alloc_own Try.zeroValue37 (cs := [.list 9 ApiNode.d []]) rfl) ?_
  rintro _ _ ⟨b4, rfl, rfl⟩
  refine go_u rfl rfl (o_store_box 0 Try.sizeOf37 rfl rfl rfl rfl rfl rfl rfl rfl (Nat.le_of_ble_eq_true rfl)) ?_
  rintro _ _ rfl
  refine go_ms (ms' := [box b4 37 [_], box b3 37 [_], box b2 37 [_], box b1 37 [_]]) rfl ?_
  refine go_p rfl rfl rfl (o_assign rfl) ?_
  refine go_nil ?_
  refine g_seq ?_
  refine g_region ?_
  refine go_p rfl rfl rfl (o_load_box_agg 3 Try.isAgg37 Try.sizeOf37 rfl rfl rfl rfl (Nat.le_of_ble_eq_true rfl)) ?_
  obtain ⟨x9, hx7, hm⟩ := bind_some hm
  refine go_p rfl rfl rfl (o_call0 Try.call25 rfl (w_syntagmalaw05_Few hx7)) ?_
  obtain ⟨x10, hx8, hm⟩ := bind_some hm
  refine go_p rfl rfl rfl (o_call0 Try.call39 rfl (w_tree_Parents hx8)) ?_
  refine go_p rfl rfl rfl (o_assign rfl) ?_
  refine go_nil ?_
  refine g_seq ?_
  refine g_seq ?_
  obtain ⟨x11, hx9, hm⟩ := bind_some hm
  obtain ⟨x12, hx10, hm⟩ := bind_some hm
  obtain ⟨x13, hx11, hm⟩ := bind_some hm
  obtain ⟨x14, hx12, hm⟩ := bind_some hm
  refine g_draw 9 Try_mixed (by decide +kernel) ?_
  refine gd_p rfl rfl rfl (o_load_box_agg 3 Try.isAgg37 Try.sizeOf37 rfl rfl rfl rfl (Nat.le_of_ble_eq_true rfl)) ?_
  refine gd_p rfl rfl rfl (o_call0 Try.call25 rfl (w_syntagmalaw05_Few hx9)) ?_
  refine gd_p rfl rfl rfl (o_load_box_agg 2 Try.isAgg37 Try.sizeOf37 rfl rfl rfl rfl (Nat.le_of_ble_eq_true rfl)) ?_
  refine gd_p rfl rfl rfl (o_call0 Try.call25 rfl (w_syntagmalaw05_Few hx10)) ?_
  refine gd_p rfl rfl rfl (o_call0 Try.call40 rfl (w_tree_Same hx11)) ?_
  refine gd_p rfl rfl rfl (o_load_box_agg 3 Try.isAgg37 Try.sizeOf37 rfl rfl rfl rfl (Nat.le_of_ble_eq_true rfl)) ?_
  refine gd_p rfl rfl rfl (o_load_box_agg 2 Try.isAgg37 Try.sizeOf37 rfl rfl rfl rfl (Nat.le_of_ble_eq_true rfl)) ?_
  refine gd_p rfl rfl rfl (o_call0 Try.call41 rfl (w_syntagmaref05_Same hx12)) ?_
  refine gd_p rfl rfl rfl (o_neqb Try.runUnderlying4 rfl rfl) ?_
  refine gd_nil ?_
  refine go_nil ?_
  refine g_cond rfl (fun hc1 => ?_) (fun hc1 => ?_)
  · replace hm := cond_t hc1 hm
    refine g_seq ?_
    refine g_region ?_
    refine go_p rfl rfl rfl (o_assign rfl) ?_
    refine go_nil ?_
    refine g_ret ?_
    exact retK (ret_one' rfl (ret_tmp rfl) (perm_drop _)) (congrArg (fun (p : Bool) => (.bool p : D)) (some_eq hm))
  · replace hm := cond_f hc1 hm
    refine g_skip ?_
    refine g_seq ?_
    refine g_seq ?_
    refine g_region ?_
    refine go_p rfl rfl rfl (o_load_box_agg 3 Try.isAgg37 Try.sizeOf37 rfl rfl rfl rfl (Nat.le_of_ble_eq_true rfl)) ?_
    obtain ⟨x15, hx13, hm⟩ := bind_some hm
    refine go_p rfl rfl rfl (o_call0 Try.call26 rfl (w_syntagmaref05_May hx13)) ?_
    refine go_p rfl rfl rfl (o_assign rfl) ?_
    refine go_nil ?_
    refine g_seq ?_
    refine g_region ?_
    refine go_p rfl rfl rfl (o_move rfl) ?_
    refine go_p rfl rfl rfl (o_cmp rfl rfl rfl) ?_
    refine go_nil ?_
    refine g_cond rfl (fun hc2 => ?_) (fun hc2 => ?_)
    · replace hm := cond_t hc2 hm
      refine g_seq ?_
      refine g_region ?_
      refine go_p rfl rfl rfl (o_move rfl) ?_
      refine go_p rfl rfl rfl (o_move rfl) ?_
      refine go_p rfl rfl rfl (o_cmp rfl rfl rfl) ?_
      refine go_p rfl rfl rfl (o_move rfl) ?_
      apply go_and [(7, _), (9, _), (11, _)] 4 56 (t := 52) ⟨rfl, rfl, rfl, trivial⟩ rfl
      · intro hg_1 hk1
        refine go_wantp rfl rfl rfl hg_1 rfl rfl (o_move rfl) ?_
        refine go_wantp rfl rfl rfl hg_1 rfl rfl (o_move rfl) ?_
        refine go_wantp rfl rfl rfl hg_1 rfl rfl (o_cmp rfl rfl rfl) ?_
        refine go_p rfl rfl rfl (o_pickT rfl hg_1 rfl) ?_
        exact go_meet hk1 (rfl) ⟨rfl, rfl, rfl, trivial⟩
      · intro hg_1 hk1
        refine go_skip rfl rfl rfl hg_1 rfl rfl ?_
        refine go_skip rfl rfl rfl hg_1 rfl rfl ?_
        refine go_skip rfl rfl rfl hg_1 rfl rfl ?_
        refine go_p rfl rfl rfl (o_pickF rfl hg_1 rfl) ?_
        exact go_meet hk1 (rfl) ⟨rfl, rfl, rfl, trivial⟩
      refine go_p rfl rfl rfl (o_move rfl) ?_
      obtain ⟨p1, hp_2, hm⟩ := bind_some hm
      refine go_two [] 12 69 p1 (t := 57) trivial rfl (fun hg_2 hk2 => ?_) (fun hg_2 hk2 => ?_) ?_
      · replace hp_2 := cond_t hg_2 hp_2
        refine go_wantp rfl rfl rfl hg_2 rfl rfl (o_fieldAddr_box fi_37_0 rfl) ?_
        refine go_wantp rfl rfl rfl hg_2 rfl rfl (o_load_box 1 Try.isAgg35 rfl rfl rfl rfl) ?_
        refine go_wantp rfl rfl rfl hg_2 rfl rfl (o_len Try.runUnderlying35 rfl) ?_
        refine go_wantp rfl rfl rfl hg_2 rfl rfl (o_fieldAddr_box fi_37_0 rfl) ?_
        refine go_wantp rfl rfl rfl hg_2 rfl rfl (o_load_box 0 Try.isAgg35 rfl rfl rfl rfl) ?_
        refine go_wantp rfl rfl rfl hg_2 rfl rfl (o_len Try.runUnderlying35 rfl) ?_
        obtain ⟨hg14, hp_2⟩ := grd_some hp_2
        refine go_wantp rfl rfl rfl hg_2 rfl rfl (o_add rfl rfl (i64_id hg14)) ?_
        refine go_wantp rfl rfl rfl hg_2 rfl rfl (o_move rfl) ?_
        refine go_wantp rfl rfl rfl hg_2 rfl rfl (o_len Try.runUnderlying46 rfl) ?_
        obtain ⟨hg15, hp_2⟩ := grd_some hp_2
        refine go_wantp rfl rfl rfl hg_2 rfl rfl (o_add rfl rfl (i64_id hg15)) ?_
        refine go_wantp rfl rfl rfl hg_2 rfl rfl (o_cmp rfl rfl rfl) ?_
        refine go_p rfl rfl rfl (o_pickT rfl hg_2 rfl) ?_
        exact go_meet hk2 (congrArg (fun b => some (D.bool b)) (some_eq hp_2)) trivial
      · replace hp_2 := cond_f hg_2 hp_2
        refine go_skip rfl rfl rfl hg_2 rfl rfl ?_
        refine go_skip rfl rfl rfl hg_2 rfl rfl ?_
        refine go_skip rfl rfl rfl hg_2 rfl rfl ?_
        refine go_skip rfl rfl rfl hg_2 rfl rfl ?_
        refine go_skip rfl rfl rfl hg_2 rfl rfl ?_
        refine go_skip rfl rfl rfl hg_2 rfl rfl ?_
        refine go_skip rfl rfl rfl hg_2 rfl rfl ?_
        refine go_skip rfl rfl rfl hg_2 rfl rfl ?_
        refine go_skip rfl rfl rfl hg_2 rfl rfl ?_
        refine go_skip rfl rfl rfl hg_2 rfl rfl ?_
        refine go_skip rfl rfl rfl hg_2 rfl rfl ?_
        refine go_p rfl rfl rfl (o_pickF rfl hg_2 rfl) ?_
        exact go_meet hk2 (congrArg (fun b => some (D.bool b)) (some_eq hp_2)) trivial
      refine go_p rfl rfl rfl (o_move rfl) ?_
      obtain ⟨p2, hp_3, hm⟩ := bind_some hm
      refine go_two [] 2 72 p2 (t := 70) trivial rfl (fun hg_3 hk3 => ?_) (fun hg_3 hk3 => ?_) ?_
      · replace hp_3 := cond_t hg_3 hp_3
        obtain ⟨x16, hx16, hp_3⟩ := bind_some hp_3
        refine go_wantp rfl rfl rfl hg_3 rfl rfl (o_call0 Try.call33 rfl (w_syntagmalaw05_works hx16)) ?_
        refine go_p rfl rfl rfl (o_pickT rfl hg_3 rfl) ?_
        exact go_meet hk3 (congrArg (fun b => some (D.bool b)) (some_eq hp_3)) trivial
      · replace hp_3 := cond_f hg_3 hp_3
        refine go_skip rfl rfl rfl hg_3 rfl rfl ?_
        refine go_p rfl rfl rfl (o_pickF rfl hg_3 rfl) ?_
        exact go_meet hk3 (congrArg (fun b => some (D.bool b)) (some_eq hp_3)) trivial
      refine go_p rfl rfl rfl (o_assign rfl) ?_
      refine go_nil ?_
      refine g_ret ?_
      exact retK (ret_one' rfl (ret_tmp rfl) (perm_drop _)) (congrArg (fun (p : Bool) => (.bool p : D)) (some_eq hm))
    · replace hm := cond_f hc2 hm
      refine g_skip ?_
      refine g_seq ?_
      refine g_seq ?_
      rcases cond_split hm with ⟨hg_4, hm⟩ | ⟨hg_4, hm⟩
      ·
        skip
        refine g_draw 26 Try_mixed (by decide +kernel) ?_
        refine gd_p rfl rfl rfl (o_move rfl) ?_
        refine gd_p rfl rfl rfl (o_cmp rfl rfl rfl) ?_
        refine gd_p rfl rfl rfl (o_move rfl) ?_
        refine gd_skip rfl rfl rfl hg_4 rfl rfl ?_
        refine gd_skip rfl rfl rfl hg_4 rfl rfl ?_
        refine gd_skip rfl rfl rfl hg_4 rfl rfl ?_
        refine gd_skip rfl rfl rfl hg_4 rfl rfl ?_
        refine gd_skip rfl rfl rfl hg_4 rfl rfl ?_
        refine gd_p rfl rfl rfl (o_pickT rfl hg_4 rfl) ?_
        refine gd_p rfl rfl rfl (o_move rfl) ?_
        refine gd_skip rfl rfl rfl rfl rfl rfl ?_
        refine gd_skip rfl rfl rfl rfl rfl rfl ?_
        refine gd_skip rfl rfl rfl rfl rfl rfl ?_
        refine gd_skip rfl rfl rfl rfl rfl rfl ?_
        refine gd_skip rfl rfl rfl rfl rfl rfl ?_
        refine gd_skip rfl rfl rfl rfl rfl rfl ?_
        refine gd_p rfl rfl rfl (o_pickT rfl rfl rfl) ?_
        refine gd_p rfl rfl rfl (o_move rfl) ?_
        refine gd_skip rfl rfl rfl rfl rfl rfl ?_
        refine gd_skip rfl rfl rfl rfl rfl rfl ?_
        refine gd_skip rfl rfl rfl rfl rfl rfl ?_
        refine gd_skip rfl rfl rfl rfl rfl rfl ?_
        refine gd_skip rfl rfl rfl rfl rfl rfl ?_
        refine gd_skip rfl rfl rfl rfl rfl rfl ?_
        refine gd_skip rfl rfl rfl rfl rfl rfl ?_
        refine gd_p rfl rfl rfl (o_pickT rfl rfl rfl) ?_
        refine gd_nil ?_
        refine go_nil ?_
        refine g_cond_true rfl rfl ?_
        refine g_seq ?_
        refine g_region ?_
        refine go_p rfl rfl rfl (o_assign rfl) ?_
        refine go_nil ?_
        refine g_ret ?_
        exact retK (ret_one' rfl (ret_tmp rfl) (perm_drop _)) (congrArg (fun (p : Bool) => (.bool p : D)) (some_eq hm))
      ·
        skip
        obtain ⟨x17, hx17, hm⟩ := bind_some hm
        obtain ⟨x18, hx18, hm⟩ := bind_some hm
        rcases cond_split hm with ⟨hg_5, hm⟩ | ⟨hg_5, hm⟩
        ·
          skip
          refine g_draw 26 Try_mixed (by decide +kernel) ?_
          refine gd_p rfl rfl rfl (o_move rfl) ?_
          refine gd_p rfl rfl rfl (o_cmp rfl rfl rfl) ?_
          refine gd_p rfl rfl rfl (o_move rfl) ?_
          refine gd_want rfl rfl rfl hg_4 rfl rfl (o_load_box_agg 1 Try.isAgg37 Try.sizeOf37 rfl rfl rfl rfl (Nat.le_of_ble_eq_true rfl)) ?_
          refine gd_want rfl rfl rfl hg_4 rfl rfl (o_load_box_agg 3 Try.isAgg37 Try.sizeOf37 rfl rfl rfl rfl (Nat.le_of_ble_eq_true rfl)) ?_
          refine gd_want rfl rfl rfl hg_4 rfl rfl (o_call0 Try.call42 rfl (w_syntagmaref05_Norm hx17)) ?_
          refine gd_want rfl rfl rfl hg_4 rfl rfl (o_call0 Try.call34 rfl (w_syntagmaref05_SameList hx18)) ?_
          refine gd_want rfl rfl rfl hg_4 rfl rfl (o_not rfl) ?_
          refine gd_p rfl rfl rfl (o_pickF rfl hg_4 rfl) ?_
          refine gd_p rfl rfl rfl (o_move rfl) ?_
          refine gd_skip rfl rfl rfl hg_5 rfl rfl ?_
          refine gd_skip rfl rfl rfl hg_5 rfl rfl ?_
          refine gd_skip rfl rfl rfl hg_5 rfl rfl ?_
          refine gd_skip rfl rfl rfl hg_5 rfl rfl ?_
          refine gd_skip rfl rfl rfl hg_5 rfl rfl ?_
          refine gd_skip rfl rfl rfl hg_5 rfl rfl ?_
          refine gd_p rfl rfl rfl (o_pickT rfl hg_5 rfl) ?_
          refine gd_p rfl rfl rfl (o_move rfl) ?_
          refine gd_skip rfl rfl rfl rfl rfl rfl ?_
          refine gd_skip rfl rfl rfl rfl rfl rfl ?_
          refine gd_skip rfl rfl rfl rfl rfl rfl ?_
          refine gd_skip rfl rfl rfl rfl rfl rfl ?_
          refine gd_skip rfl rfl rfl rfl rfl rfl ?_
          refine gd_skip rfl rfl rfl rfl rfl rfl ?_
          refine gd_skip rfl rfl rfl rfl rfl rfl ?_
          refine gd_p rfl rfl rfl (o_pickT rfl rfl rfl) ?_
          refine gd_nil ?_
          refine go_nil ?_
          refine g_cond_true rfl rfl ?_
          refine g_seq ?_
          refine g_region ?_
          refine go_p rfl rfl rfl (o_assign rfl) ?_
          refine go_nil ?_
          refine g_ret ?_
          exact retK (ret_one' rfl (ret_tmp rfl) (perm_drop _)) (congrArg (fun (p : Bool) => (.bool p : D)) (some_eq hm))
        ·
          skip
          rcases cond_split hm with ⟨hg_6, hm⟩ | ⟨hg_6, hm⟩
          ·
            skip
            refine g_draw 26 Try_mixed (by decide +kernel) ?_
            refine gd_p rfl rfl rfl (o_move rfl) ?_
            refine gd_p rfl rfl rfl (o_cmp rfl rfl rfl) ?_
            refine gd_p rfl rfl rfl (o_move rfl) ?_
            refine gd_want rfl rfl rfl hg_4 rfl rfl (o_load_box_agg 1 Try.isAgg37 Try.sizeOf37 rfl rfl rfl rfl (Nat.le_of_ble_eq_true rfl)) ?_
            refine gd_want rfl rfl rfl hg_4 rfl rfl (o_load_box_agg 3 Try.isAgg37 Try.sizeOf37 rfl rfl rfl rfl (Nat.le_of_ble_eq_true rfl)) ?_
            refine gd_want rfl rfl rfl hg_4 rfl rfl (o_call0 Try.call42 rfl (w_syntagmaref05_Norm hx17)) ?_
            refine gd_want rfl rfl rfl hg_4 rfl rfl (o_call0 Try.call34 rfl (w_syntagmaref05_SameList hx18)) ?_
            refine gd_want rfl rfl rfl hg_4 rfl rfl (o_not rfl) ?_
            refine gd_p rfl rfl rfl (o_pickF rfl hg_4 rfl) ?_
            refine gd_p rfl rfl rfl (o_move rfl) ?_
            refine gd_want rfl rfl rfl hg_5 rfl rfl (o_move rfl) ?_
            refine gd_want rfl rfl rfl hg_5 rfl rfl (o_len Try.runUnderlying46 rfl) ?_
            refine gd_want rfl rfl rfl hg_5 rfl rfl (o_fieldAddr_box fi_37_0 rfl) ?_
            refine gd_want rfl rfl rfl hg_5 rfl rfl (o_load_box 3 Try.isAgg35 rfl rfl rfl rfl) ?_
            refine gd_want rfl rfl rfl hg_5 rfl rfl (o_len Try.runUnderlying35 rfl) ?_
            refine gd_want rfl rfl rfl hg_5 rfl rfl (o_cmp rfl rfl rfl) ?_
            refine gd_p rfl rfl rfl (o_pickF rfl hg_5 rfl) ?_
            refine gd_p rfl rfl rfl (o_move rfl) ?_
            refine gd_skip rfl rfl rfl hg_6 rfl rfl ?_
            refine gd_skip rfl rfl rfl hg_6 rfl rfl ?_
            refine gd_skip rfl rfl rfl hg_6 rfl rfl ?_
            refine gd_skip rfl rfl rfl hg_6 rfl rfl ?_
            refine gd_skip rfl rfl rfl hg_6 rfl rfl ?_
            refine gd_skip rfl rfl rfl hg_6 rfl rfl ?_
            refine gd_skip rfl rfl rfl hg_6 rfl rfl ?_
            refine gd_p rfl rfl rfl (o_pickT rfl hg_6 rfl) ?_
            refine gd_nil ?_
            refine go_nil ?_
            refine g_cond_true rfl rfl ?_
            refine g_seq ?_
            refine g_region ?_
            refine go_p rfl rfl rfl (o_assign rfl) ?_
            refine go_nil ?_
            refine g_ret ?_
            exact retK (ret_one' rfl (ret_tmp rfl) (perm_drop _)) (congrArg (fun (p : Bool) => (.bool p : D)) (some_eq hm))
          ·
            skip
            obtain ⟨hg19, hm⟩ := grd_some hm
            obtain ⟨x19, hx20, hm⟩ := bind_some hm
            refine g_draw 26 Try_mixed (by decide +kernel) ?_
            refine gd_p rfl rfl rfl (o_move rfl) ?_
            refine gd_p rfl rfl rfl (o_cmp rfl rfl rfl) ?_
            refine gd_p rfl rfl rfl (o_move rfl) ?_
            refine gd_want rfl rfl rfl hg_4 rfl rfl (o_load_box_agg 1 Try.isAgg37 Try.sizeOf37 rfl rfl rfl rfl (Nat.le_of_ble_eq_true rfl)) ?_
            refine gd_want rfl rfl rfl hg_4 rfl rfl (o_load_box_agg 3 Try.isAgg37 Try.sizeOf37 rfl rfl rfl rfl (Nat.le_of_ble_eq_true rfl)) ?_
            refine gd_want rfl rfl rfl hg_4 rfl rfl (o_call0 Try.call42 rfl (w_syntagmaref05_Norm hx17)) ?_
            refine gd_want rfl rfl rfl hg_4 rfl rfl (o_call0 Try.call34 rfl (w_syntagmaref05_SameList hx18)) ?_
            refine gd_want rfl rfl rfl hg_4 rfl rfl (o_not rfl) ?_
            refine gd_p rfl rfl rfl (o_pickF rfl hg_4 rfl) ?_
            refine gd_p rfl rfl rfl (o_move rfl) ?_
            refine gd_want rfl rfl rfl hg_5 rfl rfl (o_move rfl) ?_
            refine gd_want rfl rfl rfl hg_5 rfl rfl (o_len Try.runUnderlying46 rfl) ?_
            refine gd_want rfl rfl rfl hg_5 rfl rfl (o_fieldAddr_box fi_37_0 rfl) ?_
            refine gd_want rfl rfl rfl hg_5 rfl rfl (o_load_box 3 Try.isAgg35 rfl rfl rfl rfl) ?_
            refine gd_want rfl rfl rfl hg_5 rfl rfl (o_len Try.runUnderlying35 rfl) ?_
            refine gd_want rfl rfl rfl hg_5 rfl rfl (o_cmp rfl rfl rfl) ?_
            refine gd_p rfl rfl rfl (o_pickF rfl hg_5 rfl) ?_
            refine gd_p rfl rfl rfl (o_move rfl) ?_
            refine gd_want rfl rfl rfl hg_6 rfl rfl (o_move rfl) ?_
            refine gd_want rfl rfl rfl hg_6 rfl rfl (o_move rfl) ?_
            refine gd_want rfl rfl rfl hg_6 rfl rfl (o_len Try.runUnderlying46 rfl) ?_
            refine gd_want rfl rfl rfl hg_6 rfl rfl (o_sub rfl rfl (i64_id hg19)) ?_
            refine gd_want rfl rfl rfl hg_6 rfl rfl (o_indexAddr_m Try.runUnderlying46 Try.sizeOf3 rfl rfl hx20) ?_
            refine gd_want rfl rfl rfl hg_6 rfl rfl (o_load Try.isAgg3 rfl rfl) ?_
            refine gd_want rfl rfl rfl hg_6 rfl rfl (o_cmp rfl rfl rfl) ?_
            refine gd_p rfl rfl rfl (o_pickF rfl hg_6 rfl) ?_
            refine gd_nil ?_
            refine go_nil ?_
            refine g_cond rfl (fun hc3 => ?_) (fun hc3 => ?_)
            · replace hm := cond_t hc3 hm
              refine g_seq ?_
              refine g_region ?_
              refine go_p rfl rfl rfl (o_assign rfl) ?_
              refine go_nil ?_
              refine g_ret ?_
              exact retK (ret_one' rfl (ret_tmp rfl) (perm_drop _)) (congrArg (fun (p : Bool) => (.bool p : D)) (some_eq hm))
            · replace hm := cond_f hc3 hm
              refine g_skip ?_
              refine g_seq ?_
              refine g_seq ?_
              refine g_region ?_
              refine go_p rfl rfl rfl (o_assign rfl) ?_
              refine go_nil ?_
              obtain ⟨o_1, hj1, hm1⟩ := bind_some hm
              refine g_cut_m [(2, _), (3, _), (9, _), (10, _)] [(0, _), (1, _), (2, _), (3, _)] (fun (st : Unit) (hid : Unit) => match st, hid with | _, _ => []) (fun F (st : Unit) (hid : Unit) => match st, hid with | _, _ => [(nthF F 0), (nthF F 1), (nthF F 2), (nthF F 3)]) (fun st => Out.go (st) = o_1) ⟨rfl, rfl, rfl, rfl, trivial⟩ ⟨rfl, rfl, rfl, rfl, trivial⟩ ?_ ?_
              · skip
                refine g_block ?_
                refine g_loop_m [(2, _), (3, _), (9, _), (10, _), (11, _)] [(0, _), (1, _), (2, _), (3, _)] (fun (st : Int) (hid : Unit) => match st, hid with | k1, _ => [(13, .i64 k1)]) (fun F (st : Int) (hid : Unit) => match st, hid with | k1, _ => [(nthF F 0), (nthF F 1), (nthF F 2), (nthF F 3)]) () hj1 (fun _ => rfl) ⟨rfl, rfl, rfl, rfl, rfl, trivial⟩ ⟨rfl, rfl, rfl, rfl, trivial⟩ ⟨rfl, trivial⟩ rfl ?_
                rintro n k1 _ hj1
                rw [m_syntagmalaw05_TreeNorms_l1] at hj1
                refine g_norm (L' := [(13, .i64 k1), (2, _), (3, _), (9, _), (10, _), (11, _)]) (ms' := [_, _, _, _]) rfl rfl ?_
                refine g_seq ?_
                refine g_seq ?_
                refine g_region ?_
                refine go_p rfl rfl rfl (o_move rfl) ?_
                refine go_p rfl rfl rfl (o_fieldAddr_box fi_37_0 rfl) ?_
                refine go_p rfl rfl rfl (o_load_box 3 Try.isAgg35 rfl rfl rfl rfl) ?_
                refine go_p rfl rfl rfl (o_len Try.runUnderlying35 rfl) ?_
                refine go_p rfl rfl rfl (o_cmp rfl rfl rfl) ?_
                refine go_nil ?_
                refine g_cond rfl (fun hc4 => ?_) (fun hc4 => ?_)
                · replace hj1 := cond_t hc4 hj1
                  refine g_skip ?_
                  refine g_seq ?_
                  refine g_block ?_
                  refine g_seq ?_
                  refine g_region ?_
                  refine go_p rfl rfl rfl (o_fieldAddr_box fi_37_0 rfl) ?_
                  refine go_p rfl rfl rfl (o_load_box 3 Try.isAgg35 rfl rfl rfl rfl) ?_
                  refine go_p rfl rfl rfl (o_move rfl) ?_
                  obtain ⟨x20, hx21, hj1⟩ := bind_some hj1
                  refine go_p rfl rfl rfl (o_indexAddr_m Try.runUnderlying35 Try.sizeOf40 rfl rfl hx21) ?_
                  refine go_p rfl rfl rfl (o_load_agg Try.isAgg40 Try.sizeOf40 rfl rfl) ?_
                  obtain ⟨x21, hx22, hj1⟩ := bind_some hj1
                  refine go_p rfl rfl rfl (o_call0 Try.call32 rfl (w_syntagmaref05_Kids hx22)) ?_
                  refine go_p rfl rfl rfl (o_assign rfl) ?_
                  refine go_nil ?_
                  refine g_seq ?_
                  refine g_region ?_
                  refine go_p rfl rfl rfl (o_assign rfl) ?_
                  refine go_nil ?_
                  obtain ⟨o_2, hj2, hm2⟩ := bind_some hj1
                  refine g_cut_m [(2, _), (3, _), (9, _), (10, _), (11, _), (13, _)] [(0, _), (1, _), (2, _), (3, _)] (fun (st : Unit) (hid : Unit) => match st, hid with | _, _ => []) (fun F (st : Unit) (hid : Unit) => match st, hid with | _, _ => [(nthF F 0), (nthF F 1), (nthF F 2), (nthF F 3)]) (fun st => Out.go (st) = o_2) ⟨rfl, rfl, rfl, rfl, rfl, rfl, trivial⟩ ⟨rfl, rfl, rfl, rfl, trivial⟩ ?_ ?_
                  · skip
                    refine g_block ?_
                    refine g_loop_m [(2, _), (3, _), (9, _), (10, _), (11, _), (13, _), (14, _)] [(0, _), (1, _), (2, _), (3, _)] (fun (st : Int) (hid : Unit) => match st, hid with | j1, _ => [(15, .i64 j1)]) (fun F (st : Int) (hid : Unit) => match st, hid with | j1, _ => [(nthF F 0), (nthF F 1), (nthF F 2), (nthF F 3)]) () hj2 (fun _ => rfl) ⟨rfl, rfl, rfl, rfl, rfl, rfl, rfl, trivial⟩ ⟨rfl, rfl, rfl, rfl, trivial⟩ ⟨rfl, trivial⟩ rfl ?_
                    rintro n j1 _ hj2
                    rw [m_syntagmalaw05_TreeNorms_l2] at hj2
                    refine g_norm (L' := [(15, .i64 j1), (2, _), (3, _), (9, _), (10, _), (11, _), (13, _), (14, _)]) (ms' := [_, _, _, _]) rfl rfl ?_
                    refine g_seq ?_
                    refine g_seq ?_
                    refine g_region ?_
                    refine go_p rfl rfl rfl (o_move rfl) ?_
                    refine go_p rfl rfl rfl (o_move rfl) ?_
                    refine go_p rfl rfl rfl (o_len Try.runUnderlying46 rfl) ?_
                    refine go_p rfl rfl rfl (o_cmp rfl rfl rfl) ?_
                    refine go_nil ?_
                    refine g_cond rfl (fun hc5 => ?_) (fun hc5 => ?_)
                    · replace hj2 := cond_t hc5 hj2
                      refine g_skip ?_
                      refine g_seq ?_
                      refine g_block ?_
                      refine g_seq ?_
                      refine g_region ?_
                      refine go_p rfl rfl rfl (o_move rfl) ?_
                      refine go_p rfl rfl rfl (o_move rfl) ?_
                      refine go_p rfl rfl rfl (o_move rfl) ?_
                      obtain ⟨x22, hx23, hj2⟩ := bind_some hj2
                      refine go_p rfl rfl rfl (o_indexAddr_m Try.runUnderlying46 Try.sizeOf3 rfl rfl hx23) ?_
                      refine go_p rfl rfl rfl (o_load Try.isAgg3 rfl rfl) ?_
                      obtain ⟨x23, hx24, hj2⟩ := bind_some hj2
                      refine go_p rfl rfl rfl (o_indexAddr_m Try.runUnderlying46 Try.sizeOf3 rfl rfl hx24) ?_
                      refine go_p rfl rfl rfl (o_load Try.isAgg3 rfl rfl) ?_
                      refine go_p rfl rfl rfl (o_move rfl) ?_
                      refine go_p rfl rfl rfl (o_cmp rfl rfl rfl) ?_
                      refine go_nil ?_
                      refine g_cond rfl (fun hc6 => ?_) (fun hc6 => ?_)
                      · replace hj2 := cond_t hc6 hj2
                        refine g_seq ?_
                        refine g_region ?_
                        refine go_p rfl rfl rfl (o_assign rfl) ?_
                        refine go_nil ?_
                        refine g_ret ?_
                        obtain rfl := some_eq hj2
                        replace hm2 := on_ret hm2
                        obtain rfl := some_eq hm2
                        replace hm1 := on_ret hm1
                        exact retK (ret_one' rfl (ret_tmp rfl) (perm_drop _)) (congrArg (fun (p : Bool) => (.bool p : D)) (some_eq hm1))
                      · replace hj2 := cond_f hc6 hj2
                        refine g_skip ?_
                        refine g_region ?_
                        refine go_p rfl rfl rfl (o_move rfl) ?_
                        obtain ⟨hg25, hj2⟩ := grd_some hj2
                        refine go_p rfl rfl rfl (o_add rfl rfl (i64_id hg25)) ?_
                        refine go_p rfl rfl rfl (o_assign rfl) ?_
                        refine go_nil ?_
                        exact ⟨_, (), hj2, ⟨rfl, trivial⟩, ⟨rfl, rfl, rfl, rfl, rfl, rfl, rfl, trivial⟩, [], rfl⟩
                    · replace hj2 := cond_f hc5 hj2
                      refine g_exit ?_
                      exact ⟨_, (), some_eq hj2, trivial, ⟨rfl, rfl, rfl, rfl, rfl, rfl, trivial⟩, [], rfl⟩
                  · rintro _ _ hst
                    subst hst
                    replace hm2 := on_go hm2
                    refine k_norm (L' := [(2, _), (3, _), (9, _), (10, _), (11, _), (13, _)]) (ms' := [_, _, _, _]) rfl rfl ?_
                    refine g_region ?_
                    refine go_p rfl rfl rfl (o_move rfl) ?_
                    obtain ⟨hg26, hm2⟩ := grd_some hm2
                    refine go_p rfl rfl rfl (o_add rfl rfl (i64_id hg26)) ?_
                    refine go_p rfl rfl rfl (o_assign rfl) ?_
                    refine go_nil ?_
                    exact ⟨_, (), hm2, ⟨rfl, trivial⟩, ⟨rfl, rfl, rfl, rfl, rfl, trivial⟩, [], rfl⟩
                · replace hj1 := cond_f hc4 hj1
                  refine g_exit ?_
                  exact ⟨_, (), some_eq hj1, trivial, ⟨rfl, rfl, rfl, rfl, trivial⟩, [], rfl⟩
              · rintro _ _ hst
                subst hst
                replace hm1 := on_go hm1
                refine k_norm (L' := [(2, _), (3, _), (9, _), (10, _)]) (ms' := [_, _, _, _]) rfl rfl ?_
                refine g_seq ?_
                refine g_seq ?_
                refine g_region ?_
                refine go_p rfl rfl rfl (o_move rfl) ?_
                refine go_p rfl rfl rfl (o_cmp rfl rfl rfl) ?_
                refine go_p rfl rfl rfl (o_move rfl) ?_
                apply go_or [(2, _), (3, _), (9, _), (10, _)] 6 135 (t := 129) ⟨rfl, rfl, rfl, rfl, trivial⟩ rfl
                · intro hg_7 hk7
                  refine go_wantp rfl rfl rfl hg_7 rfl rfl (o_move rfl) ?_
                  refine go_wantp rfl rfl rfl hg_7 rfl rfl (o_fieldAddr_box fi_37_0 rfl) ?_
                  refine go_wantp rfl rfl rfl hg_7 rfl rfl (o_load_box 3 Try.isAgg35 rfl rfl rfl rfl) ?_
                  refine go_wantp rfl rfl rfl hg_7 rfl rfl (o_len Try.runUnderlying35 rfl) ?_
                  refine go_wantp rfl rfl rfl hg_7 rfl rfl (o_cmp rfl rfl rfl) ?_
                  refine go_p rfl rfl rfl (o_pickF rfl hg_7 rfl) ?_
                  exact go_meet hk7 (rfl) ⟨rfl, rfl, rfl, rfl, trivial⟩
                · intro hg_7 hk7
                  refine go_skip rfl rfl rfl hg_7 rfl rfl ?_
                  refine go_skip rfl rfl rfl hg_7 rfl rfl ?_
                  refine go_skip rfl rfl rfl hg_7 rfl rfl ?_
                  refine go_skip rfl rfl rfl hg_7 rfl rfl ?_
                  refine go_skip rfl rfl rfl hg_7 rfl rfl ?_
                  refine go_p rfl rfl rfl (o_pickT rfl hg_7 rfl) ?_
                  exact go_meet hk7 (rfl) ⟨rfl, rfl, rfl, rfl, trivial⟩
                refine go_nil ?_
                refine g_cond rfl (fun hc7 => ?_) (fun hc7 => ?_)
                · replace hm1 := cond_t hc7 hm1
                  refine g_seq ?_
                  refine g_region ?_
                  refine go_p rfl rfl rfl (o_move rfl) ?_
                  refine go_p rfl rfl rfl (o_cmp rfl rfl rfl) ?_
                  refine go_p rfl rfl rfl (o_move rfl) ?_
                  apply go_and [] 5 143 (t := 138) trivial rfl
                  · intro hg_8 hk8
                    refine go_wantp rfl rfl rfl hg_8 rfl rfl (o_fieldAddr_box fi_37_0 rfl) ?_
                    refine go_wantp rfl rfl rfl hg_8 rfl rfl (o_load_box 0 Try.isAgg35 rfl rfl rfl rfl) ?_
                    refine go_wantp rfl rfl rfl hg_8 rfl rfl (o_len Try.runUnderlying35 rfl) ?_
                    refine go_wantp rfl rfl rfl hg_8 rfl rfl (o_cmp rfl rfl rfl) ?_
                    refine go_p rfl rfl rfl (o_pickT rfl hg_8 rfl) ?_
                    exact go_meet hk8 (rfl) trivial
                  · intro hg_8 hk8
                    refine go_skip rfl rfl rfl hg_8 rfl rfl ?_
                    refine go_skip rfl rfl rfl hg_8 rfl rfl ?_
                    refine go_skip rfl rfl rfl hg_8 rfl rfl ?_
                    refine go_skip rfl rfl rfl hg_8 rfl rfl ?_
                    refine go_p rfl rfl rfl (o_pickF rfl hg_8 rfl) ?_
                    exact go_meet hk8 (rfl) trivial
                  refine go_p rfl rfl rfl (o_move rfl) ?_
                  obtain ⟨p3, hp_9, hm1⟩ := bind_some hm1
                  refine go_two [] 2 146 p3 (t := 144) trivial rfl (fun hg_9 hk9 => ?_) (fun hg_9 hk9 => ?_) ?_
                  · replace hp_9 := cond_t hg_9 hp_9
                    obtain ⟨x24, hx27, hp_9⟩ := bind_some hp_9
                    refine go_wantp rfl rfl rfl hg_9 rfl rfl (o_call0 Try.call33 rfl (w_syntagmalaw05_works hx27)) ?_
                    refine go_p rfl rfl rfl (o_pickT rfl hg_9 rfl) ?_
                    exact go_meet hk9 (congrArg (fun b => some (D.bool b)) (some_eq hp_9)) trivial
                  · replace hp_9 := cond_f hg_9 hp_9
                    refine go_skip rfl rfl rfl hg_9 rfl rfl ?_
                    refine go_p rfl rfl rfl (o_pickF rfl hg_9 rfl) ?_
                    exact go_meet hk9 (congrArg (fun b => some (D.bool b)) (some_eq hp_9)) trivial
                  refine go_p rfl rfl rfl (o_assign rfl) ?_
                  refine go_nil ?_
                  refine g_ret ?_
                  exact retK (ret_one' rfl (ret_tmp rfl) (perm_drop _)) (congrArg (fun (p : Bool) => (.bool p : D)) (some_eq hm1))
                · replace hm1 := cond_f hc7 hm1
                  refine g_skip ?_
                  refine g_seq ?_
                  rcases cond_split hm1 with ⟨hg_10, hm1⟩ | ⟨hg_10, hm1⟩
                  ·
                    skip
                    obtain ⟨x25, hx28, hm1⟩ := bind_some hm1
                    obtain ⟨x26, hx29, hm1⟩ := bind_some hm1
                    rcases cond_split hm1 with ⟨hg_11, hm1⟩ | ⟨hg_11, hm1⟩
                    ·
                      skip
                      obtain ⟨x27, hx30, hm1⟩ := bind_some hm1
                      refine g_draw 13 Try_mixed (by decide +kernel) ?_
                      refine gd_p rfl rfl rfl (o_move rfl) ?_
                      refine gd_p rfl rfl rfl (o_cmp rfl rfl rfl) ?_
                      refine gd_p rfl rfl rfl (o_move rfl) ?_
                      refine gd_want rfl rfl rfl hg_10 rfl rfl (o_load_box_agg 0 Try.isAgg37 Try.sizeOf37 rfl rfl rfl rfl (Nat.le_of_ble_eq_true rfl)) ?_
                      refine gd_want rfl rfl rfl hg_10 rfl rfl (o_load_box_agg 3 Try.isAgg37 Try.sizeOf37 rfl rfl rfl rfl (Nat.le_of_ble_eq_true rfl)) ?_
                      refine gd_want rfl rfl rfl hg_10 rfl rfl (o_move rfl) ?_
                      refine gd_want rfl rfl rfl hg_10 rfl rfl (o_call0 Try.call43 rfl (w_syntagmaref05_Sub hx28)) ?_
                      refine gd_want rfl rfl rfl hg_10 rfl rfl (o_call0 Try.call34 rfl (w_syntagmaref05_SameList hx29)) ?_
                      refine gd_p rfl rfl rfl (o_pickT rfl hg_10 rfl) ?_
                      refine gd_p rfl rfl rfl (o_move rfl) ?_
                      refine gd_want rfl rfl rfl hg_11 rfl rfl (o_call0 Try.call33 rfl (w_syntagmalaw05_works hx30)) ?_
                      refine gd_p rfl rfl rfl (o_pickT rfl hg_11 rfl) ?_
                      refine gd_p rfl rfl rfl (o_assign rfl) ?_
                      refine gd_nil ?_
                      refine go_nil ?_
                      refine g_ret ?_
                      exact retK (ret_one' rfl (ret_tmp rfl) (perm_drop _)) (congrArg (fun (p : Bool) => (.bool p : D)) (some_eq hm1))
                    ·
                      skip
                      refine g_draw 13 Try_mixed (by decide +kernel) ?_
                      refine gd_p rfl rfl rfl (o_move rfl) ?_
                      refine gd_p rfl rfl rfl (o_cmp rfl rfl rfl) ?_
                      refine gd_p rfl rfl rfl (o_move rfl) ?_
                      refine gd_want rfl rfl rfl hg_10 rfl rfl (o_load_box_agg 0 Try.isAgg37 Try.sizeOf37 rfl rfl rfl rfl (Nat.le_of_ble_eq_true rfl)) ?_
                      refine gd_want rfl rfl rfl hg_10 rfl rfl (o_load_box_agg 3 Try.isAgg37 Try.sizeOf37 rfl rfl rfl rfl (Nat.le_of_ble_eq_true rfl)) ?_
                      refine gd_want rfl rfl rfl hg_10 rfl rfl (o_move rfl) ?_
                      refine gd_want rfl rfl rfl hg_10 rfl rfl (o_call0 Try.call43 rfl (w_syntagmaref05_Sub hx28)) ?_
                      refine gd_want rfl rfl rfl hg_10 rfl rfl (o_call0 Try.call34 rfl (w_syntagmaref05_SameList hx29)) ?_
                      refine gd_p rfl rfl rfl (o_pickT rfl hg_10 rfl) ?_
                      refine gd_p rfl rfl rfl (o_move rfl) ?_
                      refine gd_skip rfl rfl rfl hg_11 rfl rfl ?_
                      refine gd_p rfl rfl rfl (o_pickF rfl hg_11 rfl) ?_
                      refine gd_p rfl rfl rfl (o_assign rfl) ?_
                      refine gd_nil ?_
                      refine go_nil ?_
                      refine g_ret ?_
                      exact retK (ret_one' rfl (ret_tmp rfl) (perm_drop _)) (congrArg (fun (p : Bool) => (.bool p : D)) (some_eq hm1))
                  ·
                    skip
                    refine g_draw 13 Try_mixed (by decide +kernel) ?_
                    refine gd_p rfl rfl rfl (o_move rfl) ?_
                    refine gd_p rfl rfl rfl (o_cmp rfl rfl rfl) ?_
                    refine gd_p rfl rfl rfl (o_move rfl) ?_
                    refine gd_skip rfl rfl rfl hg_10 rfl rfl ?_
                    refine gd_skip rfl rfl rfl hg_10 rfl rfl ?_
                    refine gd_skip rfl rfl rfl hg_10 rfl rfl ?_
                    refine gd_skip rfl rfl rfl hg_10 rfl rfl ?_
                    refine gd_skip rfl rfl rfl hg_10 rfl rfl ?_
                    refine gd_p rfl rfl rfl (o_pickF rfl hg_10 rfl) ?_
                    refine gd_p rfl rfl rfl (o_move rfl) ?_
                    refine gd_skip rfl rfl rfl rfl rfl rfl ?_
                    refine gd_p rfl rfl rfl (o_pickF rfl rfl rfl) ?_
                    refine gd_p rfl rfl rfl (o_assign rfl) ?_
                    refine gd_nil ?_
                    refine go_nil ?_
                    refine g_ret ?_
                    exact retK (ret_one' rfl (ret_tmp rfl) (perm_drop _)) (congrArg (fun (p : Bool) => (.bool p : D)) (some_eq hm1))

def m_tree_Join_l3 (l5 : (List ApiNode)) (l8 : (List Int)) : Nat → (Int × (List Int)) → Option (List Int)
  | 0, _ => none
  | n + 1, (x5, l10) =>
    bif (decide (x5 < (l8.length : Int))) then
      (idx l10 x5).bind fun x6 =>
      grd (InR (x6 + (l5.length : Int))) <|
      (idx l10 x5).bind fun x7 =>
      grd (InR (x5 + 1)) <|
      m_tree_Join_l3 l5 l8 n ((x5 + 1), (l10.set (x5).toNat (x6 + (l5.length : Int))))
    else
      some l10

def m_tree_Join_l2 (l5 : (List ApiNode)) (x2 : ApiExpr) : Nat → (Int × (List ApiNode)) → Option (List ApiNode)
  | 0, _ => none
  | n + 1, (x3, l7) =>
    bif (decide (x3 < (x2.l.length : Int))) then
      (idx x2.l x3).bind fun x4 =>
      (m_tree_KidsO (⟨x4.kind, x4.a, x4.b, x4.c, x4.n_, x4.name, x4.s, x4.l, x4.pos⟩ : ApiNode)).bind fun l8 =>
      (m_tree_Join_l3 l5 l8 FU (0, l8) : Option (List Int)).bind fun l9 =>
      (m_tree_with (⟨x4.kind, x4.a, x4.b, x4.c, x4.n_, x4.name, x4.s, x4.l, x4.pos⟩ : ApiNode) l9).bind fun x8 =>
      grd ((l7.length + ([x8] : List _).length) * 104 ≤ 140737488355328) <|
      grd (InR (x3 + 1)) <|
      m_tree_Join_l2 l5 x2 n ((x3 + 1), (l7 ++ [x8]))
    else
      some l7

def m_tree_Join_l1 (l1 : (List ApiExpr)) : Nat → (Int × (List Int) × (List ApiNode)) → Option ((List Int) × (List ApiNode))
  | 0, _ => none
  | n + 1, (x1, l4, l5) =>
    bif (decide (x1 < (l1.length : Int))) then
      (idx l1 x1).bind fun x2 =>
      (m_tree_Join_l2 l5 x2 FU (0, l5) : Option (List ApiNode)).bind fun l6 =>
      grd (InR ((l6.length : Int) - 1)) <|
      grd ((l4.length + ([((l6.length : Int) - 1)] : List _).length) * 8 ≤ 140737488355328) <|
      grd (InR (x1 + 1)) <|
      m_tree_Join_l1 l1 n ((x1 + 1), (l4 ++ [((l6.length : Int) - 1)]), l6)
    else
      some (l4, l5)
def m_tree_Join (n1 : ApiNode) (l1 : (List ApiExpr)) : Option ApiExpr :=
  (m_tree_Join_l1 l1 FU (0, [], []) : Option ((List Int) × (List ApiNode))).bind fun (l2, l3) =>
  (m_tree_with n1 l2).bind fun x9 =>
  grd ((l3.length + ([x9] : List _).length) * 104 ≤ 140737488355328) <|
  some (⟨(l3 ++ [x9])⟩ : ApiExpr)
theorem w_tree_Join {n1 : ApiNode} {l1 : (List ApiExpr)} {r : ApiExpr} (hm : m_tree_Join n1 l1 = some r) : Fn0 Try.prog 35 [ApiNode.d n1, .list 1 ApiExpr.d l1] (ApiExpr.d r) := by
  unfold m_tree_Join at hm
  refine fn_intro Try.func35 rfl Try.ntmps35 rfl fun H0 fr w0 => ?_
  refine g_seq ?_
  refine g_region ?_
  refine go_p rfl rfl rfl (o_box rfl rfl) ?_
  refine go_op rfl rfl rfl (o_alloc_own Try.zeroValue37 (cs := [.list 9 ApiNode.d []]) rfl) ?_
  rintro _ _ ⟨b1, rfl, rfl⟩
  refine go_nil ?_
  refine g_seq ?_
  refine g_region ?_
  refine go_op rfl rfl rfl (o_alloc_own Try.zeroValue37 (cs := [.v (.slice none 0 0)]) rfl) ?_
  rintro _ _ ⟨b2, rfl, rfl⟩
  refine go_conv (refines_newrow (T := 40) (sz := 9) (f := ApiNode.d)) ?_
  refine go_nil ?_
  refine g_seq ?_
  refine g_region ?_
  refine go_p rfl rfl rfl (o_assign rfl) ?_
  refine go_conv (refines_newrow (T := 3) (sz := 1) (f := D.i64)) ?_
  refine go_nil ?_
  refine g_seq ?_
  refine g_seq ?_
  refine g_region ?_
  refine go_p rfl rfl rfl (o_move rfl) ?_
  refine go_p rfl rfl rfl (o_len Try.runUnderlying49 rfl) ?_
  refine go_p rfl rfl rfl (o_move rfl) ?_
  refine go_nil ?_
  obtain ⟨o_1, hj1, hm1⟩ := bind_some hm
  refine g_cut_m [(2, _), (4, _), (5, _)] [(3, _)] (fun (st : ((List Int) × (List ApiNode))) (hid : (Option Addr × Nat) × (Option Addr × Nat)) => match st, hid with | (l2, l3), ((a_r2, cap_r2), (a_r1, cap_r1)) => [(6, .v (.slice a_r2 l2.length cap_r2))]) (fun F (st : ((List Int) × (List ApiNode))) (hid : (Option Addr × Nat) × (Option Addr × Nat)) => match st, hid with | (l2, l3), ((a_r2, cap_r2), (a_r1, cap_r1)) => [row a_r2 cap_r2 3 1 D.i64 l2, row a_r1 cap_r1 40 9 ApiNode.d l3, box b2 37 [.v (.slice a_r1 l3.length cap_r1)], (nthF F 0)]) (fun st => st = o_1) ⟨rfl, rfl, rfl, trivial⟩ ⟨rfl, trivial⟩ ?_ ?_
  · skip
    refine g_block ?_
    refine g_loop_m [(2, _), (4, _), (5, _), (14, _), (15, _)] [(3, _)] (fun (st : (Int × (List Int) × (List ApiNode))) (hid : (Option Addr × Nat) × (Option Addr × Nat)) => match st, hid with | (x1, l4, l5), ((a_r2, cap_r2), (a_r1, cap_r1)) => [(6, .v (.slice a_r2 l4.length cap_r2)), (16, .i64 x1)]) (fun F (st : (Int × (List Int) × (List ApiNode))) (hid : (Option Addr × Nat) × (Option Addr × Nat)) => match st, hid with | (x1, l4, l5), ((a_r2, cap_r2), (a_r1, cap_r1)) => [row a_r2 cap_r2 3 1 D.i64 l4, row a_r1 cap_r1 40 9 ApiNode.d l5, box b2 37 [.v (.slice a_r1 l5.length cap_r1)], (nthF F 0)]) ((_, _), (_, _)) hj1 (fun _ => rfl) ⟨rfl, rfl, rfl, rfl, rfl, trivial⟩ ⟨rfl, trivial⟩ ⟨rfl, rfl, trivial⟩ rfl ?_
    rintro n ⟨x1, l4, l5⟩ ⟨⟨a_r2, cap_r2⟩, ⟨a_r1, cap_r1⟩⟩ hj1
    rw [m_tree_Join_l1] at hj1
    refine g_norm (L' := [(6, .v (.slice a_r2 l4.length cap_r2)), (16, .i64 x1), (2, _), (4, _), (5, _), (14, _), (15, _)]) (ms' := [row a_r2 cap_r2 3 1 D.i64 l4, row a_r1 cap_r1 40 9 ApiNode.d l5, box b2 37 [.v (.slice a_r1 l5.length cap_r1)], _]) rfl rfl ?_
    refine g_seq ?_
    refine g_region ?_
    refine go_p rfl rfl rfl (o_cmp rfl rfl rfl) ?_
    refine go_nil ?_
    refine g_seq ?_
    refine g_cond rfl (fun hc1 => ?_) (fun hc1 => ?_)
    · replace hj1 := cond_t hc1 hj1
      refine g_skip ?_
      refine g_seq ?_
      refine g_block ?_
      refine g_seq ?_
      refine g_region ?_
      obtain ⟨x2, hx1, hj1⟩ := bind_some hj1
      refine go_p rfl rfl rfl (o_indexAddr_m Try.runUnderlying49 Try.sizeOf37 rfl rfl hx1) ?_
      refine go_p rfl rfl rfl (o_load_agg Try.isAgg37 Try.sizeOf37 rfl rfl) ?_
      refine go_op rfl rfl rfl (o_alloc_own Try.zeroValue37 (cs := [.list 9 ApiNode.d []]) rfl) ?_
      rintro _ _ ⟨b3, rfl, rfl⟩
      refine go_u rfl rfl (o_store_box 0 Try.sizeOf37 rfl rfl rfl rfl rfl rfl rfl rfl (Nat.le_of_ble_eq_true rfl)) ?_
      rintro _ _ rfl
      refine go_ms (ms' := [box b3 37 [_], _, _, box b2 37 [_], box b1 37 [_]]) rfl ?_
      refine go_nil ?_
      refine g_seq ?_
      refine g_region ?_
      refine go_p rfl rfl rfl (o_fieldAddr_box fi_37_0 rfl) ?_
      refine go_p rfl rfl rfl (o_load_box 3 Try.isAgg35 rfl rfl rfl rfl) ?_
      refine go_p rfl rfl rfl (.view (peekE (i := 21) 2 rfl rfl rfl) (o_len Try.runUnderlying35 rfl)) ?_
      refine go_p rfl rfl rfl (o_assign rfl) ?_
      refine go_nil ?_
      refine g_seq ?_
      refine g_seq ?_
      refine g_region ?_
      refine go_p rfl rfl rfl (o_fieldAddr_box fi_37_0 rfl) ?_
      refine go_p rfl rfl rfl (o_load_box 0 Try.isAgg35 rfl rfl rfl rfl) ?_
      refine go_p rfl rfl rfl (o_len Try.runUnderlying35 rfl) ?_
      refine go_p rfl rfl rfl (o_move rfl) ?_
      refine go_nil ?_
      obtain ⟨o_2, hj2, hm2⟩ := bind_some hj1
      refine g_cut_m [(2, _), (4, _), (5, _), (6, _), (14, _), (15, _), (16, _)] [(0, _), (1, _), (4, _)] (fun (st : (List ApiNode)) (hid : (Option Addr × Nat)) => match st, hid with | l6, (a_r1, cap_r1) => []) (fun F (st : (List ApiNode)) (hid : (Option Addr × Nat)) => match st, hid with | l6, (a_r1, cap_r1) => [(nthF F 0), (nthF F 1), row a_r1 cap_r1 40 9 ApiNode.d l6, box b2 37 [.v (.slice a_r1 l6.length cap_r1)], (nthF F 2)]) (fun st => st = o_2) ⟨rfl, rfl, rfl, rfl, rfl, rfl, rfl, trivial⟩ ⟨rfl, rfl, rfl, trivial⟩ ?_ ?_
      · skip
        refine g_block ?_
        refine g_loop_m [(2, _), (4, _), (5, _), (6, _), (9, _), (14, _), (15, _), (16, _), (24, _), (25, _)] [(0, _), (1, _), (4, _)] (fun (st : (Int × (List ApiNode))) (hid : (Option Addr × Nat)) => match st, hid with | (x3, l7), (a_r1, cap_r1) => [(26, .i64 x3)]) (fun F (st : (Int × (List ApiNode))) (hid : (Option Addr × Nat)) => match st, hid with | (x3, l7), (a_r1, cap_r1) => [(nthF F 0), (nthF F 1), row a_r1 cap_r1 40 9 ApiNode.d l7, box b2 37 [.v (.slice a_r1 l7.length cap_r1)], (nthF F 2)]) (_, _) hj2 (fun _ => rfl) ⟨rfl, rfl, rfl, rfl, rfl, rfl, rfl, rfl, rfl, rfl, trivial⟩ ⟨rfl, rfl, rfl, trivial⟩ ⟨rfl, trivial⟩ rfl ?_
        rintro n ⟨x3, l7⟩ ⟨a_r1, cap_r1⟩ hj2
        rw [m_tree_Join_l2] at hj2
        refine g_norm (L' := [(26, .i64 x3), (2, _), (4, _), (5, _), (6, _), (9, _), (14, _), (15, _), (16, _), (24, _), (25, _)]) (ms' := [_, _, row a_r1 cap_r1 40 9 ApiNode.d l7, box b2 37 [.v (.slice a_r1 l7.length cap_r1)], _]) rfl rfl ?_
        refine g_seq ?_
        refine g_region ?_
        refine go_p rfl rfl rfl (o_cmp rfl rfl rfl) ?_
        refine go_nil ?_
        refine g_seq ?_
        refine g_cond rfl (fun hc2 => ?_) (fun hc2 => ?_)
        · replace hj2 := cond_t hc2 hj2
          refine g_skip ?_
          refine g_seq ?_
          refine g_block ?_
          refine g_seq ?_
          refine g_region ?_
          obtain ⟨x4, hx2, hj2⟩ := bind_some hj2
          refine go_p rfl rfl rfl (o_indexAddr_m Try.runUnderlying35 Try.sizeOf40 rfl rfl hx2) ?_
          refine go_p rfl rfl rfl (o_load_agg Try.isAgg40 Try.sizeOf40 rfl rfl) ?_
          refine go_op rfl rfl rfl (o_alloc_own Try.zeroValue40 (cs := [.i64 0, .i64 0, .i64 0, .i64 0, .i64 0, .str ([] : List UInt8), .str ([] : List UInt8), .list 3 ApiField.d [], .i64 0]) rfl) ?_
          rintro _ _ ⟨b4, rfl, rfl⟩
          refine go_u rfl rfl (o_store_box 0 Try.sizeOf40 rfl rfl rfl rfl rfl rfl rfl rfl (Nat.le_of_ble_eq_true rfl)) ?_
          rintro _ _ rfl
          refine go_ms (ms' := [box b4 40 [_, _, _, _, _, _, _, _, _], box b3 37 [_], _, _, box b2 37 [_], box b1 37 [_]]) rfl ?_
          refine go_nil ?_
          refine g_seq ?_
          refine g_region ?_
          refine go_p rfl rfl rfl (o_load_box_agg 0 Try.isAgg40 Try.sizeOf40 rfl rfl rfl rfl (Nat.le_of_ble_eq_true rfl)) ?_
          obtain ⟨l8, hx3, hj2⟩ := bind_some hj2
          refine go_op rfl rfl rfl (o_call (ms₁ := []) Try.call31 rfl (List.Perm.refl _) (w_tree_KidsO hx3)) ?_
          rintro _ _ ⟨_, ⟨a_r3, m_r3, cap_r3, rfl, rfl⟩, rfl⟩
          refine go_p rfl rfl rfl (o_assign rfl) ?_
          refine go_nil ?_
          refine g_seq ?_
          refine g_seq ?_
          refine g_region ?_
          refine go_p rfl rfl rfl (o_move rfl) ?_
          refine go_p rfl rfl rfl (o_len_arr 0 Try.runUnderlying46 rfl rfl) ?_
          refine go_p rfl rfl rfl (o_move rfl) ?_
          refine go_nil ?_
          obtain ⟨o_3, hj3, hm3⟩ := bind_some hj2
          refine g_cut_m [(2, _), (4, _), (5, _), (6, _), (9, _), (11, _), (12, _), (14, _), (15, _), (16, _), (24, _), (25, _), (26, _)] [(1, _), (2, _), (3, _), (4, _), (5, _), (6, _)] (fun (st : (List Int)) (hid : Unit) => match st, hid with | l9, _ => []) (fun F (st : (List Int)) (hid : Unit) => match st, hid with | l9, _ => [arr a_r3 m_r3 cap_r3 3 1 D.i64 l9, (nthF F 0), (nthF F 1), (nthF F 2), (nthF F 3), (nthF F 4), (nthF F 5)]) (fun st => st = o_3) ⟨rfl, rfl, rfl, rfl, rfl, rfl, rfl, rfl, rfl, rfl, rfl, rfl, rfl, trivial⟩ ⟨rfl, rfl, rfl, rfl, rfl, rfl, trivial⟩ ?_ ?_
          · skip
            refine g_block ?_
            refine g_loop_m [(2, _), (4, _), (5, _), (6, _), (9, _), (11, _), (12, _), (14, _), (15, _), (16, _), (24, _), (25, _), (26, _), (33, _)] [(1, _), (2, _), (3, _), (4, _), (5, _), (6, _)] (fun (st : (Int × (List Int))) (hid : Unit) => match st, hid with | (x5, l10), _ => [(34, .i64 x5)]) (fun F (st : (Int × (List Int))) (hid : Unit) => match st, hid with | (x5, l10), _ => [arr a_r3 m_r3 cap_r3 3 1 D.i64 l10, (nthF F 0), (nthF F 1), (nthF F 2), (nthF F 3), (nthF F 4), (nthF F 5)]) () hj3 (fun _ => rfl) ⟨rfl, rfl, rfl, rfl, rfl, rfl, rfl, rfl, rfl, rfl, rfl, rfl, rfl, rfl, trivial⟩ ⟨rfl, rfl, rfl, rfl, rfl, rfl, trivial⟩ ⟨rfl, trivial⟩ rfl ?_
            rintro n ⟨x5, l10⟩ ⟨⟩ hj3
            rw [m_tree_Join_l3] at hj3
            refine g_norm (L' := [(34, .i64 x5), (2, _), (4, _), (5, _), (6, _), (9, _), (11, _), (12, _), (14, _), (15, _), (16, _), (24, _), (25, _), (26, _), (33, _)]) (ms' := [arr a_r3 m_r3 cap_r3 3 1 D.i64 l10, _, _, _, _, _, _]) rfl rfl ?_
            refine g_seq ?_
            refine g_region ?_
            refine go_p rfl rfl rfl (o_cmp rfl rfl rfl) ?_
            refine go_nil ?_
            refine g_seq ?_
            refine g_cond rfl (fun hc3 => ?_) (fun hc3 => ?_)
            · replace hj3 := cond_t hc3 hj3
              refine g_skip ?_
              refine g_seq ?_
              refine g_block ?_
              refine g_seq ?_
              refine g_region ?_
              refine go_p rfl rfl rfl (o_move rfl) ?_
              refine go_p rfl rfl rfl (o_assign rfl) ?_
              refine go_nil ?_
              refine g_region ?_
              refine go_p rfl rfl rfl (o_move rfl) ?_
              refine go_p rfl rfl rfl (o_move rfl) ?_
              obtain ⟨x6, hx4, hj3⟩ := bind_some hj3
              refine go_p rfl rfl rfl (o_indexAddr_arr 0 Try.runUnderlying46 Try.sizeOf3 rfl rfl rfl hx4) ?_
              refine go_p rfl rfl rfl (o_load_arr (off := 0) 0 Try.isAgg3 rfl rfl (idx_some hx4).2 rfl rfl rfl) ?_
              refine go_p rfl rfl rfl (o_move rfl) ?_
              obtain ⟨hg5, hj3⟩ := grd_some hj3
              refine go_p rfl rfl rfl (o_add rfl rfl (i64_id hg5)) ?_
              obtain ⟨x7, hx6, hj3⟩ := bind_some hj3
              refine go_p rfl rfl rfl (o_indexAddr_arr 0 Try.runUnderlying46 Try.sizeOf3 rfl rfl rfl hx6) ?_
              refine go_u rfl rfl (o_store_arr (off := 0) (z' := (x6 + (l5.length : Int))) 0 Try.sizeOf3 rfl rfl (idx_some hx6).2 rfl rfl rfl rfl rfl rfl (Nat.le_of_ble_eq_true rfl) rfl rfl) ?_
              rintro _ _ rfl
              refine go_ms (ms' := [_, box b4 40 [_, _, _, _, _, _, _, _, _], box b3 37 [_], _, _, box b2 37 [_], box b1 37 [_]]) rfl ?_
              refine go_nil ?_
              refine g_region ?_
              obtain ⟨hg7, hj3⟩ := grd_some hj3
              refine go_p rfl rfl rfl (o_add rfl rfl (i64_id hg7)) ?_
              refine go_p rfl rfl rfl (o_move rfl) ?_
              refine go_nil ?_
              exact ⟨_, (), hj3, ⟨rfl, trivial⟩, ⟨rfl, rfl, rfl, rfl, rfl, rfl, rfl, rfl, rfl, rfl, rfl, rfl, rfl, rfl, trivial⟩, [], rfl⟩
            · replace hj3 := cond_f hc3 hj3
              refine g_exit ?_
              exact ⟨_, (), some_eq hj3, trivial, ⟨rfl, rfl, rfl, rfl, rfl, rfl, rfl, rfl, rfl, rfl, rfl, rfl, rfl, trivial⟩, [], rfl⟩
          · rintro l9 ⟨⟩ hst
            subst hst
            refine k_norm (L' := [(2, _), (4, _), (5, _), (6, _), (9, _), (11, _), (12, _), (14, _), (15, _), (16, _), (24, _), (25, _), (26, _)]) (ms' := [arr a_r3 m_r3 cap_r3 3 1 D.i64 l9, _, _, _, _, _, _]) rfl rfl ?_
            refine g_thaw 0 rfl rfl ?_
            rintro rfl
            obtain ⟨x8, hx8, hm3⟩ := bind_some hm3
            refine g_draw 6 Try_mixed (by decide +kernel) ?_
            refine gd_p rfl rfl rfl (o_fieldAddr_box fi_37_0 rfl) ?_
            refine gd_p rfl rfl rfl (o_load_box 5 Try.isAgg35 rfl rfl rfl rfl) ?_
            refine gd_p rfl rfl rfl (o_load_box_agg 1 Try.isAgg40 Try.sizeOf40 rfl rfl rfl rfl (Nat.le_of_ble_eq_true rfl)) ?_
            refine gd_p rfl rfl rfl (o_move rfl) ?_
            refine gd_p rfl rfl rfl (.view (peekE (i := 48) 0 rfl rfl rfl) (o_call0 Try.call78 rfl (w_tree_with hx8))) ?_
            refine gd_p rfl rfl rfl (o_buildSlice (xs := [_]) (f := ApiNode.d) (l := [_]) Try.runUnderlying35 Try.sizeOf40 Try.zeroValue40 rfl rfl rfl (fun _ => ⟨rfl, rfl, rfl⟩) rfl) ?_
            refine gd_nil ?_
            obtain ⟨hg9, hm3⟩ := grd_some hm3
            refine go_op rfl rfl rfl (o_append (a := _) 4 Try.underlying35 Try.type40 rfl rfl rfl rfl rfl rfl rfl (fun _ => rfl) (fun _ => rfl) hg9 (app_len hg9 rfl)) ?_
            rintro _ _ ⟨a_r1, cap_r1, rfl, rfl⟩
            refine go_ms (ms' := [_, box b4 40 [_, _, _, _, _, _, _, _, _], box b3 37 [_], _, _, box b2 37 [_], box b1 37 [_]]) rfl ?_
            refine go_p rfl rfl rfl (o_fieldAddr_box fi_37_0 rfl) ?_
            refine go_u rfl rfl (o_store_box 5 Try.sizeOf35 rfl rfl rfl rfl rfl rfl rfl rfl (Nat.le_of_ble_eq_true rfl)) ?_
            rintro _ _ rfl
            refine go_ms (ms' := [_, box b4 40 [_, _, _, _, _, _, _, _, _], box b3 37 [_], _, _, box b2 37 [_], box b1 37 [_]]) rfl ?_
            refine go_nil ?_
            refine g_region ?_
            obtain ⟨hg10, hm3⟩ := grd_some hm3
            refine go_p rfl rfl rfl (o_add rfl rfl (i64_id hg10)) ?_
            refine go_p rfl rfl rfl (o_move rfl) ?_
            refine go_nil ?_
            exact ⟨_, (_, _), hm3, ⟨rfl, trivial⟩, ⟨rfl, rfl, rfl, rfl, rfl, rfl, rfl, rfl, rfl, rfl, trivial⟩, [_, _], rfl⟩
        · replace hj2 := cond_f hc2 hj2
          refine g_exit ?_
          exact ⟨_, (_, _), some_eq hj2, trivial, ⟨rfl, rfl, rfl, rfl, rfl, rfl, rfl, trivial⟩, [], rfl⟩
      · rintro l6 ⟨a_r1, cap_r1⟩ hst
        subst hst
        refine k_norm (L' := [(2, _), (4, _), (5, _), (6, _), (14, _), (15, _), (16, _)]) (ms' := [_, _, row a_r1 cap_r1 40 9 ApiNode.d l6, box b2 37 [.v (.slice a_r1 l6.length cap_r1)], _]) rfl rfl ?_
        refine g_region ?_
        refine go_p rfl rfl rfl (o_move rfl) ?_
        refine go_p rfl rfl rfl (o_fieldAddr_box fi_37_0 rfl) ?_
        refine go_p rfl rfl rfl (o_load_box 3 Try.isAgg35 rfl rfl rfl rfl) ?_
        refine go_p rfl rfl rfl (.view (peekE (i := 56) 2 rfl rfl rfl) (o_len Try.runUnderlying35 rfl)) ?_
        obtain ⟨hg11, hm2⟩ := grd_some hm2
        refine go_p rfl rfl rfl (o_sub rfl rfl (i64_id hg11)) ?_
        refine go_p rfl rfl rfl (o_buildSlice (xs := [_]) (f := D.i64) (l := [_]) Try.runUnderlying46 Try.sizeOf3 Try.zeroValue3 rfl rfl rfl (fun _ => ⟨rfl, rfl, rfl⟩) rfl) ?_
        obtain ⟨hg12, hm2⟩ := grd_some hm2
        refine go_op rfl rfl rfl (o_append (a := _) 1 Try.underlying46 Try.type3 rfl rfl rfl rfl rfl rfl rfl (fun _ => rfl) (fun _ => rfl) hg12 (app_len hg12 rfl)) ?_
        rintro _ _ ⟨a_r2, cap_r2, rfl, rfl⟩
        refine go_ms (ms' := [box b3 37 [_], _, _, box b2 37 [_], box b1 37 [_]]) rfl ?_
        refine go_p rfl rfl rfl (o_assign rfl) ?_
        refine go_nil ?_
        refine g_region ?_
        obtain ⟨hg13, hm2⟩ := grd_some hm2
        refine go_p rfl rfl rfl (o_add rfl rfl (i64_id hg13)) ?_
        refine go_p rfl rfl rfl (o_move rfl) ?_
        refine go_nil ?_
        exact ⟨_, ((_, _), (_, _)), hm2, ⟨rfl, rfl, trivial⟩, ⟨rfl, rfl, rfl, rfl, rfl, trivial⟩, [_], rfl⟩
    · replace hj1 := cond_f hc1 hj1
      refine g_exit ?_
      exact ⟨_, ((_, _), (_, _)), some_eq hj1, ⟨rfl, trivial⟩, ⟨rfl, rfl, rfl, trivial⟩, [], rfl⟩
  · rintro ⟨l2, l3⟩ ⟨⟨a_r2, cap_r2⟩, ⟨a_r1, cap_r1⟩⟩ hst
    subst hst
    refine k_norm (L' := [(6, .v (.slice a_r2 l2.length cap_r2)), (2, _), (4, _), (5, _)]) (ms' := [row a_r2 cap_r2 3 1 D.i64 l2, row a_r1 cap_r1 40 9 ApiNode.d l3, box b2 37 [.v (.slice a_r1 l3.length cap_r1)], _]) rfl rfl ?_
    refine g_seq ?_
    obtain ⟨x9, hx14, hm1⟩ := bind_some hm1
    refine g_draw 6 Try_mixed (by decide +kernel) ?_
    refine gd_p rfl rfl rfl (o_fieldAddr_box fi_37_0 rfl) ?_
    refine gd_p rfl rfl rfl (o_load_box 2 Try.isAgg35 rfl rfl rfl rfl) ?_
    refine gd_p rfl rfl rfl (o_load_agg Try.isAgg40 Try.sizeOf40 rfl rfl) ?_
    refine gd_p rfl rfl rfl (o_move rfl) ?_
    refine gd_p rfl rfl rfl (.view (peekE (i := 65) 0 rfl rfl rfl) (o_call0 Try.call78 rfl (w_tree_with hx14))) ?_
    refine gd_p rfl rfl rfl (o_buildSlice (xs := [_]) (f := ApiNode.d) (l := [_]) Try.runUnderlying35 Try.sizeOf40 Try.zeroValue40 rfl rfl rfl (fun _ => ⟨rfl, rfl, rfl⟩) rfl) ?_
    refine gd_nil ?_
    obtain ⟨hg15, hm1⟩ := grd_some hm1
    refine go_op rfl rfl rfl (o_append (a := _) 1 Try.underlying35 Try.type40 rfl rfl rfl rfl rfl rfl rfl (fun _ => rfl) (fun _ => rfl) hg15 (app_len hg15 rfl)) ?_
    rintro _ _ ⟨a_r1, cap_r1, rfl, rfl⟩
    refine go_ms (ms' := [_, _, box b2 37 [_], box b1 37 [_]]) rfl ?_
    refine go_p rfl rfl rfl (o_fieldAddr_box fi_37_0 rfl) ?_
    refine go_u rfl rfl (o_store_box 2 Try.sizeOf35 rfl rfl rfl rfl rfl rfl rfl rfl (Nat.le_of_ble_eq_true rfl)) ?_
    rintro _ _ rfl
    refine go_ms (ms' := [_, _, box b2 37 [_], box b1 37 [_]]) rfl ?_
    refine go_nil ?_
    refine g_seq ?_
    refine g_region ?_
    refine go_p rfl rfl rfl (o_load_box_agg 2 Try.isAgg37 Try.sizeOf37 rfl rfl rfl rfl (Nat.le_of_ble_eq_true rfl)) ?_
    refine go_conv (peekAggE (i := 70) (q := 0) 1 rfl rfl rfl rfl rfl).refines ?_
    refine go_u rfl rfl (o_store_box 3 Try.sizeOf37 rfl rfl rfl rfl rfl rfl rfl rfl (Nat.le_of_ble_eq_true rfl)) ?_
    rintro _ _ rfl
    refine go_ms (ms' := [_, _, box b2 37 [_], box b1 37 [_]]) rfl ?_
    refine go_nil ?_
    refine g_ret ?_
    exact retK (ret_one' rfl (ret_cell 3 rfl rfl rfl Try.isAgg37 Try.sizeOf37 rfl) (perm_drop _)) (congrArg (fun (p : ApiExpr) => (ApiExpr.d p : D)) (some_eq hm1))

def m_syntagmabase_Among (x1 : Int) (n1 : Int) : Option Int :=
  bif (decide (n1 < 1)) then
    some 0
  else
    grd ((IntKind.u64.wrap n1) ≠ 0) <|
    some (IntKind.i64.wrap (Int.tmod (IntKind.u64.wrap x1) (IntKind.u64.wrap n1)))
theorem w_syntagmabase_Among {x1 : Int} {n1 : Int} {r : Int} (hm : m_syntagmabase_Among x1 n1 = some r) : Fn0 Try.prog 44 [.i64 x1, .i64 n1] (.i64 r) := by
  unfold m_syntagmabase_Among at hm
  refine fn_intro Try.func44 rfl Try.ntmps44 rfl fun H0 fr w0 => ?_
  refine g_seq ?_
  refine g_region ?_
  refine go_p rfl rfl rfl (o_assign rfl) ?_
  refine go_nil ?_
  refine g_seq ?_
  refine g_seq ?_
  refine g_region ?_
  refine go_p rfl rfl rfl (o_move rfl) ?_
  refine go_p rfl rfl rfl (o_cmp rfl rfl rfl) ?_
  refine go_nil ?_
  refine g_cond rfl (fun hc1 => ?_) (fun hc1 => ?_)
  · replace hm := cond_t hc1 hm
    refine g_seq ?_
    refine g_region ?_
    refine go_p rfl rfl rfl (o_assign rfl) ?_
    refine go_nil ?_
    refine g_ret ?_
    exact retK (ret_one' rfl (ret_tmp rfl) (perm_drop _)) (congrArg (fun (p : Int) => (.i64 p : D)) (some_eq hm))
  · replace hm := cond_f hc1 hm
    refine g_skip ?_
    refine g_seq ?_
    refine g_region ?_
    refine go_p rfl rfl rfl (o_move rfl) ?_
    refine go_p rfl rfl rfl (o_conv Try.runUnderlying3 Try.runUnderlying108 rfl rfl) ?_
    refine go_p rfl rfl rfl (o_move rfl) ?_
    refine go_p rfl rfl rfl (o_conv Try.runUnderlying3 Try.runUnderlying108 rfl rfl) ?_
    obtain ⟨hg1, hm⟩ := grd_some hm
    refine go_p rfl rfl rfl (o_rem rfl rfl hg1) ?_
    refine go_p rfl rfl rfl (o_conv Try.runUnderlying108 Try.runUnderlying3 rfl rfl) ?_
    refine go_p rfl rfl rfl (o_assign rfl) ?_
    refine go_nil ?_
    refine g_ret ?_
    exact retK (ret_one' rfl (ret_tmp rfl) (perm_drop _)) (congrArg (fun (p : Int) => (.i64 p : D)) (some_eq hm))

def m_syntagmalaw05_TreeStays_l1 (x2 : ApiExpr) (x11 : (List Int)) : Nat → (Int × (List ApiExpr)) → Option (Out Bool (List ApiExpr))
  | 0, _ => none
  | n + 1, (k1, l2) =>
    bif (decide (k1 < (x11.length : Int))) then
      (idx x11 k1).bind fun x12 =>
      (m_tree_Sub (⟨x2.l⟩ : ApiExpr) x12).bind fun (x13, x14) =>
      bif (!decide (x14 = 0)) then
        some (Out.ret false)
      else
        grd ((l2.length + ([(⟨x13.l⟩ : ApiExpr)] : List _).length) * 24 ≤ 140737488355328) <|
        grd (InR (k1 + 1)) <|
        m_syntagmalaw05_TreeStays_l1 x2 x11 n ((k1 + 1), (l2 ++ [(⟨x13.l⟩ : ApiExpr)]))
    else
      some (Out.go (l2))
def m_syntagmalaw05_TreeStays (a1 : ApiExpr) (i1 : Int) : Option Bool :=
  (m_syntagmalaw05_works).bind fun x1 =>
  bif (!x1) then
    some false
  else
    (m_syntagmalaw05_Few (⟨a1.l⟩ : ApiExpr)).bind fun x2 =>
    (m_tree_Norm (⟨x2.l⟩ : ApiExpr)).bind fun (x3, x4) =>
    bif (!decide (x4 = 0)) then
      some (decide ((x3.l.length : Int) = 0))
    else
      (m_tree_Norm (⟨x3.l⟩ : ApiExpr)).bind fun (x5, x6) =>
      (bif (!decide (x6 = 0)) then (some true) else ((m_syntagmaref05_SameList (⟨x3.l⟩ : ApiExpr) (⟨x5.l⟩ : ApiExpr)).bind fun x7 =>
      some (!x7))).bind fun p1 =>
      (bif p1 then (some true) else ((m_tree_Same (⟨x2.l⟩ : ApiExpr) (⟨x3.l⟩ : ApiExpr)).bind fun x8 =>
      some (!x8))).bind fun p2 =>
      bif p2 then
        some false
      else
        (m_syntagmabase_Among i1 (x2.l.length : Int)).bind fun x9 =>
        (idx x2.l x9).bind fun x10 =>
        (m_tree_Kids x10).bind fun x11 =>
        ((m_syntagmalaw05_TreeStays_l1 x2 x11 FU (0, []) : Option (Out Bool (List ApiExpr)))).bind (fun oo => oo.on (fun r1 => some r1) (fun l1 =>
        (m_tree_Sub (⟨x2.l⟩ : ApiExpr) x9).bind fun (x15, x16) =>
        bif (decide (x16 = 0)) then ((idx x2.l x9).bind fun x17 =>
        (m_tree_Join x17 l1).bind fun x18 =>
        (m_syntagmaref05_SameList x18 (⟨x15.l⟩ : ApiExpr)).bind fun x19 =>
        some x19) else (some false)))
theorem w_syntagmalaw05_TreeStays {a1 : ApiExpr} {i1 : Int} {r : Bool} (hm : m_syntagmalaw05_TreeStays a1 i1 = some r) : Fn0 Try.prog 8 [ApiExpr.d a1, .i64 i1] (.bool r) := by
  unfold m_syntagmalaw05_TreeStays at hm
  refine fn_intro Try.func8 rfl Try.ntmps8 rfl fun H0 fr w0 => ?_
  refine g_seq ?_
  refine g_region ?_
  refine go_op rfl rfl rfl (o_box_own rfl rfl rfl) ?_
  rintro _ _ ⟨b1, rfl, rfl⟩
  refine go_p rfl rfl rfl (o_assign rfl) ?_
  refine go_nil ?_
  refine g_seq ?_
  refine g_seq ?_
  refine g_region ?_
  obtain ⟨x1, hx1, hm⟩ := bind_some hm
  refine go_p rfl rfl rfl (o_call0 Try.call33 rfl (w_syntagmalaw05_works hx1)) ?_
  refine go_p rfl rfl rfl (o_not rfl) ?_
  refine go_nil ?_
  refine g_cond rfl (fun hc1 => ?_) (fun hc1 => ?_)
  · replace hm := cond_t hc1 hm
    refine g_seq ?_
    refine g_region ?_
    refine go_p rfl rfl rfl (o_assign rfl) ?_
    refine go_nil ?_
    refine g_ret ?_
    exact retK (ret_one' rfl (ret_tmp rfl) (perm_drop _)) (congrArg (fun (p : Bool) => (.bool p : D)) (some_eq hm))
  · replace hm := cond_f hc1 hm
    refine g_skip ?_
    refine g_seq ?_
    refine g_region ?_
    refine go_p rfl rfl rfl (o_load_box_agg 0 Try.isAgg37 Try.sizeOf37 rfl rfl rfl rfl (Nat.le_of_ble_eq_true rfl)) ?_
    obtain ⟨x2, hx2, hm⟩ := bind_some hm
    refine go_p rfl rfl rfl (o_call0 Try.call25 rfl (w_syntagmalaw05_Few hx2)) ?_
    refine go_u rfl rfl (o_store_box 0 Try.sizeOf37 rfl rfl rfl rfl rfl rfl rfl rfl (Nat.le_of_ble_eq_true rfl)) ?_
    rintro _ _ rfl
    refine go_ms (ms' := [box b1 37 [_]]) rfl ?_
    refine go_nil ?_
    refine g_seq ?_
    refine g_region ?_
    refine go_p rfl rfl rfl (o_load_box_agg 0 Try.isAgg37 Try.sizeOf37 rfl rfl rfl rfl (Nat.le_of_ble_eq_true rfl)) ?_
    obtain ⟨⟨x3, x4⟩, hx3, hm⟩ := bind_some hm
    refine go_p rfl rfl rfl (o_call0 Try.call37 rfl (w_tree_Norm hx3)) ?_
    refine go_p rfl rfl rfl (o_move rfl) ?_
    refine go_p rfl rfl rfl (o_extract rfl rfl) ?_
    refine go_p rfl rfl rfl (o_extract rfl rfl) ?_
    refine go_op rfl rfl rfl (o_alloc_own Try.zeroValue37 (cs := [.list 9 ApiNode.d []]) rfl) ?_
    rintro _ _ ⟨b2, rfl, rfl⟩
    refine go_u rfl rfl (o_store_box 0 Try.sizeOf37 rfl rfl rfl rfl rfl rfl rfl rfl (Nat.le_of_ble_eq_true rfl)) ?_
    rintro _ _ rfl
    refine go_ms (ms' := [box b2 37 [_], box b1 37 [_]]) rfl ?_
    refine go_p rfl rfl rfl (o_assign rfl) ?_
    refine go_nil ?_
    refine g_seq ?_
    refine g_seq ?_
    refine g_region ?_
    refine go_p rfl rfl rfl (o_move rfl) ?_
    refine go_p rfl rfl rfl (o_cmp rfl rfl rfl) ?_
    refine go_nil ?_
    refine g_cond rfl (fun hc2 => ?_) (fun hc2 => ?_)
    · replace hm := cond_t hc2 hm
      refine g_seq ?_
      refine g_region ?_
      refine go_p rfl rfl rfl (o_fieldAddr_box fi_37_0 rfl) ?_
      refine go_p rfl rfl rfl (o_load_box 0 Try.isAgg35 rfl rfl rfl rfl) ?_
      refine go_p rfl rfl rfl (o_len Try.runUnderlying35 rfl) ?_
      refine go_p rfl rfl rfl (o_cmp rfl rfl rfl) ?_
      refine go_p rfl rfl rfl (o_assign rfl) ?_
      refine go_nil ?_
      refine g_ret ?_
      exact retK (ret_one' rfl (ret_tmp rfl) (perm_drop _)) (congrArg (fun (p : Bool) => (.bool p : D)) (some_eq hm))
    · replace hm := cond_f hc2 hm
      refine g_skip ?_
      refine g_seq ?_
      refine g_region ?_
      refine go_p rfl rfl rfl (o_load_box_agg 0 Try.isAgg37 Try.sizeOf37 rfl rfl rfl rfl (Nat.le_of_ble_eq_true rfl)) ?_
      obtain ⟨⟨x5, x6⟩, hx4, hm⟩ := bind_some hm
      refine go_p rfl rfl rfl (o_call0 Try.call37 rfl (w_tree_Norm hx4)) ?_
      refine go_p rfl rfl rfl (o_move rfl) ?_
      refine go_p rfl rfl rfl (o_extract rfl rfl) ?_
      refine go_p rfl rfl rfl (o_extract rfl rfl) ?_
      refine go_op rfl rfl rfl (o_alloc_own Try.zeroValue37 (cs := [.list 9 ApiNode.d []]) rfl) ?_
      rintro _ _ ⟨b3, rfl, rfl⟩
      refine go_u rfl rfl (o_store_box 0 Try.sizeOf37 rfl rfl rfl rfl rfl rfl rfl rfl (Nat.le_of_ble_eq_true rfl)) ?_
      rintro _ _ rfl
      refine go_ms (ms' := [box b3 37 [_], box b2 37 [_], box b1 37 [_]]) rfl ?_
      refine go_p rfl rfl rfl (o_assign rfl) ?_
      refine go_nil ?_
      refine g_seq ?_
      refine g_seq ?_
      refine g_region ?_
      refine go_p rfl rfl rfl (o_move rfl) ?_
      refine go_p rfl rfl rfl (o_cmp rfl rfl rfl) ?_
      refine go_p rfl rfl rfl (o_move rfl) ?_
      obtain ⟨p1, hp_1, hm⟩ := bind_some hm
      refine go_two [(1, _), (2, _), (5, _)] 5 43 p1 (t := 38) ⟨rfl, rfl, rfl, trivial⟩ rfl (fun hg_1 hk1 => ?_) (fun hg_1 hk1 => ?_) ?_
      · replace hp_1 := cond_t hg_1 hp_1
        refine go_skip rfl rfl rfl hg_1 rfl rfl ?_
        refine go_skip rfl rfl rfl hg_1 rfl rfl ?_
        refine go_skip rfl rfl rfl hg_1 rfl rfl ?_
        refine go_skip rfl rfl rfl hg_1 rfl rfl ?_
        refine go_p rfl rfl rfl (o_pickT rfl hg_1 rfl) ?_
        exact go_meet hk1 (congrArg (fun b => some (D.bool b)) (some_eq hp_1)) ⟨rfl, rfl, rfl, trivial⟩
      · replace hp_1 := cond_f hg_1 hp_1
        refine go_wantp rfl rfl rfl hg_1 rfl rfl (o_load_box_agg 1 Try.isAgg37 Try.sizeOf37 rfl rfl rfl rfl (Nat.le_of_ble_eq_true rfl)) ?_
        refine go_wantp rfl rfl rfl hg_1 rfl rfl (o_load_box_agg 0 Try.isAgg37 Try.sizeOf37 rfl rfl rfl rfl (Nat.le_of_ble_eq_true rfl)) ?_
        obtain ⟨x7, hx5, hp_1⟩ := bind_some hp_1
        refine go_wantp rfl rfl rfl hg_1 rfl rfl (o_call0 Try.call34 rfl (w_syntagmaref05_SameList hx5)) ?_
        refine go_wantp rfl rfl rfl hg_1 rfl rfl (o_not rfl) ?_
        refine go_p rfl rfl rfl (o_pickF rfl hg_1 rfl) ?_
        exact go_meet hk1 (congrArg (fun b => some (D.bool b)) (some_eq hp_1)) ⟨rfl, rfl, rfl, trivial⟩
      refine go_p rfl rfl rfl (o_move rfl) ?_
      obtain ⟨p2, hp_2, hm⟩ := bind_some hm
      refine go_two [(1, _), (2, _)] 5 49 p2 (t := 44) ⟨rfl, rfl, trivial⟩ rfl (fun hg_2 hk2 => ?_) (fun hg_2 hk2 => ?_) ?_
      · replace hp_2 := cond_t hg_2 hp_2
        refine go_skip rfl rfl rfl hg_2 rfl rfl ?_
        refine go_skip rfl rfl rfl hg_2 rfl rfl ?_
        refine go_skip rfl rfl rfl hg_2 rfl rfl ?_
        refine go_skip rfl rfl rfl hg_2 rfl rfl ?_
        refine go_p rfl rfl rfl (o_pickT rfl hg_2 rfl) ?_
        exact go_meet hk2 (congrArg (fun b => some (D.bool b)) (some_eq hp_2)) ⟨rfl, rfl, trivial⟩
      · replace hp_2 := cond_f hg_2 hp_2
        refine go_wantp rfl rfl rfl hg_2 rfl rfl (o_load_box_agg 2 Try.isAgg37 Try.sizeOf37 rfl rfl rfl rfl (Nat.le_of_ble_eq_true rfl)) ?_
        refine go_wantp rfl rfl rfl hg_2 rfl rfl (o_load_box_agg 1 Try.isAgg37 Try.sizeOf37 rfl rfl rfl rfl (Nat.le_of_ble_eq_true rfl)) ?_
        obtain ⟨x8, hx6, hp_2⟩ := bind_some hp_2
        refine go_wantp rfl rfl rfl hg_2 rfl rfl (o_call0 Try.call40 rfl (w_tree_Same hx6)) ?_
        refine go_wantp rfl rfl rfl hg_2 rfl rfl (o_not rfl) ?_
        refine go_p rfl rfl rfl (o_pickF rfl hg_2 rfl) ?_
        exact go_meet hk2 (congrArg (fun b => some (D.bool b)) (some_eq hp_2)) ⟨rfl, rfl, trivial⟩
      refine go_nil ?_
      refine g_cond rfl (fun hc3 => ?_) (fun hc3 => ?_)
      · replace hm := cond_t hc3 hm
        refine g_seq ?_
        refine g_region ?_
        refine go_p rfl rfl rfl (o_assign rfl) ?_
        refine go_nil ?_
        refine g_ret ?_
        exact retK (ret_one' rfl (ret_tmp rfl) (perm_drop _)) (congrArg (fun (p : Bool) => (.bool p : D)) (some_eq hm))
      · replace hm := cond_f hc3 hm
        refine g_skip ?_
        refine g_seq ?_
        refine g_region ?_
        refine go_p rfl rfl rfl (o_move rfl) ?_
        refine go_p rfl rfl rfl (o_fieldAddr_box fi_37_0 rfl) ?_
        refine go_p rfl rfl rfl (o_load_box 2 Try.isAgg35 rfl rfl rfl rfl) ?_
        refine go_p rfl rfl rfl (o_len Try.runUnderlying35 rfl) ?_
        obtain ⟨x9, hx7, hm⟩ := bind_some hm
        refine go_p rfl rfl rfl (o_call0 Try.call44 rfl (w_syntagmabase_Among hx7)) ?_
        refine go_p rfl rfl rfl (o_assign rfl) ?_
        refine go_nil ?_
        refine g_seq ?_
        refine g_region ?_
        refine go_op rfl rfl rfl (o_buildSlice_row (xs := []) (f := ApiExpr.d) (l := []) Try.runUnderlying49 Try.sizeOf37 Try.zeroValue37 rfl rfl rfl (fun _ => ⟨rfl, rfl, rfl⟩) rfl (by simp [maxLen])) ?_
        rintro _ _ ⟨a_r1, rfl, rfl⟩
        refine go_p rfl rfl rfl (o_assign rfl) ?_
        refine go_nil ?_
        refine g_seq ?_
        refine g_region ?_
        refine go_p rfl rfl rfl (o_fieldAddr_box fi_37_0 rfl) ?_
        refine go_p rfl rfl rfl (o_load_box 3 Try.isAgg35 rfl rfl rfl rfl) ?_
        refine go_p rfl rfl rfl (o_move rfl) ?_
        obtain ⟨x10, hx8, hm⟩ := bind_some hm
        refine go_p rfl rfl rfl (o_indexAddr_m Try.runUnderlying35 Try.sizeOf40 rfl rfl hx8) ?_
        refine go_p rfl rfl rfl (o_load_agg Try.isAgg40 Try.sizeOf40 rfl rfl) ?_
        obtain ⟨x11, hx9, hm⟩ := bind_some hm
        refine go_p rfl rfl rfl (o_call0 Try.call31 rfl (w_tree_Kids hx9)) ?_
        refine go_p rfl rfl rfl (o_assign rfl) ?_
        refine go_nil ?_
        refine g_seq ?_
        refine g_seq ?_
        refine g_region ?_
        refine go_p rfl rfl rfl (o_assign rfl) ?_
        refine go_nil ?_
        obtain ⟨o_1, hj1, hm1⟩ := bind_some hm
        refine g_cut_m [(1, _), (2, _)] [(1, _), (2, _), (3, _)] (fun (st : (List ApiExpr)) (hid : (Option Addr × Nat)) => match st, hid with | l1, (a_r1, cap_r1) => [(9, .v (.slice a_r1 l1.length cap_r1))]) (fun F (st : (List ApiExpr)) (hid : (Option Addr × Nat)) => match st, hid with | l1, (a_r1, cap_r1) => [row a_r1 cap_r1 37 1 ApiExpr.d l1, (nthF F 0), (nthF F 1), (nthF F 2)]) (fun st => Out.go (st) = o_1) ⟨rfl, rfl, trivial⟩ ⟨rfl, rfl, rfl, trivial⟩ ?_ ?_
        · skip
          refine g_block ?_
          refine g_loop_m [(1, _), (2, _), (10, _)] [(1, _), (2, _), (3, _)] (fun (st : (Int × (List ApiExpr))) (hid : (Option Addr × Nat)) => match st, hid with | (k1, l2), (a_r1, cap_r1) => [(9, .v (.slice a_r1 l2.length cap_r1)), (11, .i64 k1)]) (fun F (st : (Int × (List ApiExpr))) (hid : (Option Addr × Nat)) => match st, hid with | (k1, l2), (a_r1, cap_r1) => [row a_r1 cap_r1 37 1 ApiExpr.d l2, (nthF F 0), (nthF F 1), (nthF F 2)]) (_, _) hj1 (fun _ => rfl) ⟨rfl, rfl, rfl, trivial⟩ ⟨rfl, rfl, rfl, trivial⟩ ⟨rfl, rfl, trivial⟩ rfl ?_
          rintro n ⟨k1, l2⟩ ⟨a_r1, cap_r1⟩ hj1
          rw [m_syntagmalaw05_TreeStays_l1] at hj1
          refine g_norm (L' := [(9, .v (.slice a_r1 l2.length cap_r1)), (11, .i64 k1), (1, _), (2, _), (10, _)]) (ms' := [row a_r1 cap_r1 37 1 ApiExpr.d l2, _, _, _]) rfl rfl ?_
          refine g_seq ?_
          refine g_seq ?_
          refine g_region ?_
          refine go_p rfl rfl rfl (o_move rfl) ?_
          refine go_p rfl rfl rfl (o_move rfl) ?_
          refine go_p rfl rfl rfl (o_len Try.runUnderlying46 rfl) ?_
          refine go_p rfl rfl rfl (o_cmp rfl rfl rfl) ?_
          refine go_nil ?_
          refine g_cond rfl (fun hc4 => ?_) (fun hc4 => ?_)
          · replace hj1 := cond_t hc4 hj1
            refine g_skip ?_
            refine g_seq ?_
            refine g_block ?_
            refine g_seq ?_
            obtain ⟨x12, hx10, hj1⟩ := bind_some hj1
            obtain ⟨⟨x13, x14⟩, hx11, hj1⟩ := bind_some hj1
            refine g_draw_c [9, 10] [0, 1, 2, 3, 4, 5, 6, 7, 8, 11] [0] Try_mixed (by decide +kernel) (by decide +kernel) rfl ?_
            refine gde_f rfl rfl rfl rfl rfl (o_load_box_agg 3 Try.isAgg37 Try.sizeOf37 rfl rfl rfl rfl (Nat.le_of_ble_eq_true rfl)) ?_
            refine gde_p rfl rfl rfl rfl rfl rfl (o_move rfl) ?_
            refine gde_p rfl rfl rfl rfl rfl rfl (o_move rfl) ?_
            refine gde_p rfl rfl rfl rfl rfl rfl (o_indexAddr_m Try.runUnderlying46 Try.sizeOf3 rfl rfl hx10) ?_
            refine gde_p rfl rfl rfl rfl rfl rfl (o_load Try.isAgg3 rfl rfl) ?_
            refine gde_p rfl rfl rfl rfl rfl rfl (o_call0 Try.call38 rfl (w_tree_Sub hx11)) ?_
            refine gde_p rfl rfl rfl rfl rfl rfl (o_move rfl) ?_
            refine gde_p rfl rfl rfl rfl rfl rfl (o_extract rfl rfl) ?_
            refine gde_p rfl rfl rfl rfl rfl rfl (o_extract rfl rfl) ?_
            refine gde_e rfl ?_
            refine gde_e rfl ?_
            refine gde_p rfl rfl rfl rfl rfl rfl (o_assign rfl) ?_
            refine gde_nil ?_
            refine gde2_t rfl rfl rfl (o_alloc_own Try.zeroValue37 (cs := [.list 9 ApiNode.d []]) rfl) ?_
            rintro _ _ ⟨b4, rfl, rfl⟩
            refine ⟨⟨trivial, o_load_box_agg 4 Try.isAgg37 Try.sizeOf37 rfl rfl rfl rfl (Nat.le_of_ble_eq_true rfl)⟩, ?_⟩
            refine gde2_u rfl rfl (o_store_box 0 Try.sizeOf37 rfl rfl rfl rfl rfl rfl rfl rfl (Nat.le_of_ble_eq_true rfl)) ?_
            rintro _ _ rfl
            refine ⟨⟨trivial, o_load_box_agg 4 Try.isAgg37 Try.sizeOf37 rfl rfl rfl rfl (Nat.le_of_ble_eq_true rfl)⟩, ?_⟩
            refine gde2_nil ?_
            refine g_seq ?_
            refine g_seq ?_
            refine g_region ?_
            refine go_p rfl rfl rfl (o_move rfl) ?_
            refine go_p rfl rfl rfl (o_cmp rfl rfl rfl) ?_
            refine go_nil ?_
            refine g_cond rfl (fun hc5 => ?_) (fun hc5 => ?_)
            · replace hj1 := cond_t hc5 hj1
              refine g_seq ?_
              refine g_region ?_
              refine go_p rfl rfl rfl (o_assign rfl) ?_
              refine go_nil ?_
              refine g_ret ?_
              obtain rfl := some_eq hj1
              replace hm1 := on_ret hm1
              exact retK (ret_one' rfl (ret_tmp rfl) (perm_drop _)) (congrArg (fun (p : Bool) => (.bool p : D)) (some_eq hm1))
            · replace hj1 := cond_f hc5 hj1
              refine g_skip ?_
              refine g_region ?_
              refine go_p rfl rfl rfl (o_move rfl) ?_
              refine go_p rfl rfl rfl (o_load_box_agg 0 Try.isAgg37 Try.sizeOf37 rfl rfl rfl rfl (Nat.le_of_ble_eq_true rfl)) ?_
              refine go_p rfl rfl rfl (o_buildSlice (xs := [_]) (f := ApiExpr.d) (l := [(⟨x13.l⟩ : ApiExpr)]) Try.runUnderlying49 Try.sizeOf37 Try.zeroValue37 rfl rfl rfl (fun _ => ⟨rfl, rfl, rfl⟩) rfl) ?_
              obtain ⟨hg12, hj1⟩ := grd_some hj1
              refine go_op rfl rfl rfl (o_append (a := _) 1 Try.underlying49 Try.type37 rfl rfl rfl rfl rfl rfl rfl (fun _ => rfl) (fun _ => rfl) hg12 (app_len hg12 rfl)) ?_
              rintro _ _ ⟨a_r1, cap_r1, rfl, rfl⟩
              refine go_ms (ms' := [box b4 37 [_], _, box b3 37 [_], box b2 37 [_], box b1 37 [_]]) rfl ?_
              refine go_p rfl rfl rfl (o_assign rfl) ?_
              refine go_nil ?_
              refine g_region ?_
              refine go_p rfl rfl rfl (o_move rfl) ?_
              obtain ⟨hg13, hj1⟩ := grd_some hj1
              refine go_p rfl rfl rfl (o_add rfl rfl (i64_id hg13)) ?_
              refine go_p rfl rfl rfl (o_assign rfl) ?_
              refine go_nil ?_
              exact ⟨_, (_, _), hj1, ⟨rfl, rfl, trivial⟩, ⟨rfl, rfl, rfl, trivial⟩, [_], rfl⟩
          · replace hj1 := cond_f hc4 hj1
            refine g_exit ?_
            exact ⟨_, (_, _), some_eq hj1, ⟨rfl, trivial⟩, ⟨rfl, rfl, trivial⟩, [], rfl⟩
        · rintro l1 ⟨a_r1, cap_r1⟩ hst
          subst hst
          replace hm1 := on_go hm1
          refine k_norm (L' := [(9, .v (.slice a_r1 l1.length cap_r1)), (1, _), (2, _)]) (ms' := [row a_r1 cap_r1 37 1 ApiExpr.d l1, _, _, _]) rfl rfl ?_
          refine g_seq ?_
          refine g_region ?_
          refine go_p rfl rfl rfl (o_load_box_agg 3 Try.isAgg37 Try.sizeOf37 rfl rfl rfl rfl (Nat.le_of_ble_eq_true rfl)) ?_
          refine go_p rfl rfl rfl (o_move rfl) ?_
          obtain ⟨⟨x15, x16⟩, hx14, hm1⟩ := bind_some hm1
          refine go_p rfl rfl rfl (o_call0 Try.call38 rfl (w_tree_Sub hx14)) ?_
          refine go_p rfl rfl rfl (o_move rfl) ?_
          refine go_p rfl rfl rfl (o_extract rfl rfl) ?_
          refine go_p rfl rfl rfl (o_extract rfl rfl) ?_
          refine go_op rfl rfl rfl (o_alloc_own Try.zeroValue37 (cs := [.list 9 ApiNode.d []]) rfl) ?_
          rintro _ _ ⟨b6, rfl, rfl⟩
          refine go_u rfl rfl (o_store_box 0 Try.sizeOf37 rfl rfl rfl rfl rfl rfl rfl rfl (Nat.le_of_ble_eq_true rfl)) ?_
          rintro _ _ rfl
          refine go_ms (ms' := [box b6 37 [_], _, box b3 37 [_], box b2 37 [_], box b1 37 [_]]) rfl ?_
          refine go_p rfl rfl rfl (o_assign rfl) ?_
          refine go_nil ?_
          refine g_seq ?_
          rcases cond_split hm1 with ⟨hg_3, hm1⟩ | ⟨hg_3, hm1⟩
          ·
            skip
            obtain ⟨x17, hx15, hm1⟩ := bind_some hm1
            obtain ⟨x18, hx16, hm1⟩ := bind_some hm1
            obtain ⟨x19, hx17, hm1⟩ := bind_some hm1
            refine g_draw 14 Try_mixed (by decide +kernel) ?_
            refine gd_p rfl rfl rfl (o_move rfl) ?_
            refine gd_p rfl rfl rfl (o_cmp rfl rfl rfl) ?_
            refine gd_p rfl rfl rfl (o_move rfl) ?_
            refine gd_want rfl rfl rfl hg_3 rfl rfl (o_fieldAddr_box fi_37_0 rfl) ?_
            refine gd_want rfl rfl rfl hg_3 rfl rfl (o_load_box 4 Try.isAgg35 rfl rfl rfl rfl) ?_
            refine gd_want rfl rfl rfl hg_3 rfl rfl (o_move rfl) ?_
            refine gd_want rfl rfl rfl hg_3 rfl rfl (o_indexAddr_m Try.runUnderlying35 Try.sizeOf40 rfl rfl hx15) ?_
            refine gd_want rfl rfl rfl hg_3 rfl rfl (o_load_agg Try.isAgg40 Try.sizeOf40 rfl rfl) ?_
            refine gd_want rfl rfl rfl hg_3 rfl rfl (o_move rfl) ?_
            refine gd_want rfl rfl rfl hg_3 rfl rfl (.view (peekE (i := 97) 1 rfl rfl rfl) (o_call0 Try.call35 rfl (w_tree_Join hx16))) ?_
            refine gd_want rfl rfl rfl hg_3 rfl rfl (o_load_box_agg 0 Try.isAgg37 Try.sizeOf37 rfl rfl rfl rfl (Nat.le_of_ble_eq_true rfl)) ?_
            refine gd_want rfl rfl rfl hg_3 rfl rfl (o_call0 Try.call34 rfl (w_syntagmaref05_SameList hx17)) ?_
            refine gd_p rfl rfl rfl (o_pickT rfl hg_3 rfl) ?_
            refine gd_p rfl rfl rfl (o_assign rfl) ?_
            refine gd_nil ?_
            refine go_nil ?_
            refine g_ret ?_
            exact retK (ret_one' rfl (ret_tmp rfl) (perm_drop _)) (congrArg (fun (p : Bool) => (.bool p : D)) (some_eq hm1))
          ·
            skip
            refine g_draw 14 Try_mixed (by decide +kernel) ?_
            refine gd_p rfl rfl rfl (o_move rfl) ?_
            refine gd_p rfl rfl rfl (o_cmp rfl rfl rfl) ?_
            refine gd_p rfl rfl rfl (o_move rfl) ?_
            refine gd_skip rfl rfl rfl hg_3 rfl rfl ?_
            refine gd_skip rfl rfl rfl hg_3 rfl rfl ?_
            refine gd_skip rfl rfl rfl hg_3 rfl rfl ?_
            refine gd_skip rfl rfl rfl hg_3 rfl rfl ?_
            refine gd_skip rfl rfl rfl hg_3 rfl rfl ?_
            refine gd_skip rfl rfl rfl hg_3 rfl rfl ?_
            refine gd_skip rfl rfl rfl hg_3 rfl rfl ?_
            refine gd_skip rfl rfl rfl hg_3 rfl rfl ?_
            refine gd_skip rfl rfl rfl hg_3 rfl rfl ?_
            refine gd_p rfl rfl rfl (o_pickF rfl hg_3 rfl) ?_
            refine gd_p rfl rfl rfl (o_assign rfl) ?_
            refine gd_nil ?_
            refine go_nil ?_
            refine g_ret ?_
            exact retK (ret_one' rfl (ret_tmp rfl) (perm_drop _)) (congrArg (fun (p : Bool) => (.bool p : D)) (some_eq hm1))

end Go.Proofs.Ytnnjgbcojdnhhaa
