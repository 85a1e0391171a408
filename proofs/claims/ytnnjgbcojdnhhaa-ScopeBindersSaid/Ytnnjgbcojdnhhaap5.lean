/- Part 5 of the proof: a program logic, what the functions compute, and what these answer; no condition. -/
import Derived.Test.Ytnnjgbcojdnhhaap4
import Derived.Test.YtnnjgbcojdnhhaaProg
set_option linter.unusedVariables false
set_option linter.unusedSimpArgs false
set_option maxRecDepth 100000
set_option maxHeartbeats 2000000
namespace Go.Proofs.Ytnnjgbcojdnhhaa
open Go.V
theorem w_syntagmalaw06_ScopeBinders {e1 : ApiExpr} {i1 : Int} {r_1 : Bool} (hm : m_syntagmalaw06_ScopeBinders e1 i1 = some r_1) : Fn0 Try.prog 11 [ApiExpr.d e1, .i64 i1] (.bool r_1) := by
  unfold m_syntagmalaw06_ScopeBinders at hm
  refine fn_intro Try.func11 rfl Try.ntmps11 rfl fun H0 fr w0 => ?_
  refine g_seq ?_
  refine g_region ?_
  refine go_op rfl rfl rfl (o_box_own rfl rfl rfl) ?_
  rintro _ _ ⟨b1, rfl, rfl⟩
  refine go_p rfl rfl rfl (o_assign rfl) ?_
  refine go_nil ?_
  refine g_seq ?_
  refine g_region ?_
  refine go_p rfl rfl rfl (o_load_box_agg 0 Try.isAgg37 Try.sizeOf37 rfl rfl rfl rfl (Nat.le_of_ble_eq_true rfl)) ?_
  obtain ⟨x1, hx1, hm⟩ := bind_some hm
  refine go_p rfl rfl rfl (o_call0 Try.call25 rfl (w_syntagmalaw05_Few hx1)) ?_
  refine go_u rfl rfl (o_store_box 0 Try.sizeOf37 rfl rfl rfl rfl rfl rfl rfl rfl (Nat.le_of_ble_eq_true rfl)) ?_
  rintro _ _ rfl
  refine go_ms (ms' := [box b1 37 [_]]) rfl ?_
  refine go_nil ?_
  refine g_seq ?_
  refine g_region ?_
  refine go_p rfl rfl rfl (o_load_box_agg 0 Try.isAgg37 Try.sizeOf37 rfl rfl rfl rfl (Nat.le_of_ble_eq_true rfl)) ?_
  obtain ⟨x2, hx2, hm⟩ := bind_some hm
  refine go_p rfl rfl rfl (o_call0 Try.call25 rfl (w_syntagmalaw05_Few hx2)) ?_
  obtain ⟨⟨x3, x4⟩, hx3, hm⟩ := bind_some hm
  refine go_p rfl rfl rfl (o_call0 Try.call52 rfl (w_scope_Binders hx3)) ?_
  refine go_p rfl rfl rfl (o_move rfl) ?_
  refine go_p rfl rfl rfl (o_extract rfl rfl) ?_
  refine go_p rfl rfl rfl (o_extract rfl rfl) ?_
  refine go_p rfl rfl rfl (o_assign rfl) ?_
  refine go_p rfl rfl rfl (o_assign rfl) ?_
  refine go_nil ?_
  refine g_seq ?_
  refine g_region ?_
  refine go_p rfl rfl rfl (o_load_box_agg 0 Try.isAgg37 Try.sizeOf37 rfl rfl rfl rfl (Nat.le_of_ble_eq_true rfl)) ?_
  obtain ⟨x5, hx4, hm⟩ := bind_some hm
  refine go_p rfl rfl rfl (o_call0 Try.call25 rfl (w_syntagmalaw05_Few hx4)) ?_
  refine go_p rfl rfl rfl (o_move rfl) ?_
  obtain ⟨⟨x6, x7⟩, hx5, hm⟩ := bind_some hm
  refine go_p rfl rfl rfl (o_call0 Try.call53 rfl (w_scope_Uses hx5)) ?_
  refine go_p rfl rfl rfl (o_move rfl) ?_
  refine go_p rfl rfl rfl (o_extract rfl rfl) ?_
  refine go_p rfl rfl rfl (o_extract rfl rfl) ?_
  refine go_p rfl rfl rfl (o_assign rfl) ?_
  refine go_p rfl rfl rfl (o_assign rfl) ?_
  refine go_nil ?_
  refine g_seq ?_
  refine g_seq ?_
  refine g_region ?_
  refine go_p rfl rfl rfl (o_load_box_agg 0 Try.isAgg37 Try.sizeOf37 rfl rfl rfl rfl (Nat.le_of_ble_eq_true rfl)) ?_
  obtain ⟨x8, hx6, hm⟩ := bind_some hm
  refine go_p rfl rfl rfl (o_call0 Try.call26 rfl (w_syntagmaref05_May hx6)) ?_
  refine go_p rfl rfl rfl (o_assign rfl) ?_
  refine go_nil ?_
  refine g_seq ?_
  refine g_region ?_
  refine go_p rfl rfl rfl (o_move rfl) ?_
  refine go_p rfl rfl rfl (o_cmp rfl rfl rfl) ?_
  refine go_nil ?_
  refine g_cond rfl (fun hc1 => ?_) (fun hc1 => ?_)
  · replace hm := cond_t hc1 hm
    refine g_seq ?_
    refine g_region ?_
    refine go_p rfl rfl rfl (o_move rfl) ?_
    refine go_p rfl rfl rfl (o_move rfl) ?_
    refine go_p rfl rfl rfl (o_cmp rfl rfl rfl) ?_
    refine go_p rfl rfl rfl (o_move rfl) ?_
    apply go_and [(5, _), (7, _)] 4 38 (t := 34) ⟨rfl, rfl, trivial⟩ rfl
    · intro hg_1 hk1
      refine go_wantp rfl rfl rfl hg_1 rfl rfl (o_move rfl) ?_
      refine go_wantp rfl rfl rfl hg_1 rfl rfl (o_move rfl) ?_
      refine go_wantp rfl rfl rfl hg_1 rfl rfl (o_cmp rfl rfl rfl) ?_
      refine go_p rfl rfl rfl (o_pickT rfl hg_1 rfl) ?_
      exact go_meet hk1 (rfl) ⟨rfl, rfl, trivial⟩
    · intro hg_1 hk1
      refine go_skip rfl rfl rfl hg_1 rfl rfl ?_
      refine go_skip rfl rfl rfl hg_1 rfl rfl ?_
      refine go_skip rfl rfl rfl hg_1 rfl rfl ?_
      refine go_p rfl rfl rfl (o_pickF rfl hg_1 rfl) ?_
      exact go_meet hk1 (rfl) ⟨rfl, rfl, trivial⟩
    refine go_p rfl rfl rfl (o_move rfl) ?_
    obtain ⟨p1, hp_2, hm⟩ := bind_some hm
    refine go_two [] 7 46 p1 (t := 39) trivial rfl (fun hg_2 hk2 => ?_) (fun hg_2 hk2 => ?_) ?_
    · replace hp_2 := cond_t hg_2 hp_2
      refine go_wantp rfl rfl rfl hg_2 rfl rfl (o_move rfl) ?_
      refine go_wantp rfl rfl rfl hg_2 rfl rfl (o_len Try.runUnderlying70 rfl) ?_
      refine go_wantp rfl rfl rfl hg_2 rfl rfl (o_move rfl) ?_
      refine go_wantp rfl rfl rfl hg_2 rfl rfl (o_len Try.runUnderlying46 rfl) ?_
      obtain ⟨hg7, hp_2⟩ := grd_some hp_2
      refine go_wantp rfl rfl rfl hg_2 rfl rfl (o_add rfl rfl (i64_id hg7)) ?_
      refine go_wantp rfl rfl rfl hg_2 rfl rfl (o_cmp rfl rfl rfl) ?_
      refine go_p rfl rfl rfl (o_pickT rfl hg_2 rfl) ?_
      exact go_meet hk2 (congrArg (fun b => some (D.bool b)) (some_eq hp_2)) trivial
    · replace hp_2 := cond_f hg_2 hp_2
      refine go_skip rfl rfl rfl hg_2 rfl rfl ?_
      refine go_skip rfl rfl rfl hg_2 rfl rfl ?_
      refine go_skip rfl rfl rfl hg_2 rfl rfl ?_
      refine go_skip rfl rfl rfl hg_2 rfl rfl ?_
      refine go_skip rfl rfl rfl hg_2 rfl rfl ?_
      refine go_skip rfl rfl rfl hg_2 rfl rfl ?_
      refine go_p rfl rfl rfl (o_pickF rfl hg_2 rfl) ?_
      exact go_meet hk2 (congrArg (fun b => some (D.bool b)) (some_eq hp_2)) trivial
    refine go_p rfl rfl rfl (o_move rfl) ?_
    obtain ⟨p2, hp_3, hm⟩ := bind_some hm
    refine go_two [] 2 49 p2 (t := 47) trivial rfl (fun hg_3 hk3 => ?_) (fun hg_3 hk3 => ?_) ?_
    · replace hp_3 := cond_t hg_3 hp_3
      obtain ⟨x9, hx8, hp_3⟩ := bind_some hp_3
      refine go_wantp rfl rfl rfl hg_3 rfl rfl (o_call0 Try.call47 rfl (w_syntagmalaw06_works hx8)) ?_
      refine go_p rfl rfl rfl (o_pickT rfl hg_3 rfl) ?_
      exact go_meet hk3 (congrArg (fun b => some (D.bool b)) (some_eq hp_3)) trivial
    · replace hp_3 := cond_f hg_3 hp_3
      refine go_skip rfl rfl rfl hg_3 rfl rfl ?_
      refine go_p rfl rfl rfl (o_pickF rfl hg_3 rfl) ?_
      exact go_meet hk3 (congrArg (fun b => some (D.bool b)) (some_eq hp_3)) trivial
    refine go_p rfl rfl rfl (o_assign rfl) ?_
    refine go_nil ?_
    refine g_ret ?_
    exact retK (ret_one' rfl (ret_tmp rfl) (perm_drop _)) (congrArg (fun (p : Bool) => (.bool p : D)) (some_eq hm))
  · replace hm := cond_f hc1 hm
    refine g_skip ?_
    refine g_seq ?_
    refine g_region ?_
    refine go_p rfl rfl rfl (o_load_box_agg 0 Try.isAgg37 Try.sizeOf37 rfl rfl rfl rfl (Nat.le_of_ble_eq_true rfl)) ?_
    obtain ⟨x10, hx9, hm⟩ := bind_some hm
    refine go_p rfl rfl rfl (o_call0 Try.call54 rfl (w_syntagmaref06_Binders hx9)) ?_
    refine go_p rfl rfl rfl (o_assign rfl) ?_
    refine go_nil ?_
    refine g_seq ?_
    refine g_seq ?_
    refine g_region ?_
    refine go_p rfl rfl rfl (o_move rfl) ?_
    refine go_p rfl rfl rfl (o_cmp rfl rfl rfl) ?_
    refine go_p rfl rfl rfl (o_move rfl) ?_
    apply go_or [(1, _), (2, _), (5, _), (7, _), (8, _), (10, _)] 6 60 (t := 54) ⟨rfl, rfl, rfl, rfl, rfl, rfl, trivial⟩ rfl
    · intro hg_4 hk4
      refine go_wantp rfl rfl rfl hg_4 rfl rfl (o_move rfl) ?_
      refine go_wantp rfl rfl rfl hg_4 rfl rfl (o_len Try.runUnderlying70 rfl) ?_
      refine go_wantp rfl rfl rfl hg_4 rfl rfl (o_move rfl) ?_
      refine go_wantp rfl rfl rfl hg_4 rfl rfl (o_len Try.runUnderlying75 rfl) ?_
      refine go_wantp rfl rfl rfl hg_4 rfl rfl (o_cmp rfl rfl rfl) ?_
      refine go_p rfl rfl rfl (o_pickF rfl hg_4 rfl) ?_
      exact go_meet hk4 (rfl) ⟨rfl, rfl, rfl, rfl, rfl, rfl, trivial⟩
    · intro hg_4 hk4
      refine go_skip rfl rfl rfl hg_4 rfl rfl ?_
      refine go_skip rfl rfl rfl hg_4 rfl rfl ?_
      refine go_skip rfl rfl rfl hg_4 rfl rfl ?_
      refine go_skip rfl rfl rfl hg_4 rfl rfl ?_
      refine go_skip rfl rfl rfl hg_4 rfl rfl ?_
      refine go_p rfl rfl rfl (o_pickT rfl hg_4 rfl) ?_
      exact go_meet hk4 (rfl) ⟨rfl, rfl, rfl, rfl, rfl, rfl, trivial⟩
    refine go_nil ?_
    refine g_cond rfl (fun hc2 => ?_) (fun hc2 => ?_)
    · replace hm := cond_t hc2 hm
      refine g_seq ?_
      refine g_region ?_
      refine go_p rfl rfl rfl (o_assign rfl) ?_
      refine go_nil ?_
      refine g_ret ?_
      exact retK (ret_one' rfl (ret_tmp rfl) (perm_drop _)) (congrArg (fun (p : Bool) => (.bool p : D)) (some_eq hm))
    · replace hm := cond_f hc2 hm
      refine g_skip ?_
      refine g_seq ?_
      refine g_seq ?_
      refine g_region ?_
      refine go_p rfl rfl rfl (o_assign rfl) ?_
      refine go_nil ?_
      obtain ⟨o_1, hj1, hm1⟩ := bind_some hm
      refine g_cut_m [(1, _), (2, _), (7, _), (8, _)] [(0, _)] (fun (st : Unit) (hid : Unit) => match st, hid with | _, _ => []) (fun F (st : Unit) (hid : Unit) => match st, hid with | _, _ => [(nthF F 0)]) (fun st => Out.go (st) = o_1) ⟨rfl, rfl, rfl, rfl, trivial⟩ ⟨rfl, trivial⟩ ?_ ?_
      · skip
        refine g_block ?_
        refine g_loop_m [(1, _), (2, _), (5, _), (7, _), (8, _), (10, _)] [(0, _)] (fun (st : Int) (hid : Unit) => match st, hid with | k1, _ => [(11, .i64 k1)]) (fun F (st : Int) (hid : Unit) => match st, hid with | k1, _ => [(nthF F 0)]) () hj1 (fun _ => rfl) ⟨rfl, rfl, rfl, rfl, rfl, rfl, trivial⟩ ⟨rfl, trivial⟩ ⟨rfl, trivial⟩ rfl ?_
        rintro n k1 _ hj1
        rw [m_syntagmalaw06_ScopeBinders_l1] at hj1
        refine g_norm (L' := [(11, .i64 k1), (1, _), (2, _), (5, _), (7, _), (8, _), (10, _)]) (ms' := [_]) rfl rfl ?_
        refine g_seq ?_
        refine g_seq ?_
        refine g_region ?_
        refine go_p rfl rfl rfl (o_move rfl) ?_
        refine go_p rfl rfl rfl (o_move rfl) ?_
        refine go_p rfl rfl rfl (o_len Try.runUnderlying70 rfl) ?_
        refine go_p rfl rfl rfl (o_cmp rfl rfl rfl) ?_
        refine go_nil ?_
        refine g_cond rfl (fun hc3 => ?_) (fun hc3 => ?_)
        · replace hj1 := cond_t hc3 hj1
          refine g_skip ?_
          refine g_seq ?_
          refine g_block ?_
          refine g_seq ?_
          obtain ⟨x11, hx10, hj1⟩ := bind_some hj1
          obtain ⟨x12, hx11, hj1⟩ := bind_some hj1
          rcases cond_split hj1 with ⟨hg_5, hj1⟩ | ⟨hg_5, hj1⟩
          ·
            skip
            refine g_draw 24 Try_mixed (by decide +kernel) ?_
            refine gd_p rfl rfl rfl (o_move rfl) ?_
            refine gd_p rfl rfl rfl (o_move rfl) ?_
            refine gd_p rfl rfl rfl (o_indexAddr_m Try.runUnderlying70 Try.sizeOf78 rfl rfl hx10) ?_
            refine gd_p rfl rfl rfl (o_fieldAddr fi_78_0 rfl rfl rfl) ?_
            refine gd_p rfl rfl rfl (o_load Try.isAgg3 rfl rfl) ?_
            refine gd_p rfl rfl rfl (o_move rfl) ?_
            refine gd_p rfl rfl rfl (o_move rfl) ?_
            refine gd_p rfl rfl rfl (o_indexAddr_m Try.runUnderlying75 Try.sizeOf79 rfl rfl hx11) ?_
            refine gd_p rfl rfl rfl (o_fieldAddr fi_79_0 rfl rfl rfl) ?_
            refine gd_p rfl rfl rfl (o_load Try.isAgg3 rfl rfl) ?_
            refine gd_p rfl rfl rfl (o_cmp rfl rfl rfl) ?_
            refine gd_p rfl rfl rfl (o_move rfl) ?_
            refine gd_skip rfl rfl rfl hg_5 rfl rfl ?_
            refine gd_skip rfl rfl rfl hg_5 rfl rfl ?_
            refine gd_skip rfl rfl rfl hg_5 rfl rfl ?_
            refine gd_skip rfl rfl rfl hg_5 rfl rfl ?_
            refine gd_skip rfl rfl rfl hg_5 rfl rfl ?_
            refine gd_skip rfl rfl rfl hg_5 rfl rfl ?_
            refine gd_skip rfl rfl rfl hg_5 rfl rfl ?_
            refine gd_skip rfl rfl rfl hg_5 rfl rfl ?_
            refine gd_skip rfl rfl rfl hg_5 rfl rfl ?_
            refine gd_skip rfl rfl rfl hg_5 rfl rfl ?_
            refine gd_skip rfl rfl rfl hg_5 rfl rfl ?_
            refine gd_p rfl rfl rfl (o_pickT rfl hg_5 rfl) ?_
            refine gd_nil ?_
            refine go_nil ?_
            refine g_cond_true rfl rfl ?_
            refine g_seq ?_
            refine g_region ?_
            refine go_p rfl rfl rfl (o_assign rfl) ?_
            refine go_nil ?_
            refine g_ret ?_
            obtain rfl := some_eq hj1
            replace hm1 := on_ret hm1
            exact retK (ret_one' rfl (ret_tmp rfl) (perm_drop _)) (congrArg (fun (p : Bool) => (.bool p : D)) (some_eq hm1))
          ·
            skip
            obtain ⟨x13, hx12, hj1⟩ := bind_some hj1
            obtain ⟨x14, hx13, hj1⟩ := bind_some hj1
            refine g_draw 24 Try_mixed (by decide +kernel) ?_
            refine gd_p rfl rfl rfl (o_move rfl) ?_
            refine gd_p rfl rfl rfl (o_move rfl) ?_
            refine gd_p rfl rfl rfl (o_indexAddr_m Try.runUnderlying70 Try.sizeOf78 rfl rfl hx10) ?_
            refine gd_p rfl rfl rfl (o_fieldAddr fi_78_0 rfl rfl rfl) ?_
            refine gd_p rfl rfl rfl (o_load Try.isAgg3 rfl rfl) ?_
            refine gd_p rfl rfl rfl (o_move rfl) ?_
            refine gd_p rfl rfl rfl (o_move rfl) ?_
            refine gd_p rfl rfl rfl (o_indexAddr_m Try.runUnderlying75 Try.sizeOf79 rfl rfl hx11) ?_
            refine gd_p rfl rfl rfl (o_fieldAddr fi_79_0 rfl rfl rfl) ?_
            refine gd_p rfl rfl rfl (o_load Try.isAgg3 rfl rfl) ?_
            refine gd_p rfl rfl rfl (o_cmp rfl rfl rfl) ?_
            refine gd_p rfl rfl rfl (o_move rfl) ?_
            refine gd_want rfl rfl rfl hg_5 rfl rfl (o_move rfl) ?_
            refine gd_want rfl rfl rfl hg_5 rfl rfl (o_move rfl) ?_
            refine gd_want rfl rfl rfl hg_5 rfl rfl (o_indexAddr_m Try.runUnderlying70 Try.sizeOf78 rfl rfl hx12) ?_
            refine gd_want rfl rfl rfl hg_5 rfl rfl (o_fieldAddr fi_78_1 rfl rfl rfl) ?_
            refine gd_want rfl rfl rfl hg_5 rfl rfl (o_load Try.isAgg3 rfl rfl) ?_
            refine gd_want rfl rfl rfl hg_5 rfl rfl (o_move rfl) ?_
            refine gd_want rfl rfl rfl hg_5 rfl rfl (o_move rfl) ?_
            refine gd_want rfl rfl rfl hg_5 rfl rfl (o_indexAddr_m Try.runUnderlying75 Try.sizeOf79 rfl rfl hx13) ?_
            refine gd_want rfl rfl rfl hg_5 rfl rfl (o_fieldAddr fi_79_1 rfl rfl rfl) ?_
            refine gd_want rfl rfl rfl hg_5 rfl rfl (o_load Try.isAgg3 rfl rfl) ?_
            refine gd_want rfl rfl rfl hg_5 rfl rfl (o_cmp rfl rfl rfl) ?_
            refine gd_p rfl rfl rfl (o_pickF rfl hg_5 rfl) ?_
            refine gd_nil ?_
            refine go_nil ?_
            refine g_cond rfl (fun hc4 => ?_) (fun hc4 => ?_)
            · replace hj1 := cond_t hc4 hj1
              refine g_seq ?_
              refine g_region ?_
              refine go_p rfl rfl rfl (o_assign rfl) ?_
              refine go_nil ?_
              refine g_ret ?_
              obtain rfl := some_eq hj1
              replace hm1 := on_ret hm1
              exact retK (ret_one' rfl (ret_tmp rfl) (perm_drop _)) (congrArg (fun (p : Bool) => (.bool p : D)) (some_eq hm1))
            · replace hj1 := cond_f hc4 hj1
              refine g_skip ?_
              refine g_region ?_
              refine go_p rfl rfl rfl (o_move rfl) ?_
              obtain ⟨hg14, hj1⟩ := grd_some hj1
              refine go_p rfl rfl rfl (o_add rfl rfl (i64_id hg14)) ?_
              refine go_p rfl rfl rfl (o_assign rfl) ?_
              refine go_nil ?_
              exact ⟨_, (), hj1, ⟨rfl, trivial⟩, ⟨rfl, rfl, rfl, rfl, rfl, rfl, trivial⟩, [], rfl⟩
        · replace hj1 := cond_f hc3 hj1
          refine g_exit ?_
          exact ⟨_, (), some_eq hj1, trivial, ⟨rfl, rfl, rfl, rfl, trivial⟩, [], rfl⟩
      · rintro _ _ hst
        subst hst
        replace hm1 := on_go hm1
        refine k_norm (L' := [(1, _), (2, _), (7, _), (8, _)]) (ms' := [_]) rfl rfl ?_
        refine g_seq ?_
        refine g_seq ?_
        refine g_region ?_
        refine go_p rfl rfl rfl (o_move rfl) ?_
        refine go_p rfl rfl rfl (o_cmp rfl rfl rfl) ?_
        refine go_p rfl rfl rfl (o_move rfl) ?_
        apply go_or [(1, _), (2, _), (7, _), (8, _)] 6 99 (t := 93) ⟨rfl, rfl, rfl, rfl, trivial⟩ rfl
        · intro hg_6 hk6
          refine go_wantp rfl rfl rfl hg_6 rfl rfl (o_move rfl) ?_
          refine go_wantp rfl rfl rfl hg_6 rfl rfl (o_fieldAddr_box fi_37_0 rfl) ?_
          refine go_wantp rfl rfl rfl hg_6 rfl rfl (o_load_box 0 Try.isAgg35 rfl rfl rfl rfl) ?_
          refine go_wantp rfl rfl rfl hg_6 rfl rfl (o_len Try.runUnderlying35 rfl) ?_
          refine go_wantp rfl rfl rfl hg_6 rfl rfl (o_cmp rfl rfl rfl) ?_
          refine go_p rfl rfl rfl (o_pickF rfl hg_6 rfl) ?_
          exact go_meet hk6 (rfl) ⟨rfl, rfl, rfl, rfl, trivial⟩
        · intro hg_6 hk6
          refine go_skip rfl rfl rfl hg_6 rfl rfl ?_
          refine go_skip rfl rfl rfl hg_6 rfl rfl ?_
          refine go_skip rfl rfl rfl hg_6 rfl rfl ?_
          refine go_skip rfl rfl rfl hg_6 rfl rfl ?_
          refine go_skip rfl rfl rfl hg_6 rfl rfl ?_
          refine go_p rfl rfl rfl (o_pickT rfl hg_6 rfl) ?_
          exact go_meet hk6 (rfl) ⟨rfl, rfl, rfl, rfl, trivial⟩
        refine go_nil ?_
        refine g_cond rfl (fun hc5 => ?_) (fun hc5 => ?_)
        · replace hm1 := cond_t hc5 hm1
          refine g_seq ?_
          refine g_region ?_
          refine go_p rfl rfl rfl (o_move rfl) ?_
          refine go_p rfl rfl rfl (o_cmp rfl rfl rfl) ?_
          refine go_p rfl rfl rfl (o_move rfl) ?_
          apply go_and [] 4 106 (t := 102) trivial rfl
          · intro hg_7 hk7
            refine go_wantp rfl rfl rfl hg_7 rfl rfl (o_move rfl) ?_
            refine go_wantp rfl rfl rfl hg_7 rfl rfl (o_len Try.runUnderlying46 rfl) ?_
            refine go_wantp rfl rfl rfl hg_7 rfl rfl (o_cmp rfl rfl rfl) ?_
            refine go_p rfl rfl rfl (o_pickT rfl hg_7 rfl) ?_
            exact go_meet hk7 (rfl) trivial
          · intro hg_7 hk7
            refine go_skip rfl rfl rfl hg_7 rfl rfl ?_
            refine go_skip rfl rfl rfl hg_7 rfl rfl ?_
            refine go_skip rfl rfl rfl hg_7 rfl rfl ?_
            refine go_p rfl rfl rfl (o_pickF rfl hg_7 rfl) ?_
            exact go_meet hk7 (rfl) trivial
          refine go_p rfl rfl rfl (o_move rfl) ?_
          obtain ⟨p3, hp_8, hm1⟩ := bind_some hm1
          refine go_two [] 2 109 p3 (t := 107) trivial rfl (fun hg_8 hk8 => ?_) (fun hg_8 hk8 => ?_) ?_
          · replace hp_8 := cond_t hg_8 hp_8
            obtain ⟨x15, hx15, hp_8⟩ := bind_some hp_8
            refine go_wantp rfl rfl rfl hg_8 rfl rfl (o_call0 Try.call47 rfl (w_syntagmalaw06_works hx15)) ?_
            refine go_p rfl rfl rfl (o_pickT rfl hg_8 rfl) ?_
            exact go_meet hk8 (congrArg (fun b => some (D.bool b)) (some_eq hp_8)) trivial
          · replace hp_8 := cond_f hg_8 hp_8
            refine go_skip rfl rfl rfl hg_8 rfl rfl ?_
            refine go_p rfl rfl rfl (o_pickF rfl hg_8 rfl) ?_
            exact go_meet hk8 (congrArg (fun b => some (D.bool b)) (some_eq hp_8)) trivial
          refine go_p rfl rfl rfl (o_assign rfl) ?_
          refine go_nil ?_
          refine g_ret ?_
          exact retK (ret_one' rfl (ret_tmp rfl) (perm_drop _)) (congrArg (fun (p : Bool) => (.bool p : D)) (some_eq hm1))
        · replace hm1 := cond_f hc5 hm1
          refine g_skip ?_
          refine g_seq ?_
          refine g_region ?_
          refine go_p rfl rfl rfl (o_move rfl) ?_
          refine go_p rfl rfl rfl (o_cmp rfl rfl rfl) ?_
          refine go_p rfl rfl rfl (o_move rfl) ?_
          obtain ⟨p4, hp_9, hm1⟩ := bind_some hm1
          refine go_two [] 6 118 p4 (t := 112) trivial rfl (fun hg_9 hk9 => ?_) (fun hg_9 hk9 => ?_) ?_
          · replace hp_9 := cond_t hg_9 hp_9
            refine go_wantp rfl rfl rfl hg_9 rfl rfl (o_move rfl) ?_
            refine go_wantp rfl rfl rfl hg_9 rfl rfl (o_load_box_agg 0 Try.isAgg37 Try.sizeOf37 rfl rfl rfl rfl (Nat.le_of_ble_eq_true rfl)) ?_
            refine go_wantp rfl rfl rfl hg_9 rfl rfl (o_move rfl) ?_
            obtain ⟨x16, hx16, hp_9⟩ := bind_some hp_9
            refine go_wantp rfl rfl rfl hg_9 rfl rfl (o_call0 Try.call55 rfl (w_syntagmaref06_Uses hx16)) ?_
            obtain ⟨x17, hx17, hp_9⟩ := bind_some hp_9
            refine go_wantp rfl rfl rfl hg_9 rfl rfl (o_call0 Try.call30 rfl (w_syntagmabase_SameInts hx17)) ?_
            refine go_p rfl rfl rfl (o_pickT rfl hg_9 rfl) ?_
            exact go_meet hk9 (congrArg (fun b => some (D.bool b)) (some_eq hp_9)) trivial
          · replace hp_9 := cond_f hg_9 hp_9
            refine go_skip rfl rfl rfl hg_9 rfl rfl ?_
            refine go_skip rfl rfl rfl hg_9 rfl rfl ?_
            refine go_skip rfl rfl rfl hg_9 rfl rfl ?_
            refine go_skip rfl rfl rfl hg_9 rfl rfl ?_
            refine go_skip rfl rfl rfl hg_9 rfl rfl ?_
            refine go_p rfl rfl rfl (o_pickF rfl hg_9 rfl) ?_
            exact go_meet hk9 (congrArg (fun b => some (D.bool b)) (some_eq hp_9)) trivial
          refine go_p rfl rfl rfl (o_move rfl) ?_
          obtain ⟨p5, hp_10, hm1⟩ := bind_some hm1
          refine go_two [] 2 121 p5 (t := 119) trivial rfl (fun hg_10 hk10 => ?_) (fun hg_10 hk10 => ?_) ?_
          · replace hp_10 := cond_t hg_10 hp_10
            obtain ⟨x18, hx18, hp_10⟩ := bind_some hp_10
            refine go_wantp rfl rfl rfl hg_10 rfl rfl (o_call0 Try.call47 rfl (w_syntagmalaw06_works hx18)) ?_
            refine go_p rfl rfl rfl (o_pickT rfl hg_10 rfl) ?_
            exact go_meet hk10 (congrArg (fun b => some (D.bool b)) (some_eq hp_10)) trivial
          · replace hp_10 := cond_f hg_10 hp_10
            refine go_skip rfl rfl rfl hg_10 rfl rfl ?_
            refine go_p rfl rfl rfl (o_pickF rfl hg_10 rfl) ?_
            exact go_meet hk10 (congrArg (fun b => some (D.bool b)) (some_eq hp_10)) trivial
          refine go_p rfl rfl rfl (o_assign rfl) ?_
          refine go_nil ?_
          refine g_ret ?_
          exact retK (ret_one' rfl (ret_tmp rfl) (perm_drop _)) (congrArg (fun (p : Bool) => (.bool p : D)) (some_eq hm1))
end Go.Proofs.Ytnnjgbcojdnhhaa
set_option linter.unusedVariables false
set_option linter.unusedSimpArgs false
set_option maxRecDepth 100000
namespace Go.Proofs.Ytnnjgbcojdnhhaa
open Go.V
open Classical
theorem FUv : FU = 18446744073709551616 := rfl
theorem bt (b c : Bool) : (bif b then some true else some c : Option Bool) = some (b || c) := by cases b <;> rfl
theorem bf (b c : Bool) : (bif b then some c else some false : Option Bool) = some (b && c) := by cases b <;> rfl
def smallB (c : UInt8) : Bool := (decide (97 ≤ (c.toNat : Int)) && decide ((c.toNat : Int) ≤ 122)) || decide ((c.toNat : Int) = 95)
def greatB (c : UInt8) : Bool := decide (65 ≤ (c.toNat : Int)) && decide ((c.toNat : Int) ≤ 90)
def moreB (c : UInt8) : Bool := (smallB c || greatB c) || (decide (48 ≤ (c.toNat : Int)) && decide ((c.toNat : Int) ≤ 57))
def wordP : List UInt8 → Nat
  | [] => 0
  | c :: r => if smallB c = true ∨ greatB c = true then 1 + (r.takeWhile moreB).length else 0
theorem word_c (c : UInt8) (r : List UInt8) : wordP (c :: r) = if smallB c = true ∨ greatB c = true then 1 + (r.takeWhile moreB).length else 0 := rfl
theorem word_eq (s : List UInt8) (h : s.length ≤ 1000000000000) : m_name_Word s = some (wordP s : Int) := by
  unfold m_name_Word
  rcases s with _ | ⟨c, r⟩
  · rfl
  · rw [decide_eq_false (by simp), cond_false, idx_c0, Option.bind_some]
    simp only [m_name_small, m_name_great, Option.bind_some, bf]
    rw [show (((decide (97 ≤ (c.toNat : Int))) && (decide ((c.toNat : Int) ≤ 122))) || (decide ((c.toNat : Int) = 95))) = smallB c from rfl, show ((decide (65 ≤ (c.toNat : Int))) && (decide ((c.toNat : Int) ≤ 90))) = greatB c from rfl]
    rw [word_c]
    cases h1 : smallB c || greatB c with
    | false =>
      simp only [Bool.or_eq_false_iff] at h1
      rw [h1.1, h1.2]; simp
    | true =>
      rw [if_pos (by simpa using h1)]
      have : (!smallB c && !greatB c) = false := by cases hs : smallB c <;> cases hg : greatB c <;> simp_all
      rw [this, cond_false]
      simp only [List.length_cons] at h
      refine bnd (loop_while (φ := m_name_Word_l1 (c :: r)) (l := c :: r) moreB (fun i => (i : Int)) ?_ ?_ FU 1 (by simp) (by rw [FUv]; simp; omega)) rfl
      · intro n i x hx hi
        simp only [List.length_cons] at hi
        simp only [m_name_Word_l1]
        rw [decide_eq_true (by simp only [List.length_cons]; omega), cond_true, getI hx, Option.bind_some]
        simp only [m_name_more, m_name_small, m_name_great, Option.bind_some, bt]
        constructor
        · intro hq
          simp only [moreB, smallB, greatB] at hq
          rw [hq, cond_true, grd_pos (by omega)]
        · intro hq
          simp only [moreB, smallB, greatB] at hq
          rw [hq, cond_false]
      · intro n
        simp only [m_name_Word_l1]
        rw [decide_eq_false (by omega), cond_false, Option.bind_some, cond_false]
theorem rword_eq (s : List UInt8) (h : s.length ≤ 1000000000000) : m_syntagmaref03_Word s = some (wordP s : Int) := by
  unfold m_syntagmaref03_Word
  rcases s with _ | ⟨c, r⟩
  · rfl
  · rw [decide_eq_false (by simp; omega), cond_false, idx_c0, Option.bind_some]
    simp only [m_syntagmaref03_small, m_syntagmaref03_great, Option.bind_some, bf]
    rw [show (((decide (97 ≤ (c.toNat : Int))) && (decide ((c.toNat : Int) ≤ 122))) || (decide ((c.toNat : Int) = 95))) = smallB c from rfl, show ((decide (65 ≤ (c.toNat : Int))) && (decide ((c.toNat : Int) ≤ 90))) = greatB c from rfl]
    rw [word_c]
    cases h1 : smallB c || greatB c with
    | false =>
      simp only [Bool.or_eq_false_iff] at h1
      rw [h1.1, h1.2]; simp
    | true =>
      rw [if_pos (by simpa using h1)]
      have : (!smallB c && !greatB c) = false := by cases hs : smallB c <;> cases hg : greatB c <;> simp_all
      rw [this, cond_false]
      simp only [List.length_cons] at h
      refine bnd (loop_while (φ := m_syntagmaref03_Word_l1 (c :: r)) (l := c :: r) moreB (fun i => (i : Int)) ?_ ?_ FU 1 (by simp) (by rw [FUv]; simp; omega)) rfl
      · intro n i x hx hi
        simp only [List.length_cons] at hi
        simp only [m_syntagmaref03_Word_l1]
        rw [decide_eq_true (by simp only [List.length_cons]; omega), cond_true, getI hx, Option.bind_some]
        simp only [m_syntagmaref03_small, m_syntagmaref03_great, Option.bind_some, bt, bf]
        constructor
        · intro hq
          simp only [moreB, smallB, greatB] at hq
          rw [hq, cond_true, grd_pos (by omega)]
        · intro hq
          simp only [moreB, smallB, greatB] at hq
          rw [hq, cond_false]
      · intro n
        simp only [m_syntagmaref03_Word_l1]
        rw [decide_eq_false (by omega), cond_false, Option.bind_some, cond_false]
def keysL : List (List UInt8) := match m_name_Keywords with | some l => l | none => []
theorem keys_eq : m_name_Keywords = some keysL := rfl
theorem rkeys_eq : m_syntagmaref03_Keywords = some keysL := rfl
theorem isKey_eq (l : List (List UInt8)) (s : List UInt8) (h : l.length ≤ 1000) : m_slices_Contains_string_string l s = some (decide (s ∈ l)) := by
  unfold m_slices_Contains_string_string m_slices_Index_string_string
  have e := loop_find (φ := m_slices_Index_string_string_l1 l s) (l := l) (fun i => (i : Int)) (fun x => decide (s = x)) (by
    intro n i x hx hi
    simp only [m_slices_Index_string_string_l1]
    rw [decide_eq_true (show (i : Int) < l.length by omega), cond_true, getI hx, Option.bind_some]
    constructor
    · intro hq; rw [show decide (s = x) = false from by simpa using hq, cond_false, grd_pos (by omega)]
    · intro hq; rw [show decide (s = x) = true from by simpa using hq, cond_true]) (by
    intro n
    simp only [m_slices_Index_string_string_l1]
    rw [decide_eq_false (by omega), cond_false]) (by rw [FUv]; omega)
  rw [bind_of e]
  cases hf : l.findIdx? (fun x => decide (s = x)) with
  | none =>
    rw [List.findIdx?_eq_none_iff] at hf
    show some (decide _) = _
    congr 1
    rw [decide_eq_false (by omega), decide_eq_false]
    intro hs
    have := hf s hs
    simp at this
  | some k =>
    rw [List.findIdx?_eq_some_iff_getElem] at hf
    obtain ⟨hk, h1, _⟩ := hf
    show some (decide _) = _
    congr 1
    rw [decide_eq_true (by omega), decide_eq_true]
    simp only [decide_eq_true_eq] at h1
    rw [h1]
    exact List.getElem_mem hk
theorem rIsKey_eq (l : List (List UInt8)) (s : List UInt8) (h : l.length ≤ 1000) : m_syntagmaref03_In s l = some (decide (s ∈ l)) := by
  unfold m_syntagmaref03_In
  refine bnd (loop_any (φ := m_syntagmaref03_In_l1 s l) (l := l) true (fun _ x => x = s) ?_ ?_ (by rw [FUv]; omega)) ?_
  · intro n i x hx hi
    simp only [m_syntagmaref03_In_l1]
    rw [decide_eq_true (by omega), cond_true, getI hx, Option.bind_some]
    constructor
    · intro hq; rw [decide_eq_false hq, cond_false, grd_pos (by omega)]
    · intro hq; rw [decide_eq_true hq, cond_true]
  · intro n
    simp only [m_syntagmaref03_In_l1]
    rw [decide_eq_false (by omega), cond_false]
  · by_cases hs : s ∈ l
    · obtain ⟨i, hi, h2⟩ := List.getElem_of_mem hs
      rw [if_pos ⟨i, s, by rw [← h2]; exact List.getElem?_eq_getElem hi, rfl⟩, decide_eq_true hs]; rfl
    · rw [if_neg, decide_eq_false hs]; rfl
      rintro ⟨i, x, h1, rfl⟩
      exact hs (List.mem_of_getElem? h1)
def headP (p : UInt8 → Bool) : List UInt8 → Bool
  | [] => false
  | c :: _ => p c
def wholeP (s : List UInt8) : Bool := decide (s ≠ []) && decide (s.length ≤ 20) && decide (wordP s = s.length)
def nameP (s : List UInt8) : Bool := wholeP s && headP smallB s && !decide (s ∈ keysL)
def tagP (s : List UInt8) : Bool := wholeP s && headP greatB s
theorem whole_eq (s : List UInt8) : m_name_whole s = some (wholeP s) := by
  unfold m_name_whole wholeP
  by_cases h1 : s = []
  · subst h1; rfl
  by_cases h2 : s.length ≤ 20
  · rw [decide_eq_false h1, decide_eq_true (show (s.length : Int) ≤ 20 by omega), word_eq s (by omega)]
    simp only [Bool.not_false, Bool.true_and, cond_true, Option.bind_some, decide_eq_true (show s ≠ [] from h1), decide_eq_true h2]
    congr 1
    exact decide_eq_decide.2 (by omega)
  · rw [decide_eq_false (show ¬ (s.length : Int) ≤ 20 by omega), decide_eq_false h2]; simp
theorem name_eq (s : List UInt8) : m_name_Name s = some (nameP s) := by
  unfold m_name_Name nameP
  rw [whole_eq, Option.bind_some]
  cases hw : wholeP s with
  | false => rfl
  | true =>
    rcases s with _ | ⟨c, r⟩
    · simp [wholeP] at hw
    · rw [cond_true, idx_c0, Option.bind_some]
      simp only [m_name_small, Option.bind_some, m_name_Keyword, keys_eq, Bool.true_and]
      rw [isKey_eq _ _ (by decide), Option.bind_some, Option.bind_some, bf, Option.bind_some]; rfl
theorem tag_eq (s : List UInt8) : m_name_Tag s = some (tagP s) := by
  unfold m_name_Tag tagP
  rw [whole_eq, Option.bind_some]
  cases hw : wholeP s with
  | false => rfl
  | true =>
    rcases s with _ | ⟨c, r⟩
    · simp [wholeP] at hw
    · rw [cond_true, idx_c0, Option.bind_some]; rfl
theorem rwhole_eq (s : List UInt8) : (bif ((decide (0 < (s.length : Int))) && (decide ((s.length : Int) ≤ 20))) then ((m_syntagmaref03_Word s).bind fun x1 => some (decide (x1 = (s.length : Int)))) else (some false)) = some (wholeP s) := by
  unfold wholeP
  by_cases h1 : s = []
  · subst h1; rfl
  have h0 : 0 < s.length := List.length_pos_iff.2 h1
  by_cases h2 : s.length ≤ 20
  · rw [decide_eq_true (show 0 < (s.length : Int) by omega), decide_eq_true (show (s.length : Int) ≤ 20 by omega), rword_eq s (by omega)]
    simp only [Bool.true_and, cond_true, Option.bind_some, decide_eq_true (show s ≠ [] from h1), decide_eq_true h2]
    congr 1
    exact decide_eq_decide.2 (by omega)
  · rw [decide_eq_false (show ¬ (s.length : Int) ≤ 20 by omega), decide_eq_false h2]; simp
theorem rname_eq (s : List UInt8) : m_syntagmaref03_Name s = some (nameP s) := by
  unfold m_syntagmaref03_Name nameP
  refine bnd (rwhole_eq s) ?_
  cases hw : wholeP s with
  | false => rfl
  | true =>
    rcases s with _ | ⟨c, r⟩
    · simp [wholeP] at hw
    · rw [cond_true, idx_c0, Option.bind_some]
      simp only [m_syntagmaref03_small, Option.bind_some, m_syntagmaref03_Keyword, rkeys_eq, Bool.true_and]
      rw [rIsKey_eq _ _ (by decide), Option.bind_some, Option.bind_some, bf, Option.bind_some]; rfl
theorem rtag_eq (s : List UInt8) : m_syntagmaref03_Tag s = some (tagP s) := by
  unfold m_syntagmaref03_Tag tagP
  refine bnd (rwhole_eq s) ?_
  cases hw : wholeP s with
  | false => rfl
  | true =>
    rcases s with _ | ⟨c, r⟩
    · simp [wholeP] at hw
    · rw [cond_true, idx_c0, Option.bind_some]; rfl
def abcN (k : Int) : Nat := if k = 5 then 1 else if k = 12 then 1 else if k = 13 then 1 else if k = 6 then 2 else if k = 7 then 2 else if k = 8 then 2 else if k = 10 then 2 else if k = 9 then 3 else if k = 14 then 1 else 0
def partsB (k : Int) : Bool := decide (k = 11) || decide (k = 14)
theorem shape_eq (k : Int) : m_tree_shapeOf k = some ⟨(abcN k : Int), partsB k⟩ := by
  by_cases h5 : k = 5
  · subst h5; rfl
  by_cases h12 : k = 12
  · subst h12; rfl
  by_cases h13 : k = 13
  · subst h13; rfl
  by_cases h6 : k = 6
  · subst h6; rfl
  by_cases h7 : k = 7
  · subst h7; rfl
  by_cases h8 : k = 8
  · subst h8; rfl
  by_cases h10 : k = 10
  · subst h10; rfl
  by_cases h9 : k = 9
  · subst h9; rfl
  by_cases h11 : k = 11
  · subst h11; rfl
  by_cases h14 : k = 14
  · subst h14; rfl
  unfold m_tree_shapeOf abcN partsB
  rw [decide_eq_false h5, decide_eq_false h12, decide_eq_false h13, decide_eq_false h6, decide_eq_false h7, decide_eq_false h8, decide_eq_false h10, decide_eq_false h9, decide_eq_false h11, decide_eq_false h14, if_neg h5, if_neg h12, if_neg h13, if_neg h6, if_neg h7, if_neg h8, if_neg h10, if_neg h9, if_neg h14]
  rfl
theorem abc_le (k : Int) : abcN k ≤ 3 := by
  unfold abcN
  repeat' split
  all_goals omega
def kidsP (n : ApiNode) : List Int := [n.a, n.b, n.c].take (abcN n.kind) ++ (if partsB n.kind = true then n.l.map (·.at_) else [])
def NB (n : ApiNode) : Prop := n.l.length ≤ 60
theorem kids_len (n : ApiNode) (h : NB n) : (kidsP n).length ≤ 63 := by
  unfold kidsP NB at *
  have := abc_le n.kind
  split <;> simp <;> omega
theorem abc_sli (n : ApiNode) : sli [n.a, n.b, n.c] 0 (abcN n.kind : Int) = some ([n.a, n.b, n.c].take (abcN n.kind)) := sli_take (by have := abc_le n.kind; simpa using this)
theorem kids_eq (n : ApiNode) (h : NB n) : m_tree_Kids n = some (kidsP n) := by
  unfold m_tree_Kids
  have h3 := abc_le n.kind
  unfold NB at h
  rw [shape_eq, Option.bind_some, abc_sli, Option.bind_some, grd_pos (by simp; omega)]
  simp only
  unfold kidsP
  cases partsB n.kind with
  | false => simp
  | true =>
    rw [cond_true, if_pos rfl]
    refine bnd (loop_map (φ := fun i k s => m_tree_Kids_l1 n i (k, s)) (l := n.l) (fun x => x.at_) id _ ?_ ?_ (by rw [FUv]; omega) _ rfl) rfl
    · intro m i x s hx hi hs
      simp only [List.length_take] at hs
      simp only [m_tree_Kids_l1]
      rw [decide_eq_true (show (i : Int) < n.l.length by omega), cond_true, getI hx, Option.bind_some, grd_pos (by simp; omega), grd_pos (by omega)]
    · intro m s hs
      simp only [m_tree_Kids_l1]
      rw [decide_eq_false (by omega), cond_false]; rfl
theorem rkids_pre (n : ApiNode) : (((bif (decide (n.kind = 5)) then some (decide (n.kind = 5)) else bif (decide (n.kind = 12)) then some (decide (n.kind = 12)) else some (decide (n.kind = 13)) : Option Bool).bind fun x1 => bif x1 then some [n.a] else (bif (decide (n.kind = 6)) then some (decide (n.kind = 6)) else bif (decide (n.kind = 7)) then some (decide (n.kind = 7)) else bif (decide (n.kind = 8)) then some (decide (n.kind = 8)) else some (decide (n.kind = 10)) : Option Bool).bind fun x2 => bif x2 then some [n.a, n.b] else bif (decide (n.kind = 9)) then some [n.a, n.b, n.c] else bif (decide (n.kind = 14)) then some [n.a] else some []) : Option (List Int)) = some ([n.a, n.b, n.c].take (abcN n.kind)) := by
  generalize n.kind = k
  by_cases h5 : k = 5
  · subst h5; rfl
  by_cases h12 : k = 12
  · subst h12; rfl
  by_cases h13 : k = 13
  · subst h13; rfl
  by_cases h6 : k = 6
  · subst h6; rfl
  by_cases h7 : k = 7
  · subst h7; rfl
  by_cases h8 : k = 8
  · subst h8; rfl
  by_cases h10 : k = 10
  · subst h10; rfl
  by_cases h9 : k = 9
  · subst h9; rfl
  by_cases h14 : k = 14
  · subst h14; rfl
  unfold abcN
  rw [decide_eq_false h5, decide_eq_false h12, decide_eq_false h13, decide_eq_false h6, decide_eq_false h7, decide_eq_false h8, decide_eq_false h10, decide_eq_false h9, decide_eq_false h14, if_neg h5, if_neg h12, if_neg h13, if_neg h6, if_neg h7, if_neg h8, if_neg h10, if_neg h9, if_neg h14]
  rfl
theorem rkids_eq (n : ApiNode) (h : NB n) : m_syntagmaref05_Kids n = some (kidsP n) := by
  unfold m_syntagmaref05_Kids
  have h3 := abc_le n.kind
  unfold NB at h
  rw [rkids_pre, Option.bind_some, show (decide (n.kind = 11) || decide (n.kind = 14)) = partsB n.kind from rfl]
  unfold kidsP
  cases partsB n.kind with
  | false => simp
  | true =>
    rw [cond_true, if_pos rfl]
    refine bnd (loop_map (φ := fun i k s => m_syntagmaref05_Kids_l1 n i (k, s)) (l := n.l) (fun x => x.at_) id _ ?_ ?_ (by rw [FUv]; omega) _ rfl) rfl
    · intro m i x s hx hi hs
      simp only [List.length_take] at hs
      simp only [m_syntagmaref05_Kids_l1]
      rw [decide_eq_true (show (i : Int) < n.l.length by omega), cond_true, getI hx, Option.bind_some, grd_pos (by simp; omega), grd_pos (by omega)]
    · intro m s hs
      simp only [m_syntagmaref05_Kids_l1]
      rw [decide_eq_false (by omega), cond_false]; rfl
theorem twice_eq (l : List (List UInt8)) (h : l.length ≤ 1000) : m_name_Twice l = some (decide (dupP l)) := by
  unfold m_name_Twice
  obtain ⟨o, h1, h2⟩ := loop_rng (φ := fun n i s => m_name_Twice_l1 l n (i, s)) (l := l) (fun i mm => (∀ k, (mget mm k).getD false = decide (k ∈ l.take i)) ∧ ∀ (j : Nat) x, j < i → l[j]? = some x → x ∉ l.take j) (fun o => o.on (fun r => some r) (fun _ => some false) = some (decide (dupP l))) (by
    rintro n i x s hx hi ⟨hI1, hI2⟩
    simp only [m_name_Twice_l1]
    rw [decide_eq_true (show (i : Int) < l.length by omega), cond_true, getI hx, Option.bind_some, hI1]
    by_cases hd : x ∈ l.take i
    · rw [decide_eq_true hd, cond_true]
      exact .inr ⟨_, rfl, by rw [decide_eq_true (p := dupP l) ⟨i, x, hx, hd⟩]; rfl⟩
    · rw [decide_eq_false hd, cond_false, grd_pos (by omega)]
      refine .inl ⟨_, rfl, fun k => ?_, fun j y hj hy => ?_⟩
      · rw [mget_set, take_snoc hx]
        by_cases hk : k = x
        · rw [if_pos hk, hk]; simp
        · rw [if_neg hk, hI1]
          exact decide_eq_decide.2 (by simp [hk])
      · by_cases hji : j = i
        · subst hji
          rw [hx] at hy
          rw [← Option.some.inj hy]; exact hd
        · exact hI2 j y (by omega) hy) (by
    rintro n s ⟨hI1, hI2⟩
    simp only [m_name_Twice_l1]
    rw [decide_eq_false (by omega), cond_false]
    refine ⟨_, rfl, ?_⟩
    rw [decide_eq_false (p := dupP l)]
    · rfl
    · rintro ⟨i, x, hx, hd⟩
      exact hI2 i x (getLt hx) hx hd) (by rw [FUv]; omega) [] ⟨fun k => by simp [mget], fun j x hj => by omega⟩
  refine bnd h1 ?_
  exact h2
theorem rtwice_eq (l : List (List UInt8)) (h : l.length ≤ 1000) : m_syntagmaref03_Twice l = some (decide (dupP l)) := by
  unfold m_syntagmaref03_Twice
  refine bnd (loop_any (φ := m_syntagmaref03_Twice_l1 l) (l := l) true (fun i x => x ∈ l.take i) ?_ ?_ (by rw [FUv]; omega)) ?_
  · intro n i x hx hi
    simp only [m_syntagmaref03_Twice_l1]
    rw [decide_eq_true (show (i : Int) < l.length by omega), cond_true, getI hx, Option.bind_some, sli_take (by omega), Option.bind_some, rIsKey_eq _ _ (by simp; omega), Option.bind_some]
    exact ⟨fun hq => by rw [decide_eq_false hq, cond_false, grd_pos (by omega)], fun hq => by rw [decide_eq_true hq, cond_true]⟩
  · intro n
    simp only [m_syntagmaref03_Twice_l1]
    rw [decide_eq_false (by omega), cond_false]
  · by_cases hd : dupP l
    · rw [if_pos (show ∃ (i : Nat) (x : List UInt8), l[i]? = some x ∧ x ∈ l.take i from hd), decide_eq_true hd]; rfl
    · rw [if_neg (show ¬ ∃ (i : Nat) (x : List UInt8), l[i]? = some x ∧ x ∈ l.take i from hd), decide_eq_false hd]; rfl
def partB (k : Int) (x : ApiField) : Bool := if k = 11 then nameP x.name && decide (x.var = []) else tagP x.name && nameP x.var
theorem part_eq (k : Int) (x : ApiField) : m_tree_part k x = some (partB k x) := by
  unfold m_tree_part partB
  by_cases h : k = 11
  · rw [decide_eq_true h, cond_true, if_pos h, name_eq]; rfl
  · rw [decide_eq_false h, cond_false, if_neg h, tag_eq, Option.bind_some, name_eq]
    cases tagP x.name <;> rfl
noncomputable def partedB (n : ApiNode) : Bool := if partsB n.kind = true then decide (∀ x ∈ n.l, partB n.kind x = true) && (decide ((if n.kind = 14 then 1 else 0 : Int) ≤ (n.l.length : Int)) && decide ((n.l.length : Int) ≤ 30)) && !decide (dupP (n.l.map (·.name))) else decide ((n.l.length : Int) = 0)
theorem parted_eq (n : ApiNode) (h : NB n) : m_tree_parted n = some (partedB n) := by
  unfold NB at h
  unfold m_tree_parted partedB
  rw [shape_eq, Option.bind_some]
  simp only
  cases hp : partsB n.kind with
  | false => rfl
  | true =>
    rw [Bool.not_true, cond_false, if_pos rfl]
    refine bnd (loop_allmap (φ := fun m i s => m_tree_parted_l1 n m (i, s)) (l := n.l) false (fun x => partB n.kind x = true) (fun x => x.name) ?_ ?_ (by rw [FUv]; omega)) ?_
    · intro m i x s hx hi hs
      simp only [m_tree_parted_l1]
      rw [decide_eq_true (show (i : Int) < n.l.length by omega), cond_true, getI hx, Option.bind_some, part_eq, Option.bind_some]
      cases hb : partB n.kind x with
      | true => exact ⟨fun _ => by rw [Bool.not_true, cond_false, grd_pos (by simp; omega), grd_pos (by omega)], fun hq => absurd rfl hq⟩
      | false => exact ⟨fun hq => absurd hq (by simp), fun _ => rfl⟩
    · intro m s hs
      simp only [m_tree_parted_l1]
      rw [decide_eq_false (by omega), cond_false]
    · by_cases ha : ∀ x ∈ n.l, partB n.kind x = true
      · rw [if_pos ha, decide_eq_true ha, go_on]
        have e : ((bif decide (n.kind = 14) then some 1 else some 0 : Option Int)) = some (if n.kind = 14 then 1 else 0) := by
          by_cases h14 : n.kind = 14
          · rw [decide_eq_true h14, if_pos h14]; rfl
          · rw [decide_eq_false h14, if_neg h14]; rfl
        rw [e, Option.bind_some, twice_eq _ (by simp; omega), List.length_map, Option.bind_some, bf, Option.bind_some, Bool.true_and]
      · rw [if_neg ha, decide_eq_false ha]; rfl
noncomputable def labelsB (n : ApiNode) : Bool := decide (∀ x ∈ n.l, partB n.kind x = true) && ((decide ((n.l.length : Int) ≤ 30) && (decide (n.kind = 11) || decide (0 < (n.l.length : Int)))) && !decide (dupP (n.l.map (·.name))))
theorem rlabels_eq (n : ApiNode) (h : n.l.length * 40 ≤ 140737488355328) (hk : n.kind = 11 ∨ n.kind = 14) : m_syntagmaref05_labels n = some (labelsB n) := by
  unfold m_syntagmaref05_labels labelsB
  refine bnd (loop_allmap (φ := fun m i s => m_syntagmaref05_labels_l1 n m (i, s)) (l := n.l) false (fun x => partB n.kind x = true) (fun x => x.name) ?_ ?_ (by rw [FUv]; omega)) ?_
  · intro m i x s hx hi hs
    simp only [m_syntagmaref05_labels_l1]
    rw [decide_eq_true (show (i : Int) < n.l.length by omega), cond_true, getI hx, Option.bind_some, rname_eq, rtag_eq, rname_eq]
    have e : ((bif (decide (n.kind = 11)) then ((some (nameP x.name)).bind fun x2 => some ((!x2) || (!decide ((x.var : List UInt8) = ([] : List UInt8))))) else (some false)).bind fun p1 => (bif p1 then (some true) else ((bif (decide (n.kind = 14)) then ((some (tagP x.name)).bind fun x3 => (bif (!x3) then (some true) else ((some (nameP x.var)).bind fun x4 => some (!x4))).bind fun p4 => some p4) else (some false)).bind fun p3 => some p3))) = some (!partB n.kind x) := by
      unfold partB
      rcases hk with hk | hk
      · rw [hk, decide_eq_true rfl, decide_eq_false (show ¬ (11 : Int) = 14 by decide), if_pos rfl]
        cases nameP x.name <;> cases decide (x.var = []) <;> rfl
      · rw [hk, decide_eq_true rfl, decide_eq_false (show ¬ (14 : Int) = 11 by decide), if_neg (by decide)]
        cases tagP x.name <;> cases nameP x.var <;> rfl
    rw [← Option.bind_assoc, e, Option.bind_some]
    cases hb : partB n.kind x with
    | true => exact ⟨fun _ => by rw [Bool.not_true, cond_false, grd_pos (by simp; omega), grd_pos (by omega)], fun hq => absurd rfl hq⟩
    | false => exact ⟨fun hq => absurd hq (by simp), fun _ => rfl⟩
  · intro m s hs
    simp only [m_syntagmaref05_labels_l1]
    rw [decide_eq_false (by omega), cond_false]
  · by_cases ha : ∀ x ∈ n.l, partB n.kind x = true
    · by_cases h3 : (n.l.length : Int) ≤ 30
      · rw [if_pos ha, decide_eq_true ha, go_on, rtwice_eq _ (by simp; omega), List.length_map, Option.bind_some, bf, Option.bind_some, Bool.true_and]
      · rw [if_pos ha, decide_eq_true ha, go_on, List.length_map, decide_eq_false h3]; rfl
    · rw [if_neg ha, decide_eq_false ha]; rfl
def unusedB (n : ApiNode) : Bool := ([n.a, n.b, n.c].drop (abcN n.kind)).all fun x => decide (x = 0)
theorem unused_eq (n : ApiNode) : m_tree_unused n = some (unusedB n) := by
  unfold m_tree_unused unusedB
  have h3 := abc_le n.kind
  rw [shape_eq, Option.bind_some]
  simp only
  rw [show sli [n.a, n.b, n.c] (abcN n.kind : Int) (([n.a, n.b, n.c] : List _).length : Int) = some ([n.a, n.b, n.c].drop (abcN n.kind)) from sli_from rfl (by simpa using h3), Option.bind_some]
  generalize hl : [n.a, n.b, n.c].drop (abcN n.kind) = l
  have hlen : l.length ≤ 3 := by rw [← hl]; simp
  refine bnd (loop_all (φ := m_tree_unused_l1 l) (l := l) false (fun _ x => x = 0) ?_ ?_ (by rw [FUv]; omega)) ?_
  · intro m i x hx hi
    simp only [m_tree_unused_l1]
    rw [decide_eq_true (show (i : Int) < l.length by omega), cond_true, getI hx, Option.bind_some]
    exact ⟨fun hq => by rw [decide_eq_true hq, Bool.not_true, cond_false, grd_pos (by omega)], fun hq => by rw [decide_eq_false hq, Bool.not_false, cond_true]⟩
  · intro m
    simp only [m_tree_unused_l1]
    rw [decide_eq_false (by omega), cond_false]
  · by_cases ha : ∀ (i : Nat) x, l[i]? = some x → x = 0
    · rw [if_pos ha, List.all_eq_true.2]
      · rfl
      · intro x hx
        obtain ⟨i, hi, h2⟩ := List.getElem_of_mem hx
        rw [decide_eq_true_eq]
        exact ha i x (by rw [← h2]; exact List.getElem?_eq_getElem hi)
    · rw [if_neg ha]
      have : (l.all fun x => decide (x = 0)) = false := by
        rw [← Bool.not_eq_true, List.all_eq_true]
        intro hh
        exact ha fun i x hx => by simpa using hh x (List.mem_of_getElem? hx)
      rw [this]; rfl
def isNm (k : Int) : Bool := decide (k = 4) || (decide (k = 5) || (decide (k = 7) || (decide (k = 8) || decide (k = 12))))
def namedB (n : ApiNode) : Bool := if isNm n.kind = true then nameP n.name else if n.kind = 13 then tagP n.name else decide ((n.name : List UInt8) = [])
theorem named_eq (n : ApiNode) : m_tree_named n = some (namedB n) := by
  unfold m_tree_named namedB isNm
  rw [name_eq, tag_eq]
  cases decide (n.kind = 4) <;> cases decide (n.kind = 5) <;> cases decide (n.kind = 7) <;> cases decide (n.kind = 8) <;> cases decide (n.kind = 12) <;> first | rfl | skip
  by_cases h : n.kind = 13
  · rw [if_neg (by decide), if_pos h, decide_eq_true h]; rfl
  · rw [if_neg (by decide), if_neg h, decide_eq_false h]; rfl
def countedB (n : ApiNode) : Bool := if n.kind = 1 then decide ((n.s : List UInt8) = []) else if n.kind = 2 then (decide (n.n_ = 0) || decide (n.n_ = 1)) && decide ((n.s : List UInt8) = []) else if n.kind = 10 then (decide (1 ≤ n.n_) && decide (n.n_ ≤ 7)) && decide ((n.s : List UInt8) = []) else if n.kind = 3 then decide (n.n_ = 0) && decide ((n.s.length : Int) ≤ 200) else decide (n.n_ = 0) && decide ((n.s : List UInt8) = [])
theorem counted_eq (n : ApiNode) : m_tree_counted n = some (countedB n) := by
  unfold m_tree_counted countedB
  by_cases h1 : n.kind = 1
  · rw [decide_eq_true h1, if_pos h1]; rfl
  rw [decide_eq_false h1, if_neg h1, cond_false]
  by_cases h2 : n.kind = 2
  · rw [decide_eq_true h2, if_pos h2]; rfl
  rw [decide_eq_false h2, if_neg h2, cond_false]
  by_cases h10 : n.kind = 10
  · rw [decide_eq_true h10, if_pos h10]; rfl
  rw [decide_eq_false h10, if_neg h10, cond_false]
  by_cases h3 : n.kind = 3
  · rw [decide_eq_true h3, if_pos h3]; rfl
  rw [decide_eq_false h3, if_neg h3, cond_false]
def boundsB (n : ApiNode) : Bool := !(((decide (n.kind < 1) || decide (14 < n.kind)) || decide (n.pos < 0)) || decide (1048576 < n.pos))
noncomputable def rightB (n : ApiNode) : Bool := boundsB n && (((namedB n && countedB n) && partedB n) && unusedB n)
theorem right_eq (n : ApiNode) (h : NB n) : m_tree_right n = some (rightB n) := by
  unfold m_tree_right rightB boundsB
  rw [named_eq, counted_eq, parted_eq n h, unused_eq]
  cases (((decide (n.kind < 1) || decide (14 < n.kind)) || decide (n.pos < 0)) || decide (1048576 < n.pos))
  · cases namedB n <;> cases countedB n <;> cases partedB n <;> cases unusedB n <;> rfl
  · rfl
theorem parted_lab (n : ApiNode) (hk : n.kind = 11 ∨ n.kind = 14) : partedB n = labelsB n := by
  unfold partedB labelsB
  rcases hk with hk | hk
  · rw [hk, if_pos (show partsB 11 = true by decide), if_neg (by decide), decide_eq_true (show (0 : Int) ≤ (n.l.length : Int) by omega), Bool.true_and, decide_eq_true (show (11 : Int) = 11 from rfl), Bool.true_or, Bool.and_true, Bool.and_assoc]
  · rw [hk, if_pos (show partsB 14 = true by decide), if_pos rfl, decide_eq_false (show ¬ (14 : Int) = 11 by decide), Bool.false_or, decide_eq_decide.2 (show (1 : Int) ≤ (n.l.length : Int) ↔ (0 : Int) < (n.l.length : Int) by omega), Bool.and_comm (decide ((0 : Int) < _)), Bool.and_assoc]
theorem parted_no (n : ApiNode) (hk : partsB n.kind = false) : partedB n = !decide (0 < (n.l.length : Int)) := by
  unfold partedB
  rw [if_neg (by simp [hk])]
  by_cases h : (n.l.length : Int) = 0
  · rw [decide_eq_true h, decide_eq_false (by omega)]; rfl
  · rw [decide_eq_false h, decide_eq_true (by omega)]; rfl
theorem unusedB_eq (n : ApiNode) : unusedB n = match abcN n.kind with | 0 => decide (n.a = 0) && (decide (n.b = 0) && (decide (n.c = 0) && true)) | 1 => decide (n.b = 0) && (decide (n.c = 0) && true) | 2 => decide (n.c = 0) && true | _ => true := by
  have := abc_le n.kind
  unfold unusedB
  generalize abcN n.kind = m at *
  match m with
  | 0 => rfl
  | 1 => rfl
  | 2 => rfl
  | 3 => rfl
  | m + 4 => omega
theorem rright_out (n : ApiNode) (h : boundsB n = false) : m_syntagmaref05_right n = some false := by
  unfold m_syntagmaref05_right
  unfold boundsB at h
  rw [show ((((decide (n.pos < 0)) || (decide (1048576 < n.pos))) || (decide (n.kind < 1))) || (decide (14 < n.kind))) = true by
    revert h
    cases decide (n.pos < 0) <;> cases decide (1048576 < n.pos) <;> cases decide (n.kind < 1) <;> cases decide (14 < n.kind) <;> decide]
  rfl
set_option maxHeartbeats 4000000 in
theorem rright_in (n : ApiNode) (hN : n.l.length * 40 ≤ 140737488355328) (h : boundsB n = true) : m_syntagmaref05_right n = some (((namedB n && countedB n) && partedB n) && unusedB n) := by
  have hb : 1 ≤ n.kind ∧ n.kind ≤ 14 ∧ 0 ≤ n.pos ∧ n.pos ≤ 1048576 := by
    unfold boundsB at h
    simp only [Bool.not_eq_true', Bool.or_eq_false_iff, decide_eq_false_iff_not] at h
    omega
  unfold m_syntagmaref05_right
  rw [show ((((decide (n.pos < 0)) || (decide (1048576 < n.pos))) || (decide (n.kind < 1))) || (decide (14 < n.kind))) = false by
    rw [decide_eq_false (by omega), decide_eq_false (by omega), decide_eq_false (by omega), decide_eq_false (by omega)]; rfl, cond_false, rname_eq, rtag_eq]
  have hk : n.kind = 1 ∨ n.kind = 2 ∨ n.kind = 3 ∨ n.kind = 4 ∨ n.kind = 5 ∨ n.kind = 6 ∨ n.kind = 7 ∨ n.kind = 8 ∨ n.kind = 9 ∨ n.kind = 10 ∨ n.kind = 11 ∨ n.kind = 12 ∨ n.kind = 13 ∨ n.kind = 14 := by omega
  have e1 : decide (1 ≤ n.n_) = !decide (n.n_ < 1) := by
    by_cases h : n.n_ < 1
    · rw [decide_eq_true h, decide_eq_false (by omega)]; rfl
    · rw [decide_eq_false h, decide_eq_true (by omega)]; rfl
  have e2 : decide (n.n_ ≤ 7) = !decide (7 < n.n_) := by
    by_cases h : 7 < n.n_
    · rw [decide_eq_true h, decide_eq_false (by omega)]; rfl
    · rw [decide_eq_false h, decide_eq_true (by omega)]; rfl
  have e3 : decide ((n.s.length : Int) ≤ 200) = !decide (200 < (n.s.length : Int)) := by
    by_cases h : 200 < (n.s.length : Int)
    · rw [decide_eq_true h, decide_eq_false (by omega)]; rfl
    · rw [decide_eq_false h, decide_eq_true (by omega)]; rfl
  rcases hk with hk | hk | hk | hk | hk | hk | hk | hk | hk | hk | hk | hk | hk | hk
  all_goals
    first
    | rw [parted_no _ (by rw [hk]; rfl)]
    | rw [parted_lab _ (.inl hk), rlabels_eq _ hN (.inl hk)]
    | rw [parted_lab _ (.inr hk), rlabels_eq _ hN (.inr hk)]
    rw [unusedB_eq]
    unfold namedB countedB
    rw [hk, e1, e2, e3]
    generalize labelsB _ = p0
    generalize decide (0 < (n.l.length : Int)) = p1
    generalize nameP n.name = p2
    generalize tagP n.name = p3
    generalize decide (n.n_ = 0) = q0; generalize decide (n.n_ = 1) = q6; generalize decide (n.n_ < 1) = q7; generalize decide (7 < n.n_) = q8
    generalize decide (200 < (n.s.length : Int)) = q9
    generalize decide (n.s = []) = q1; generalize decide (n.a = 0) = q2; generalize decide (n.b = 0) = q3; generalize decide (n.c = 0) = q4; generalize decide (n.name = []) = q5
    generalize m_syntagmaref05_labels _ = zz
    clear hN h hb hk e1 e2 e3
    try clear p0
    try clear p1
    try clear p2
    try clear p3
    try clear q0
    try clear q1
    try clear q2
    try clear q3
    try clear q4
    try clear q5
    try clear q6
    try clear q7
    try clear q8
    try clear q9
    try clear zz
    try (obtain _ | zz := zz)
    all_goals
      try revert p0
      try revert p1
      try revert p2
      try revert p3
      try revert q0
      try revert q1
      try revert q2
      try revert q3
      try revert q4
      try revert q5
      try revert q6
      try revert q7
      try revert q8
      try revert q9
      try revert zz
      decide +kernel
theorem rright_eqB (n : ApiNode) (h : n.l.length * 40 ≤ 140737488355328) : m_syntagmaref05_right n = some (rightB n) := by
  unfold rightB
  cases hb : boundsB n with
  | false => exact rright_out n hb
  | true => rw [Bool.true_and]; exact rright_in n h hb
theorem right_nb (n : ApiNode) (h : rightB n = true) : NB n := by
  unfold rightB partedB at h
  unfold NB
  simp only [Bool.and_eq_true] at h
  have h2 := h.2.1.2
  split at h2
  · simp only [Bool.and_eq_true, decide_eq_true_eq] at h2
    omega
  · simp only [decide_eq_true_eq] at h2
    omega
end Go.Proofs.Ytnnjgbcojdnhhaa
set_option linter.unusedVariables false
set_option linter.unusedSimpArgs false
set_option maxRecDepth 100000
namespace Go.Proofs.Ytnnjgbcojdnhhaa
open Go.V
open Classical
def gd (l : List Int) (k : Int) : Int := (l[k.toNat]?).getD 0
theorem idxD {l : List Int} {k : Int} (h0 : 0 ≤ k) (h1 : k < (l.length : Int)) : idx l k = some (gd l k) := by
  have h2 : k.toNat < l.length := by omega
  obtain ⟨m, rfl⟩ : ∃ m : Nat, k = (m : Int) := ⟨k.toNat, by omega⟩
  rw [idx_nat]
  unfold gd
  rw [Int.toNat_natCast, List.getElem?_eq_getElem (by omega)]; rfl
def Bd (M : Int) (l : List Int) : Prop := ∀ x ∈ l, 0 ≤ x ∧ x ≤ M
theorem bd_gd {M : Int} {l : List Int} (h : Bd M l) (hM : 0 ≤ M) (k : Int) : 0 ≤ gd l k ∧ gd l k ≤ M := by
  unfold gd
  cases e : l[k.toNat]? with
  | none => exact ⟨by decide, hM⟩
  | some x => exact h x (List.mem_of_getElem? e)
theorem bd_set {M : Int} {l : List Int} (h : Bd M l) {y : Int} (hy : 0 ≤ y ∧ y ≤ M) (i : Nat) : Bd M (l.set i y) := by
  intro x hx
  rcases List.mem_or_eq_of_mem_set hx with hx | rfl
  · exact h x hx
  · exact hy
theorem bd_up {M N : Int} {l : List Int} (h : Bd M l) (hMN : M ≤ N) : Bd N l := fun x hx => ⟨(h x hx).1, Int.le_trans (h x hx).2 hMN⟩
def inc1 (c : List Int) (k : Int) : List Int := c.set k.toNat (gd c k + 1)
def incs (c ks : List Int) : List Int := ks.foldl inc1 c
theorem incs_len : ∀ (ks c : List Int), (incs c ks).length = c.length
  | [], _ => rfl
  | k :: ks, c => by
    show (incs (inc1 c k) ks).length = _
    rw [incs_len ks]; simp [inc1]
theorem incs_snoc (c ks : List Int) (k : Int) : incs c (ks ++ [k]) = inc1 (incs c ks) k := by
  unfold incs; rw [List.foldl_append]; rfl
theorem incs_bd {M : Int} (hM : 0 ≤ M) : ∀ (ks c : List Int), Bd M c → Bd (M + ks.length) (incs c ks)
  | [], c, h => by simpa [incs] using h
  | k :: ks, c, h => by
    have h1 := bd_gd h hM k
    have := incs_bd (M := M + 1) (by omega) ks (inc1 c k) (bd_set (bd_up h (by omega)) (by omega) _)
    show Bd _ (incs (inc1 c k) ks)
    refine bd_up this ?_
    simp only [List.length_cons]; omega
def mx (f : Int → Int) (b : Int) (ks : List Int) : Int := ks.foldl (fun b k => if f k > b then f k else b) b
theorem mx_snoc (f : Int → Int) (b : Int) (ks : List Int) (k : Int) : mx f b (ks ++ [k]) = if f k > mx f b ks then f k else mx f b ks := by
  unfold mx; rw [List.foldl_append]; rfl
theorem mx_bd {f : Int → Int} {M : Int} (hf : ∀ k, 0 ≤ f k ∧ f k ≤ M) : ∀ (ks : List Int) (b : Int), 0 ≤ b ∧ b ≤ M → 0 ≤ mx f b ks ∧ mx f b ks ≤ M
  | [], b, h => h
  | k :: ks, b, h => by
    show 0 ≤ mx f (if f k > b then f k else b) ks ∧ mx f (if f k > b then f k else b) ks ≤ M
    refine mx_bd hf ks _ ?_
    have := hf k
    split <;> omega
def cntU (L : List ApiNode) : Nat → List Int
  | 0 => List.replicate L.length 0
  | i + 1 => match L[i]? with | some n => incs (cntU L i) (kidsP n) | none => cntU L i
def depU (L : List ApiNode) : Nat → List Int
  | 0 => List.replicate L.length 0
  | i + 1 => match L[i]? with | some n => (depU L i).set i (mx (gd (depU L i)) (gd (depU L i) i) (kidsP n) + 1) | none => depU L i
theorem cntU_s {L : List ApiNode} {i : Nat} {n : ApiNode} (h : L[i]? = some n) : cntU L (i + 1) = incs (cntU L i) (kidsP n) := by rw [cntU, h]
theorem depU_s {L : List ApiNode} {i : Nat} {n : ApiNode} (h : L[i]? = some n) : depU L (i + 1) = (depU L i).set i (mx (gd (depU L i)) (gd (depU L i) i) (kidsP n) + 1) := by rw [depU, h]
theorem cntU_len (L : List ApiNode) : ∀ i, (cntU L i).length = L.length
  | 0 => by simp [cntU]
  | i + 1 => by
    rw [cntU]
    split
    · rw [incs_len, cntU_len L i]
    · exact cntU_len L i
theorem depU_len (L : List ApiNode) : ∀ i, (depU L i).length = L.length
  | 0 => by simp [depU]
  | i + 1 => by
    rw [depU]
    split
    · rw [List.length_set, depU_len L i]
    · exact depU_len L i
theorem bd_zero (n : Nat) : Bd 0 (List.replicate n (0 : Int)) := by
  intro x hx
  rw [List.mem_replicate] at hx
  omega
theorem cntU_bdp (L : List ApiNode) : ∀ i : Nat, (∀ (j : Nat) n, j < i → L[j]? = some n → NB n) → Bd (63 * i) (cntU L i)
  | 0, _ => by simpa [cntU] using bd_zero _
  | i + 1, hN => by
    have ih := cntU_bdp L i (fun j n hj => hN j n (by omega))
    rw [cntU]
    split
    · rename_i n hn
      have := kids_len n (hN i n (by omega) hn)
      exact bd_up (incs_bd (by omega) _ _ ih) (by omega)
    · exact bd_up ih (by omega)
theorem cntU_bd (L : List ApiNode) (hN : ∀ n ∈ L, NB n) (i : Nat) : Bd (63 * i) (cntU L i) := cntU_bdp L i (fun j n _ h => hN n (List.mem_of_getElem? h))
theorem depU_bd (L : List ApiNode) : ∀ i : Nat, Bd (i : Int) (depU L i)
  | 0 => by simpa [depU] using bd_zero _
  | i + 1 => by
    have ih := depU_bd L i
    rw [depU]
    split
    · rename_i n hn
      have h1 := mx_bd (M := (i : Int)) (fun k => bd_gd ih (by omega) k) (kidsP n) (gd (depU L i) i) (bd_gd ih (by omega) _)
      exact bd_set (bd_up ih (by omega)) (by constructor <;> omega) _
    · exact bd_up ih (by omega)
def inL (i : Nat) (ks : List Int) : Prop := ∀ k ∈ ks, 0 ≤ k ∧ k < (i : Int)
def okN (L : List ApiNode) (i : Nat) (n : ApiNode) : Prop := rightB n = true ∧ inL i (kidsP n) ∧ (n.kind = 8 → ∃ m, L[n.a.toNat]? = some m ∧ m.kind = 5)
theorem linkL (i : Nat) (ks c : List Int) (M : Int) (hM : 0 ≤ M ∧ M ≤ 100000) (hks : ks.length ≤ 63) (hi : i ≤ c.length) (hb : Bd M c) :
    ∃ o, m_tree_linked_l1 (i : Int) ks FU (0, c) = some o ∧ ((inL i ks → o = Out.go (incs c ks)) ∧ (¬ inL i ks → ∃ c', o = Out.ret (false, c'))) := by
  refine loop_rng (φ := fun n j s => m_tree_linked_l1 (i : Int) ks n (j, s)) (l := ks) (fun j s => s = incs c (ks.take j) ∧ inL i (ks.take j)) _ ?_ ?_ (by rw [FUv]; omega) c ⟨rfl, fun k hk => by simp at hk⟩
  · rintro n j x s hx hj ⟨rfl, hI⟩
    simp only [m_tree_linked_l1]
    rw [decide_eq_true (show (j : Int) < ks.length by omega), cond_true, getI hx, Option.bind_some]
    by_cases hq : 0 ≤ x ∧ x < (i : Int)
    · have hbd := incs_bd hM.1 (ks.take j) c hb
      have hl : (ks.take j).length = j := by simp; omega
      rw [hl] at hbd
      have hg := bd_gd hbd (by omega) x
      rw [decide_eq_false (by omega), decide_eq_false (by omega), Bool.or_false, cond_false, idxD hq.1 (by rw [incs_len]; omega), Option.bind_some, grd_pos (by omega), Option.bind_some, grd_pos (by omega)]
      refine .inl ⟨_, rfl, ?_, ?_⟩
      · rw [take_snoc hx, incs_snoc]; rfl
      · rw [take_snoc hx]
        intro k hk
        rcases List.mem_append.1 hk with hk | hk
        · exact hI k hk
        · rw [List.mem_singleton] at hk; rw [hk]; exact hq
    · have hq2 : (decide (x < 0) || decide ((i : Int) ≤ x)) = true := by
        rw [Bool.or_eq_true, decide_eq_true_eq, decide_eq_true_eq]; omega
      rw [hq2, cond_true]
      exact .inr ⟨_, rfl, fun h => absurd (h x (List.mem_of_getElem? hx)) hq, fun _ => ⟨_, rfl⟩⟩
  · rintro n s ⟨rfl, hI⟩
    simp only [m_tree_linked_l1]
    rw [decide_eq_false (by omega), cond_false]
    rw [List.take_length] at *
    exact ⟨_, rfl, fun _ => rfl, fun h => absurd hI h⟩
theorem kind8 {n : ApiNode} (h : n.kind = 8) : n.a ∈ kidsP n := by
  unfold kidsP
  rw [h]
  simp [abcN]
theorem linked_eq (e : ApiExpr) (i : Nat) (n : ApiNode) (c : List Int) (M : Int) (hn : e.l[i]? = some n) (hN : NB n) (hM : 0 ≤ M ∧ M ≤ 100000) (hc : c.length = e.l.length) (hb : Bd M c) :
    ∃ b c', m_tree_linked e (i : Int) c = some (b, c') ∧ (b = true ↔ inL i (kidsP n) ∧ (n.kind = 8 → ∃ m, e.l[n.a.toNat]? = some m ∧ m.kind = 5)) ∧ (b = true → c' = incs c (kidsP n)) := by
  have hi := getLt hn
  unfold m_tree_linked
  rw [getI hn, Option.bind_some, kids_eq n hN, Option.bind_some]
  obtain ⟨o, h1, h2, h3⟩ := linkL i (kidsP n) c M hM (kids_len n hN) (by omega) hb
  rw [h1, Option.bind_some]
  by_cases hq : inL i (kidsP n)
  · rw [h2 hq, go_on, Option.bind_some]
    by_cases h8 : n.kind = 8
    · have ha := hq n.a (kind8 h8)
      have hal : n.a.toNat < e.l.length := by omega
      rw [decide_eq_true h8, Bool.not_true, cond_false, Option.bind_some, show idx e.l n.a = some e.l[n.a.toNat] by
        obtain ⟨m, hm⟩ : ∃ m : Nat, n.a = (m : Int) := ⟨n.a.toNat, by omega⟩
        simp only [hm, Int.toNat_natCast]
        rw [idx_nat, List.getElem?_eq_getElem], Option.bind_some]
      refine ⟨_, _, rfl, ?_, fun _ => rfl⟩
      rw [decide_eq_true_eq]
      constructor
      · exact fun h => ⟨hq, fun _ => ⟨_, List.getElem?_eq_getElem hal, h⟩⟩
      · rintro ⟨_, h⟩
        obtain ⟨m, hm, h5⟩ := h h8
        rw [List.getElem?_eq_getElem hal] at hm
        rw [Option.some.inj hm]; exact h5
    · rw [decide_eq_false h8, Bool.not_false, cond_true]
      exact ⟨_, _, rfl, ⟨fun _ => ⟨hq, fun h => absurd h h8⟩, fun _ => rfl⟩, fun _ => rfl⟩
  · obtain ⟨c', rfl⟩ := h3 hq
    exact ⟨_, _, rfl, ⟨fun h => absurd h (by simp), fun h => absurd h.1 hq⟩, fun h => absurd h (by simp)⟩
def allOk (L : List ApiNode) : Prop := ∀ (i : Nat) n, L[i]? = some n → okN L i n
theorem mayL (e : ApiExpr) (hl : e.l.length ≤ 700) (hN : ∀ n ∈ e.l, NB n) : ∃ o, m_tree_May_l1 e FU (0, List.replicate e.l.length 0) = some o ∧ ((allOk e.l → o = Out.go (cntU e.l e.l.length)) ∧ (¬ allOk e.l → o = Out.ret 4)) := by
  refine loop_rng (φ := fun n j s => m_tree_May_l1 e n (j, s)) (l := e.l) (fun i s => s = cntU e.l i ∧ ∀ (j : Nat) n, j < i → e.l[j]? = some n → okN e.l j n) _ ?_ ?_ (by rw [FUv]; omega) _ ⟨rfl, fun j n hj => by omega⟩
  · rintro m i n s hn hi ⟨rfl, hI⟩
    simp only [m_tree_May_l1]
    rw [decide_eq_true (show (i : Int) < e.l.length by omega), cond_true, getI hn, Option.bind_some]
    have hNn := hN n (List.mem_of_getElem? hn)
    rw [show m_tree_right (⟨n.kind, n.a, n.b, n.c, n.n_, n.name, n.s, n.l, n.pos⟩ : ApiNode) = m_tree_right n from rfl, right_eq n hNn, Option.bind_some]
    obtain ⟨b, c', h1, h2, h3⟩ := linked_eq e i n (cntU e.l i) (63 * i) hn hNn (by omega) (cntU_len _ _) (cntU_bd _ hN i)
    cases hr : rightB n with
    | false =>
      exact .inr ⟨_, rfl, fun h => absurd (h i n hn).1 (by simp [hr]), fun _ => rfl⟩
    | true =>
      rw [Bool.not_true, cond_false, h1, Option.bind_some]
      cases b with
      | false =>
        refine .inr ⟨_, rfl, fun h => ?_, fun _ => rfl⟩
        have := h2.2 (h i n hn).2
        simp at this
      | true =>
        refine .inl ⟨c', ?_, ?_, ?_⟩
        · show (bif (!true) then _ else grd (InR ((i : Int) + 1)) (m_tree_May_l1 e m ((i : Int) + 1, c'))) = _
          rw [Bool.not_true, cond_false, grd_pos (by omega)]
        · rw [h3 rfl, cntU_s hn]
        · intro j x hj hx
          by_cases hji : j = i
          · subst hji
            rw [hn] at hx
            rw [← Option.some.inj hx]
            exact ⟨hr, h2.1 rfl⟩
          · exact hI j x (by omega) hx
  · rintro m s ⟨rfl, hI⟩
    simp only [m_tree_May_l1]
    rw [decide_eq_false (by omega), cond_false]
    exact ⟨_, rfl, fun _ => rfl, fun h => absurd (fun i n hn => hI i n (getLt hn) hn) h⟩
theorem gd_self {l : List Int} {i : Nat} (h : i < l.length) (y : Int) : gd (l.set i y) (i : Int) = y := by
  unfold gd; rw [Int.toNat_natCast, List.getElem?_set_self h]; rfl
theorem gd_other {l : List Int} {i : Nat} {k : Int} (h : k.toNat ≠ i) (y : Int) : gd (l.set i y) k = gd l k := by
  unfold gd; rw [List.getElem?_set_ne (Ne.symm h)]
theorem set_gd {l : List Int} {i : Nat} (h : i < l.length) : l.set i (gd l (i : Int)) = l := by
  unfold gd
  rw [Int.toNat_natCast, List.getElem?_eq_getElem h]
  exact List.set_getElem_self h
theorem rmayK (i : Nat) (ks c d : List Int) (M : Int) (hM : 0 ≤ M ∧ M ≤ 100000) (hks : ks.length ≤ 63) (hi : i < c.length) (hd : d.length = c.length) (hb : Bd M c) :
    ∃ o, m_syntagmaref05_May_l2 (i : Int) ks FU (0, c, d) = some o ∧ ((inL i ks → o = Out.go (incs c ks, d.set i (mx (gd d) (gd d i) ks))) ∧ (¬ inL i ks → o = Out.ret 4)) := by
  refine loop_rng (φ := fun n j (s : List Int × List Int) => m_syntagmaref05_May_l2 (i : Int) ks n (j, s.1, s.2)) (l := ks) (fun j s => s = (incs c (ks.take j), d.set i (mx (gd d) (gd d i) (ks.take j))) ∧ inL i (ks.take j)) _ ?_ ?_ (by rw [FUv]; omega) (c, d) ⟨?_, fun k hk => by simp at hk⟩
  · rintro n j x s hx hj ⟨rfl, hI⟩
    simp only [m_syntagmaref05_May_l2]
    rw [decide_eq_true (show (j : Int) < ks.length by omega), cond_true, getI hx, Option.bind_some]
    by_cases hq : 0 ≤ x ∧ x < (i : Int)
    · have hbd := incs_bd hM.1 (ks.take j) c hb
      have hl : (ks.take j).length = j := by simp; omega
      rw [hl] at hbd
      have hg := bd_gd hbd (by omega) x
      have hxi : x.toNat ≠ i := by omega
      rw [decide_eq_false (by omega), cond_false, Option.bind_some, decide_eq_false (by omega), Option.bind_some, cond_false, Option.bind_some, idxD (l := incs c _) hq.1 (by rw [incs_len]; omega), Option.bind_some, grd_pos (by omega)]
      rw [Option.bind_some, idxD (k := (i : Int)) (by omega) (by rw [List.length_set]; omega), Option.bind_some, Option.bind_some, idxD (k := x) (by omega) (by rw [List.length_set]; omega), Option.bind_some, Option.bind_some, grd_pos (by omega)]
      refine .inl ⟨(_, _), rfl, ?_, ?_⟩
      · rw [take_snoc hx, incs_snoc, mx_snoc, gd_self (by omega), gd_other hxi, Int.toNat_natCast, List.set_set]; rfl
      · rw [take_snoc hx]
        intro k hk
        rcases List.mem_append.1 hk with hk | hk
        · exact hI k hk
        · rw [List.mem_singleton] at hk; rw [hk]; exact hq
    · have hq2 : ((bif (decide (x < 0)) then (some true) else ((some x).bind fun x6 => some (decide ((i : Int) ≤ x6)))) : Option Bool) = some true := by
        by_cases h0 : x < 0
        · rw [decide_eq_true h0]; rfl
        · rw [decide_eq_false h0, cond_false, Option.bind_some, decide_eq_true (p := (i : Int) ≤ x) (by omega)]
      rw [hq2, Option.bind_some, cond_true]
      exact .inr ⟨_, rfl, fun h => absurd (h x (List.mem_of_getElem? hx)) hq, fun _ => rfl⟩
  · rintro n s ⟨rfl, hI⟩
    simp only [m_syntagmaref05_May_l2]
    rw [decide_eq_false (by omega), cond_false]
    rw [List.take_length] at *
    exact ⟨_, rfl, fun _ => rfl, fun h => absurd hI h⟩
  · show (c, d) = (c, d.set i (gd d i))
    rw [set_gd (by omega)]
theorem rmayL (e : ApiExpr) (hl : e.l.length ≤ 700) (hS : ∀ n ∈ e.l, n.l.length * 40 ≤ 140737488355328) : ∃ o, m_syntagmaref05_May_l1 e FU (0, List.replicate e.l.length 0, List.replicate e.l.length 0) = some o ∧ ((allOk e.l → o = Out.go (cntU e.l e.l.length, depU e.l e.l.length)) ∧ (¬ allOk e.l → o = Out.ret 4)) := by
  refine loop_rng (φ := fun n j (s : List Int × List Int) => m_syntagmaref05_May_l1 e n (j, s.1, s.2)) (l := e.l) (fun i s => s = (cntU e.l i, depU e.l i) ∧ ∀ (j : Nat) n, j < i → e.l[j]? = some n → okN e.l j n) _ ?_ ?_ (by rw [FUv]; omega) (_, _) ⟨rfl, fun j n hj => by omega⟩
  · rintro m i n s hn hi ⟨rfl, hI⟩
    simp only [m_syntagmaref05_May_l1]
    rw [decide_eq_true (show (i : Int) < e.l.length by omega), cond_true, getI hn, Option.bind_some]
    rw [rright_eqB n (hS n (List.mem_of_getElem? hn)), Option.bind_some]
    by_cases hNn : NB n
    rotate_left
    · cases hr : rightB n with
      | false => exact .inr ⟨_, rfl, fun h => absurd (h i n hn).1 (by simp [hr]), fun _ => rfl⟩
      | true => exact absurd (right_nb n hr) hNn
    obtain ⟨o, h1, h2, h3⟩ := rmayK i (kidsP n) (cntU e.l i) (depU e.l i) (63 * i) (by omega) (kids_len n hNn) (by rw [cntU_len]; omega) (by rw [cntU_len, depU_len]) (cntU_bdp _ i (fun j m hj hm => right_nb m (hI j m hj hm).1))
    cases hr : rightB n with
    | false =>
      exact .inr ⟨_, rfl, fun h => absurd (h i n hn).1 (by simp [hr]), fun _ => rfl⟩
    | true =>
      rw [Bool.not_true, cond_false, Option.bind_some, rkids_eq n hNn, Option.bind_some, h1, Option.bind_some]
      by_cases hq : inL i (kidsP n)
      · rw [h2 hq, go_on]
        have hdl : i < (depU e.l i).length := by rw [depU_len]; omega
        have hb := mx_bd (M := (i : Int)) (fun k => bd_gd (depU_bd e.l i) (by omega) k) (kidsP n) (gd (depU e.l i) i) (bd_gd (depU_bd e.l i) (by omega) _)
        simp only
        rw [idxD (k := (i : Int)) (by omega) (by rw [List.length_set]; omega), Option.bind_some, gd_self hdl, grd_pos (by omega), Option.bind_some, Option.bind_some]
        have hgo : ∀ (hok : n.kind = 8 → ∃ m, e.l[n.a.toNat]? = some m ∧ m.kind = 5), ((incs (cntU e.l i) (kidsP n), ((depU e.l i).set i (mx (gd (depU e.l i)) (gd (depU e.l i) i) (kidsP n))).set (i : Int).toNat (mx (gd (depU e.l i)) (gd (depU e.l i) i) (kidsP n) + 1)) : List Int × List Int) = (cntU e.l (i + 1), depU e.l (i + 1)) ∧ ∀ (j : Nat) n, j < i + 1 → e.l[j]? = some n → okN e.l j n := by
          intro hok
          refine ⟨by rw [cntU_s hn, depU_s hn, Int.toNat_natCast, List.set_set], ?_⟩
          intro j x hj hx
          by_cases hji : j = i
          · subst hji
            rw [hn] at hx
            rw [← Option.some.inj hx]
            exact ⟨hr, hq, hok⟩
          · exact hI j x (by omega) hx
        by_cases h8 : n.kind = 8
        · have ha := hq n.a (kind8 h8)
          have hal : n.a.toNat < e.l.length := by omega
          rw [decide_eq_true h8, cond_true, Option.bind_some, show idx e.l n.a = some e.l[n.a.toNat] by
            obtain ⟨m, hm⟩ : ∃ m : Nat, n.a = (m : Int) := ⟨n.a.toNat, by omega⟩
            simp only [hm, Int.toNat_natCast]
            rw [idx_nat, List.getElem?_eq_getElem], Option.bind_some]
          by_cases h5 : e.l[n.a.toNat].kind = 5
          · rw [decide_eq_true h5, Bool.not_true, cond_false, grd_pos (by omega)]
            exact .inl ⟨(_, _), rfl, hgo fun _ => ⟨_, List.getElem?_eq_getElem hal, h5⟩⟩
          · rw [decide_eq_false h5, Bool.not_false, cond_true]
            refine .inr ⟨_, rfl, fun h => ?_, fun _ => rfl⟩
            obtain ⟨m, hm, hm5⟩ := (h i n hn).2.2 h8
            rw [List.getElem?_eq_getElem hal] at hm
            exact absurd (by rw [Option.some.inj hm]; exact hm5) h5
        · rw [decide_eq_false h8, cond_false, grd_pos (by omega)]
          exact .inl ⟨(_, _), rfl, hgo fun h => absurd h h8⟩
      · rw [h3 hq]
        exact .inr ⟨_, rfl, fun h => absurd (h i n hn).2.1 hq, fun _ => rfl⟩
  · rintro m s ⟨rfl, hI⟩
    simp only [m_syntagmaref05_May_l1]
    rw [decide_eq_false (by omega), cond_false]
    exact ⟨_, rfl, fun _ => rfl, fun h => absurd (fun i n hn => hI i n (getLt hn) hn) h⟩
theorem depK (i : Nat) (ks d : List Int) (hks : ks.length ≤ 63) (hi : i < d.length) (hI : inL i ks) :
    m_tree_depths_l2 (i : Int) ks FU (0, d) = some (d.set i (mx (gd d) (gd d i) ks)) := by
  obtain ⟨o, h1, h2⟩ := loop_rng (φ := fun n j s => m_tree_depths_l2 (i : Int) ks n (j, s)) (l := ks) (fun j s => s = d.set i (mx (gd d) (gd d i) (ks.take j))) (fun o => o = d.set i (mx (gd d) (gd d i) ks)) (by
    rintro n j x s hx hj rfl
    simp only [m_tree_depths_l2]
    have hq := hI x (List.mem_of_getElem? hx)
    have hxi : x.toNat ≠ i := by omega
    rw [decide_eq_true (show (j : Int) < ks.length by omega), cond_true, getI hx, Option.bind_some]
    rw [idxD (k := (i : Int)) (by omega) (by rw [List.length_set]; omega), Option.bind_some, idxD (k := x) (by omega) (by rw [List.length_set]; omega), Option.bind_some, Option.bind_some, grd_pos (by omega)]
    refine .inl ⟨_, rfl, ?_⟩
    rw [take_snoc hx, mx_snoc, gd_self (by omega), gd_other hxi, Int.toNat_natCast, List.set_set]) (by
    rintro n s rfl
    simp only [m_tree_depths_l2]
    rw [decide_eq_false (by omega), cond_false, List.take_length]
    exact ⟨_, rfl, rfl⟩) (by rw [FUv]; omega) d (by
    show d = d.set i (gd d i)
    rw [set_gd (by omega)])
  rw [h1, h2]
theorem depths_eq (e : ApiExpr) (hl : e.l.length ≤ 700) (hN : ∀ n ∈ e.l, NB n) (hok : allOk e.l) : m_tree_depths e = some (depU e.l e.l.length) := by
  unfold m_tree_depths
  rw [grd_pos (by omega), grd_pos (by omega), Int.toNat_natCast]
  obtain ⟨o, h1, h2⟩ := loop_rng (φ := fun n j s => m_tree_depths_l1 e n (j, s)) (l := e.l) (fun i s => s = depU e.l i) (fun o => o = depU e.l e.l.length) (by
    rintro m i n s hn hi rfl
    simp only [m_tree_depths_l1]
    have hNn := hN n (List.mem_of_getElem? hn)
    have hdl : i < (depU e.l i).length := by rw [depU_len]; omega
    have hb := mx_bd (M := (i : Int)) (fun k => bd_gd (depU_bd e.l i) (by omega) k) (kidsP n) (gd (depU e.l i) i) (bd_gd (depU_bd e.l i) (by omega) _)
    rw [decide_eq_true (show (i : Int) < e.l.length by omega), cond_true, getI hn, Option.bind_some]
    rw [show m_tree_Kids (⟨n.kind, n.a, n.b, n.c, n.n_, n.name, n.s, n.l, n.pos⟩ : ApiNode) = m_tree_Kids n from rfl, kids_eq n hNn, Option.bind_some, depK i _ _ (kids_len n hNn) hdl (hok i n hn).2.1, Option.bind_some]
    rw [idxD (k := (i : Int)) (by omega) (by rw [List.length_set]; omega), Option.bind_some, gd_self hdl, grd_pos (by omega), Option.bind_some, grd_pos (by omega)]
    refine .inl ⟨_, rfl, ?_⟩
    rw [depU_s hn, Int.toNat_natCast, List.set_set]) (by
    rintro n s rfl
    simp only [m_tree_depths_l1]
    rw [decide_eq_false (by omega), cond_false]
    exact ⟨_, rfl, rfl⟩) (by rw [FUv]; omega) (List.replicate e.l.length 0) rfl
  rw [h1, h2, Option.bind_some]
theorem contains_eq (l : List Int) (h : l.length ≤ 1000) : m_slices_ContainsFunc_int_int l (fun y0 => m_tree_May_1 y0) = some (decide (∃ c ∈ l, c ≠ 1)) := by
  unfold m_slices_ContainsFunc_int_int m_slices_IndexFunc_int_int
  rw [loop_find (φ := m_slices_IndexFunc_int_int_l1 l (fun y0 => m_tree_May_1 y0)) (l := l) (fun i => (i : Int)) (fun c => !decide (c = 1)) ?_ ?_ (by rw [FUv]; omega)]
  · rw [Option.bind_some]
    cases hf : l.findIdx? (fun c => !decide (c = 1)) with
    | none =>
      have : ¬ ∃ c ∈ l, c ≠ 1 := by
        rintro ⟨c, hc, hne⟩
        have := List.findIdx?_eq_none_iff.1 hf c hc
        simp [hne] at this
      rw [decide_eq_false this]; rfl
    | some i =>
      obtain ⟨hi, h1, _⟩ := List.findIdx?_eq_some_iff_getElem.1 hf
      have : ∃ c ∈ l, c ≠ 1 := ⟨l[i], List.getElem_mem hi, by simpa using h1⟩
      rw [decide_eq_true this]
      show some (decide (0 ≤ (i : Int))) = some true
      rw [decide_eq_true (by omega)]
  · intro n i x hx hi
    simp only [m_slices_IndexFunc_int_int_l1]
    rw [decide_eq_true (show (i : Int) < l.length by omega), cond_true, getI hx, Option.bind_some, show m_tree_May_1 x = some (!decide (x = 1)) from rfl, Option.bind_some]
    exact ⟨fun hq => by rw [hq, cond_false, grd_pos (by omega)], fun hq => by rw [hq, cond_true]⟩
  · intro n
    simp only [m_slices_IndexFunc_int_int_l1]
    rw [decide_eq_false (by omega), cond_false]
def odd1 (L : List ApiNode) : Prop := ∃ c ∈ (cntU L L.length).take (L.length - 1), c ≠ 1
noncomputable def mayT (L : List ApiNode) : Int := if L.length = 0 ∨ 600 < L.length then 8 else if ¬ allOk L then 4 else if odd1 L then 4 else if 100 < gd (depU L L.length) ((L.length : Int) - 1) then 6 else 0
theorem may_eq (e : ApiExpr) (hl : e.l.length ≤ 701) (hN : ∀ n ∈ e.l, NB n) : m_tree_May e = some (mayT e.l) := by
  unfold m_tree_May mayT
  by_cases h0 : e.l.length = 0 ∨ 600 < e.l.length
  · rw [if_pos h0, show (decide ((e.l.length : Int) = 0) || decide (600 < (e.l.length : Int))) = true by rw [Bool.or_eq_true, decide_eq_true_eq, decide_eq_true_eq]; omega, cond_true]
  rw [if_neg h0, decide_eq_false (by omega), decide_eq_false (by omega), Bool.or_false, cond_false, grd_pos (by omega), grd_pos (by omega), Int.toNat_natCast]
  obtain ⟨o, h1, h2, h3⟩ := mayL e (by omega) hN
  rw [h1, Option.bind_some]
  by_cases hok : allOk e.l
  · rw [h2 hok, go_on, if_neg (fun h => h hok), cntU_len, grd_pos (by omega), show ((e.l.length : Int) - 1) = ((e.l.length - 1 : Nat) : Int) by omega, sli_take (by rw [cntU_len]; omega), Option.bind_some, contains_eq _ (by simp; omega), Option.bind_some]
    by_cases ho : odd1 e.l
    · rw [if_pos ho, decide_eq_true (p := ∃ c ∈ _, c ≠ 1) ho, cond_true]
    · rw [if_neg ho, decide_eq_false (p := ∃ c ∈ _, c ≠ 1) ho, cond_false, depths_eq e (by omega) hN hok, Option.bind_some, grd_pos (by omega), idxD (by omega) (by rw [depU_len]; omega), Option.bind_some]
      by_cases hd : 100 < gd (depU e.l e.l.length) ((e.l.length - 1 : Nat) : Int)
      · rw [if_pos hd, decide_eq_true hd, cond_true]
      · rw [if_neg hd, decide_eq_false hd, cond_false]
  · rw [h3 hok, if_pos hok]; rfl
theorem rmay_eqB (e : ApiExpr) (hl : e.l.length ≤ 701) (hS : ∀ n ∈ e.l, n.l.length * 40 ≤ 140737488355328) : m_syntagmaref05_May e = some (mayT e.l) := by
  unfold m_syntagmaref05_May mayT
  by_cases h0 : e.l.length = 0 ∨ 600 < e.l.length
  · rw [if_pos h0, show (decide ((e.l.length : Int) < 1) || decide (600 < (e.l.length : Int))) = true by rw [Bool.or_eq_true, decide_eq_true_eq, decide_eq_true_eq]; omega, cond_true]
  rw [if_neg h0, decide_eq_false (by omega), decide_eq_false (by omega), Bool.or_false, cond_false, grd_pos (by omega), grd_pos (by omega), grd_pos (by omega), grd_pos (by omega), Int.toNat_natCast]
  obtain ⟨o, h1, h2, h3⟩ := rmayL e (by omega) hS
  rw [h1, Option.bind_some]
  by_cases hok : allOk e.l
  · rw [h2 hok, go_on, if_neg (fun h => h hok)]
    have hL : ((cntU e.l e.l.length).take (e.l.length - 1)).length = e.l.length - 1 := by rw [List.length_take, cntU_len]; omega
    show (m_syntagmaref05_May_l3 e (cntU e.l e.l.length) FU 0).bind _ = _
    rw [loop_any (φ := m_syntagmaref05_May_l3 e (cntU e.l e.l.length)) (l := (cntU e.l e.l.length).take (e.l.length - 1)) 4 (fun _ c => c ≠ 1) ?_ ?_ (by rw [FUv, hL]; omega)]
    · rw [Option.bind_some]
      by_cases ho : odd1 e.l
      · rw [if_pos ho, if_pos]
        · rfl
        · obtain ⟨c, hc, hne⟩ := ho
          obtain ⟨i, hi, hx⟩ := List.getElem_of_mem hc
          exact ⟨i, c, by rw [← hx]; exact List.getElem?_eq_getElem hi, hne⟩
      · rw [if_neg ho, if_neg, go_on, grd_pos (by omega), idxD (by omega) (by rw [depU_len]; omega), Option.bind_some]
        · by_cases hd : 100 < gd (depU e.l e.l.length) ((e.l.length : Int) - 1)
          · rw [if_pos hd, decide_eq_true hd, cond_true]
          · rw [if_neg hd, decide_eq_false hd, cond_false]
        · rintro ⟨i, c, hx, hne⟩
          exact ho ⟨c, List.mem_of_getElem? hx, hne⟩
    · intro n i x hx hi
      simp only [m_syntagmaref05_May_l3]
      rw [hL] at hi
      have hx2 : (cntU e.l e.l.length)[i]? = some x := by
        rw [List.getElem?_take, if_pos hi] at hx
        exact hx
      rw [grd_pos (by omega), decide_eq_true (show (i : Int) < (e.l.length : Int) - 1 by omega), cond_true, getI hx2, Option.bind_some]
      exact ⟨fun hq => by rw [decide_eq_true (Classical.not_not.1 hq), Bool.not_true, cond_false, grd_pos (by omega)], fun hq => by rw [decide_eq_false hq, Bool.not_false, cond_true]⟩
    · intro n
      simp only [m_syntagmaref05_May_l3]
      rw [grd_pos (by omega), decide_eq_false (by omega), cond_false]
  · rw [h3 hok, if_pos hok]; rfl
theorem rmay_eq (e : ApiExpr) (hl : e.l.length ≤ 701) (hN : ∀ n ∈ e.l, NB n) : m_syntagmaref05_May e = some (mayT e.l) := rmay_eqB e hl (fun n hn => by have := hN n hn; unfold NB at this; omega)
theorem mayT_ok {L : List ApiNode} (h : mayT L = 0) : 1 ≤ L.length ∧ L.length ≤ 600 ∧ allOk L := by
  unfold mayT at h
  by_cases h0 : L.length = 0 ∨ 600 < L.length
  · rw [if_pos h0] at h; omega
  · rw [if_neg h0] at h
    by_cases h1 : allOk L
    · exact ⟨by omega, by omega, h1⟩
    · rw [if_pos h1] at h; omega
def fewN (n : ApiNode) : ApiNode := ⟨n.kind, n.a, n.b, n.c, n.n_, n.name, n.s, [] ++ n.l.take 60, n.pos⟩
def fewE (e : ApiExpr) : ApiExpr := ⟨(e.l.take 700).map fewN⟩
theorem min60 (l : List ApiField) : sli l 0 (if 60 < (l.length : Int) then 60 else (l.length : Int)) = some (l.take 60) := by
  by_cases h : 60 < (l.length : Int)
  · rw [if_pos h]; exact sli_take (k := 60) (by omega)
  · rw [if_neg h, sli_take (by omega), List.take_of_length_le (by omega), List.take_of_length_le (by omega)]
theorem few_eq (e : ApiExpr) : m_syntagmalaw05_Few e = some (fewE e) := by
  unfold m_syntagmalaw05_Few
  have hL : (e.l.take 700).length ≤ 700 ∧ (e.l.take 700).length ≤ e.l.length := by rw [List.length_take]; omega
  rw [loop_map (φ := fun n i s => m_syntagmalaw05_Few_l1 e n (i, s)) (l := e.l.take 700) fewN id 0 ?_ ?_ (by rw [FUv]; omega) [] rfl]
  · rfl
  · intro n i x s hx hi hs
    have hx2 : e.l[i]? = some x := by
      rw [List.getElem?_take, if_pos (by omega)] at hx
      exact hx
    have h60 : (x.l.take 60).length ≤ 60 := by rw [List.length_take]; omega
    simp only [m_syntagmalaw05_Few_l1]
    rw [decide_eq_true (show (i : Int) < e.l.length by omega), decide_eq_true (show (i : Int) < 700 by omega), Bool.and_true, cond_true, getI hx2, Option.bind_some, min60, Option.bind_some, grd_pos (by omega), grd_pos (by simp only [List.length_cons, List.length_nil]; omega), grd_pos (by omega)]
    rfl
  · intro n s hs
    simp only [m_syntagmalaw05_Few_l1]
    rw [show (decide (((e.l.take 700).length : Int) < e.l.length) && decide (((e.l.take 700).length : Int) < 700)) = false by
      rw [List.length_take, Bool.and_eq_false_iff, decide_eq_false_iff_not, decide_eq_false_iff_not]; omega, cond_false]
    rfl
theorem fewN_fewN (n : ApiNode) : fewN (fewN n) = fewN n := by
  unfold fewN
  simp only [List.nil_append, ApiNode.mk.injEq, true_and, and_true]
  exact List.take_of_length_le (by rw [List.length_take]; omega)
theorem fewE_fewE (e : ApiExpr) : fewE (fewE e) = fewE e := by
  unfold fewE
  simp only [ApiExpr.mk.injEq]
  rw [List.take_of_length_le (by simp; omega), List.map_map]
  congr 1
  funext n
  exact fewN_fewN n
theorem fewE_len (e : ApiExpr) : (fewE e).l.length ≤ 700 := by unfold fewE; simp; omega
theorem fewN_nb (n : ApiNode) : NB (fewN n) := by unfold fewN NB; simp; omega
theorem fewE_nb (e : ApiExpr) : ∀ n ∈ (fewE e).l, NB n := by
  intro n hn
  obtain ⟨m, _, rfl⟩ := List.mem_map.1 hn
  exact fewN_nb m
end Go.Proofs.Ytnnjgbcojdnhhaa
set_option linter.unusedVariables false
set_option linter.unusedSimpArgs false
set_option maxRecDepth 100000
namespace Go.Proofs.Ytnnjgbcojdnhhaa
open Go.V
open Classical
theorem getI2 {α : Type} {l : List α} {i : Nat} (h : i < l.length) : ∃ x, l[i]? = some x := ⟨l[i], List.getElem?_eq_getElem h⟩
def noParts (n : ApiNode) : Prop := partsB n.kind = false → n.l = []
def postF (L : List ApiNode) : Nat → Int → List Int
  | 0, _ => []
  | f + 1, i => match L[i.toNat]? with | some n => (kidsP n).flatMap (postF L f) ++ [i] | none => []
def post (L : List ApiNode) (i : Int) : List Int := postF L (i.toNat + 1) i
def kidsAt (L : List ApiNode) (i : Int) : List Int := match L[i.toNat]? with | some n => kidsP n | none => []
def inLs (L : List ApiNode) : Prop := ∀ (i : Nat) n, L[i]? = some n → inL i (kidsP n)
theorem kidsAt_s {L : List ApiNode} {i : Nat} {n : ApiNode} (h : L[i]? = some n) : kidsAt L (i : Int) = kidsP n := by
  unfold kidsAt; rw [Int.toNat_natCast, h]
theorem flatMap_congr2 {α β : Type} {f g : α → List β} : ∀ {l : List α}, (∀ x ∈ l, f x = g x) → l.flatMap f = l.flatMap g
  | [], _ => rfl
  | a :: l, h => by
    rw [List.flatMap_cons, List.flatMap_cons, h a (by simp), flatMap_congr2 fun x hx => h x (by simp [hx])]
theorem postF_eq (L : List ApiNode) (hI : inLs L) : ∀ (f g i : Nat), i < f → i < g → postF L f (i : Int) = postF L g (i : Int)
  | 0, _, i, h, _ => by omega
  | _, 0, i, _, h => by omega
  | f + 1, g + 1, i, hf, hg => by
    simp only [postF, Int.toNat_natCast]
    cases hn : L[i]? with
    | none => rfl
    | some n =>
      simp only
      congr 1
      refine flatMap_congr2 fun k hk => ?_
      have := hI i n hn k hk
      obtain ⟨m, rfl⟩ : ∃ m : Nat, k = (m : Int) := ⟨k.toNat, by omega⟩
      exact postF_eq L hI f g m (by omega) (by omega)
theorem post_rec {L : List ApiNode} (hI : inLs L) {i : Nat} {n : ApiNode} (hn : L[i]? = some n) : post L (i : Int) = (kidsP n).flatMap (post L) ++ [(i : Int)] := by
  unfold post
  rw [Int.toNat_natCast]
  simp only [postF, Int.toNat_natCast]
  rw [hn]
  simp only
  congr 1
  refine flatMap_congr2 fun k hk => ?_
  have := hI i n hn k hk
  obtain ⟨m, rfl⟩ : ∃ m : Nat, k = (m : Int) := ⟨k.toNat, by omega⟩
  rw [Int.toNat_natCast]
  exact postF_eq L hI i (m + 1) m (by omega) (by omega)
theorem sum_congr {α : Type} {f g : α → Nat} : ∀ {l : List α}, (∀ x ∈ l, f x = g x) → (l.map f).sum = (l.map g).sum
  | [], _ => rfl
  | a :: l, h => by
    rw [List.map_cons, List.map_cons, List.sum_cons, List.sum_cons, h a (by simp), sum_congr fun x hx => h x (by simp [hx])]
/-- No node has two parents. -/
def one1 (L : List ApiNode) : Prop := ∀ x : Int, ((List.range L.length).map fun (p : Nat) => (kidsAt L (p : Int)).count x).sum ≤ 1
theorem sum_le_range (N : Nat) (g : Int → Nat) : ∀ (l : List Int), l.Nodup → (∀ p ∈ l, 0 ≤ p ∧ p < (N : Int)) → (l.map g).sum ≤ ((List.range N).map fun (p : Nat) => g (p : Int)).sum := by
  induction N with
  | zero =>
    intro l _ h
    rcases l with _ | ⟨a, l⟩
    · simp
    · have := h a (by simp); omega
  | succ N ih =>
    intro l hd h
    rw [List.range_succ, List.map_append, List.sum_append]
    simp only [List.map_cons, List.map_nil, List.sum_cons, List.sum_nil, Nat.add_zero]
    by_cases hN : (N : Int) ∈ l
    · have hp := List.perm_cons_erase hN
      have h1 : (l.map g).sum = g (N : Int) + ((l.erase (N : Int)).map g).sum := by
        have := (hp.map g).sum_nat
        rw [this, List.map_cons, List.sum_cons]
      have h2 := ih (l.erase (N : Int)) (hd.erase _) (fun p hp2 => by
        have h3 := (hd.mem_erase_iff).1 hp2
        have := h p h3.2
        have := h3.1
        omega)
      omega
    · have h2 := ih l hd (fun p hp => by
        have := h p hp
        have : p ≠ (N : Int) := fun e => hN (e ▸ hp)
        omega)
      omega
theorem incs_gd : ∀ (ks c : List Int) (x : Int), inL c.length ks → 0 ≤ x → gd (incs c ks) x = gd c x + (ks.count x : Int)
  | [], c, x, _, _ => by simp [incs]
  | k :: ks, c, x, h, hx => by
    have hk := h k (by simp)
    show gd (incs (inc1 c k) ks) x = _
    rw [incs_gd ks (inc1 c k) x (fun y hy => by have := h y (by simp [hy]); simpa [inc1] using this) hx, List.count_cons]
    unfold inc1
    by_cases e : k = x
    · subst e
      have := gd_self (l := c) (i := k.toNat) (by omega) (gd c k + 1)
      rw [show ((k.toNat : Nat) : Int) = k by omega] at this
      rw [this]; simp; omega
    · rw [gd_other (by omega)]
      have : (k == x) = false := by simpa using e
      rw [this]; simp
theorem cntU_gd (L : List ApiNode) (hI : inLs L) (x : Int) (hx : 0 ≤ x) : ∀ i : Nat, i ≤ L.length → gd (cntU L i) x = (((List.range i).map fun (p : Nat) => (kidsAt L (p : Int)).count x).sum : Nat)
  | 0, _ => by
    unfold gd cntU
    rw [List.getElem?_replicate]
    split <;> rfl
  | i + 1, h => by
    obtain ⟨n, hn⟩ := getI2 (l := L) (i := i) (by omega)
    rw [cntU_s hn, incs_gd _ _ _ (fun k hk => by have := hI i n hn k hk; rw [cntU_len]; omega) hx, cntU_gd L hI x hx i (by omega), List.range_succ, List.map_append, List.sum_append]
    simp only [List.map_cons, List.map_nil, List.sum_cons, List.sum_nil, Nat.add_zero]
    rw [kidsAt_s hn]
    omega
theorem ok_inLs {L : List ApiNode} (h : allOk L) : inLs L := fun i n hn => (h i n hn).2.1
theorem one1_of {L : List ApiNode} (h : allOk L) (ho : ¬ odd1 L) : one1 L := by
  intro x
  have hI := ok_inLs h
  by_cases hx : 0 ≤ x ∧ x < (L.length : Int) - 1
  · have e := cntU_gd L hI x hx.1 L.length (Nat.le_refl _)
    have : gd (cntU L L.length) x = 1 := by
      refine Classical.byContradiction fun hne => ho ⟨_, ?_, hne⟩
      have hl := cntU_len L L.length
      unfold gd
      rw [List.getElem?_eq_getElem (by omega)]
      refine List.mem_of_getElem? (i := x.toNat) ?_
      rw [List.getElem?_take, if_pos (by omega), List.getElem?_eq_getElem (by omega)]; rfl
    omega
  · rw [sum_congr (g := fun _ => 0)]
    · have e0 : ∀ l : List Nat, (l.map fun _ => 0).sum = 0 := fun l => by induction l <;> simp_all
      rw [e0]; omega
    · intro p hp
      rw [List.mem_range] at hp
      obtain ⟨n, hn⟩ := getI2 (l := L) (i := p) hp
      rw [kidsAt_s hn, List.count_eq_zero_of_not_mem]
      intro hm
      have := hI p n hn x hm
      omega
end Go.Proofs.Ytnnjgbcojdnhhaa
set_option linter.unusedVariables false
set_option linter.unusedSimpArgs false
set_option maxRecDepth 100000
namespace Go.Proofs.Ytnnjgbcojdnhhaa
open Go.V
open Classical
theorem noParts_of {n : ApiNode} (h : rightB n = true) : noParts n := by
  intro hp
  unfold rightB at h
  simp only [Bool.and_eq_true] at h
  have h2 := h.2.1.2
  rw [parted_no n hp] at h2
  simp only [Bool.not_eq_true', decide_eq_false_iff_not] at h2
  exact List.length_eq_zero_iff.1 (by omega)
structure TreeOk (e : ApiExpr) : Prop where
  len : e.l.length ≤ 700
  nb : ∀ n ∈ e.l, NB n
  ok : allOk e.l
  one : one1 e.l
theorem mayT_tree {e : ApiExpr} (hl : e.l.length ≤ 700) (hN : ∀ n ∈ e.l, NB n) (h : mayT e.l = 0) : TreeOk e ∧ 1 ≤ e.l.length := by
  obtain ⟨h1, h2, h3⟩ := mayT_ok h
  refine ⟨⟨hl, hN, h3, one1_of h3 ?_⟩, h1⟩
  intro ho
  unfold mayT at h
  rw [if_neg (by omega), if_neg (fun q => q h3), if_pos ho] at h
  omega
def setKs (v : Int) (l ks : List Int) : List Int := ks.foldl (fun l k => l.set k.toNat v) l
theorem setKs_len (v : Int) : ∀ (ks l : List Int), (setKs v l ks).length = l.length
  | [], _ => rfl
  | k :: ks, l => by
    show (setKs v (l.set k.toNat v) ks).length = _
    rw [setKs_len v ks]; simp
theorem setKs_snoc (v : Int) (l ks : List Int) (k : Int) : setKs v l (ks ++ [k]) = (setKs v l ks).set k.toNat v := by
  unfold setKs; rw [List.foldl_append]; rfl
theorem setKs_gd (v : Int) : ∀ (ks l : List Int) (x : Int), inL l.length ks → 0 ≤ x → gd (setKs v l ks) x = if x ∈ ks then v else gd l x
  | [], l, x, _, _ => by simp [setKs]
  | k :: ks, l, x, h, hx => by
    have hk := h k (by simp)
    show gd (setKs v (l.set k.toNat v) ks) x = _
    rw [setKs_gd v ks (l.set k.toNat v) x (fun y hy => by have := h y (by simp [hy]); simpa using this) hx]
    by_cases e : x = k
    · subst e
      have := gd_self (l := l) (i := x.toNat) (by omega) v
      rw [show ((x.toNat : Nat) : Int) = x by omega] at this
      rw [this]; simp
    · rw [gd_other (by omega)]
      by_cases hm : x ∈ ks
      · rw [if_pos hm, if_pos (by simp [hm])]
      · rw [if_neg hm, if_neg (by simp [hm, e])]
theorem two1 {L : List ApiNode} (h1 : one1 L) {i j : Nat} {n m : ApiNode} (hn : L[i]? = some n) (hm : L[j]? = some m) {x : Int} (hx : x ∈ kidsP n) (hy : x ∈ kidsP m) : i = j := by
  refine Classical.byContradiction fun hne => ?_
  have hi := getLt hn
  have hj := getLt hm
  have h2 := sum_le_range L.length (fun p => (kidsAt L p).count x) [(i : Int), (j : Int)] (by simp; omega) (by
    intro p hp
    simp only [List.mem_cons, List.not_mem_nil, or_false] at hp
    rcases hp with rfl | rfl <;> omega)
  have h3 := h1 x
  simp only [List.map_cons, List.map_nil, List.sum_cons, List.sum_nil] at h2
  rw [kidsAt_s hn, kidsAt_s hm] at h2
  have := List.count_pos_iff.2 hx
  have := List.count_pos_iff.2 hy
  omega
end Go.Proofs.Ytnnjgbcojdnhhaa
set_option linter.unusedVariables false
set_option linter.unusedSimpArgs false
set_option maxRecDepth 100000
namespace Go.Proofs.Ytnnjgbcojdnhhaa
open Go.V
open Classical
theorem sum_z {α : Type} : ∀ l : List α, (l.map fun _ => (0 : Nat)).sum = 0
  | [] => rfl
  | a :: l => by rw [List.map_cons, List.sum_cons, sum_z l]
theorem le_sum {α : Type} (f : α → Nat) : ∀ (l : List α) (x : α), x ∈ l → f x ≤ (l.map f).sum
  | a :: l, x, h => by
    rw [List.map_cons, List.sum_cons]
    rcases List.mem_cons.1 h with rfl | h
    · omega
    · have := le_sum f l x h; omega
def bPred (child : Int) (x : List UInt8) (f : ApiField) : Bool := decide (f.at_ = child) && decide (f.var = x)
def bindsP (n : ApiNode) (child : Int) (x : List UInt8) : Int :=
  if (n.kind = 5 ∧ n.name = x) ∨ (n.kind = 7 ∧ n.name = x ∧ child = n.b) ∨ (n.kind = 8 ∧ n.name = x) then -1
  else if n.kind = 14 then (match n.l.findIdx? (bPred child x) with | some k => (k : Int) | none => -2) else -2
theorem loop_first {α β : Type} {l : List α} {p : α → Bool} {ret : Int → β} {φ : Nat → Int → Option (Out β Unit)} (hl : l.length < FU)
    (step : ∀ n (i : Nat) x, l[i]? = some x → i < l.length → φ (n + 1) (i : Int) = if p x = true then some (Out.ret (ret i)) else φ n ((i : Int) + 1)) (stop : ∀ n, φ (n + 1) (l.length : Int) = some (.go ())) :
    φ FU 0 = some (match l.findIdx? p with | some k => .ret (ret k) | none => .go ()) := by
  obtain ⟨o, h1, h2⟩ := loop_rng (φ := fun n i (_ : Unit) => φ n i) (l := l) (fun i _ => ∀ (j : Nat) x, j < i → l[j]? = some x → p x = false) (fun o => o = (match l.findIdx? p with | some k => .ret (ret k) | none => .go ())) (by
    intro n i x _ hx hi hI
    have hs := step n i x hx hi
    cases hp : p x with
    | true =>
      rw [hp, if_pos rfl] at hs
      refine .inr ⟨_, hs, ?_⟩
      have : l.findIdx? p = some i := by
        rw [List.findIdx?_eq_some_iff_getElem]
        obtain ⟨hi2, hx2⟩ := List.getElem?_eq_some_iff.1 hx
        refine ⟨hi, by rw [hx2]; exact hp, fun j hj => ?_⟩
        rw [hI j l[j] hj (List.getElem?_eq_getElem _)]; decide
      rw [this]
    | false =>
      rw [hp, if_neg (by decide)] at hs
      refine .inl ⟨(), hs, fun j y hj hy => ?_⟩
      by_cases hji : j = i
      · subst hji
        rw [hx] at hy
        rw [← Option.some.inj hy]; exact hp
      · exact hI j y (by omega) hy) (by
    intro n _ hI
    refine ⟨_, stop n, ?_⟩
    have : l.findIdx? p = none := by
      rw [List.findIdx?_eq_none_iff]
      intro x hx
      obtain ⟨j, hj, rfl⟩ := List.getElem_of_mem hx
      exact hI j _ hj (List.getElem?_eq_getElem _)
    rw [this]) hl () (fun j x hj => by omega)
  rw [h1, h2]
theorem binds_eq (n : ApiNode) (child : Int) (x : List UInt8) (hN : NB n) : m_syntagmaref06_binds n child x = some (bindsP n child x) := by
  unfold NB at hN
  unfold m_syntagmaref06_binds bindsP
  have e : ((((decide (n.kind = 5)) && (decide ((n.name : List UInt8) = x))) || (((decide (n.kind = 7)) && (decide ((n.name : List UInt8) = x))) && (decide (child = n.b)))) || ((decide (n.kind = 8)) && (decide ((n.name : List UInt8) = x)))) = decide ((n.kind = 5 ∧ n.name = x) ∨ (n.kind = 7 ∧ n.name = x ∧ child = n.b) ∨ (n.kind = 8 ∧ n.name = x)) := by
    rw [Bool.eq_iff_iff]
    simp only [Bool.or_eq_true, Bool.and_eq_true, decide_eq_true_eq, and_assoc, or_assoc]
  rw [e]
  by_cases h1 : (n.kind = 5 ∧ n.name = x) ∨ (n.kind = 7 ∧ n.name = x ∧ child = n.b) ∨ (n.kind = 8 ∧ n.name = x)
  · rw [decide_eq_true h1, cond_true, if_pos h1]
  rw [decide_eq_false h1, cond_false, if_neg h1]
  by_cases h2 : n.kind = 14
  · rw [decide_eq_true h2, cond_true, if_pos h2]
    rw [loop_first (l := n.l) (p := bPred child x) (ret := id) (φ := m_syntagmaref06_binds_l1 n child x) (by rw [FUv]; omega) (by
      intro m i f hf hi
      simp only [m_syntagmaref06_binds_l1]
      rw [decide_eq_true (show (i : Int) < n.l.length by omega), cond_true, getI hf, Option.bind_some]
      unfold bPred
      by_cases h3 : f.at_ = child
      · rw [decide_eq_true h3, cond_true, Option.bind_some, Option.bind_some, Bool.true_and]
        by_cases h4 : f.var = x
        · rw [decide_eq_true h4, cond_true, if_pos rfl]; rfl
        · rw [decide_eq_false h4, cond_false, if_neg (by decide), grd_pos (by omega)]
      · rw [decide_eq_false h3, cond_false, Option.bind_some, cond_false, Bool.false_and, if_neg (by decide), grd_pos (by omega)]) (by
      intro m
      simp only [m_syntagmaref06_binds_l1]
      rw [decide_eq_false (by omega), cond_false]), Option.bind_some]
    cases n.l.findIdx? (bPred child x) <;> rfl
  · rw [decide_eq_false h2, cond_false, if_neg h2]
/-- Upwards. -/
def Uw (L : List ApiNode) (P : List Int) (x : List UInt8) : Nat → Int → Int → Int × Int
  | 0, _, _ => (-1, -1)
  | f + 1, child, up => if 0 ≤ up then (match L[up.toNat]? with
    | some n => if -2 < bindsP n child x then (up, bindsP n child x) else Uw L P x f up (gd P up)
    | none => (-1, -1)) else (-1, -1)
def UP (L : List ApiNode) (P : List Int) (x : List UInt8) (i : Int) : Int × Int := Uw L P x (L.length - i.toNat) i (gd P i)
structure POk (L : List ApiNode) (P : List Int) : Prop where
  len : P.length = L.length
  root : gd P (((L.length - 1 : Nat)) : Int) = -1
  par : ∀ (i : Nat) n, L[i]? = some n → ∀ k ∈ kidsP n, gd P k = (i : Int)
structure Sc (L : List ApiNode) : Prop where
  len : L.length ≤ 700
  pos : 1 ≤ L.length
  nb : ∀ n ∈ L, NB n
  ok : allOk L
  one : one1 L
  all : ∀ j : Nat, j < L.length - 1 → ∃ (i : Nat) (n : ApiNode), L[i]? = some n ∧ (j : Int) ∈ kidsP n
theorem sc_of {e : ApiExpr} (hl : e.l.length ≤ 700) (hN : ∀ n ∈ e.l, NB n) (h : mayT e.l = 0) : Sc e.l := by
  obtain ⟨ht, h1⟩ := mayT_tree hl hN h
  have hI := ok_inLs ht.ok
  refine ⟨hl, h1, hN, ht.ok, ht.one, fun j hj => ?_⟩
  have ho : ¬ odd1 e.l := by
    intro ho
    unfold mayT at h
    obtain ⟨_, h2, h3⟩ := mayT_ok (show mayT e.l = 0 from by unfold mayT; exact h)
    rw [if_neg (by omega), if_neg (fun q => q h3), if_pos ho] at h
    omega
  have e1 := cntU_gd e.l hI (j : Int) (by omega) e.l.length (Nat.le_refl _)
  have e2 : gd (cntU e.l e.l.length) (j : Int) = 1 := by
    refine Classical.byContradiction fun hne => ho ⟨_, ?_, hne⟩
    have hlen := cntU_len e.l e.l.length
    unfold gd
    rw [Int.toNat_natCast, List.getElem?_eq_getElem (by omega), Option.getD_some]
    refine List.mem_iff_getElem.2 ⟨j, by simp; omega, by simp⟩
  rw [e2] at e1
  refine Classical.byContradiction fun hno => ?_
  have e3 : ((List.range e.l.length).map fun (p : Nat) => (kidsAt e.l (p : Int)).count (j : Int)).sum = 0 := by
    rw [sum_congr (g := fun _ => 0) (fun p hp => ?_)]
    · exact sum_z _
    · obtain ⟨n, hn⟩ := getI2 (l := e.l) (i := p) (List.mem_range.1 hp)
      rw [kidsAt_s hn, List.count_eq_zero]
      exact fun hm => hno ⟨p, n, hn, hm⟩
  rw [e3] at e1
  omega
theorem kids_nodup {L : List ApiNode} (h : Sc L) {i : Nat} {n : ApiNode} (hn : L[i]? = some n) : (kidsP n).Nodup := by
  rw [List.nodup_iff_count]
  intro x
  have h1 := h.one x
  refine Nat.le_trans ?_ h1
  have hi := getLt hn
  have := le_sum (fun (p : Nat) => (kidsAt L (p : Int)).count x) (List.range L.length) i (List.mem_range.2 hi)
  simp only [kidsAt_s hn] at this
  exact this
theorem par_ex {L : List ApiNode} (h : Sc L) {P : List Int} (hP : POk L P) {j : Nat} (hj : j < L.length) : (gd P (j : Int) = -1 ∧ j = L.length - 1) ∨ ∃ (i : Nat) (n : ApiNode), j < i ∧ L[i]? = some n ∧ (j : Int) ∈ kidsP n ∧ gd P (j : Int) = (i : Int) := by
  by_cases hr : j = L.length - 1
  · subst hr; exact .inl ⟨hP.root, rfl⟩
  · obtain ⟨i, n, h1, h2⟩ := h.all j (by omega)
    have := ok_inLs h.ok i n h1 _ h2
    exact .inr ⟨i, n, by omega, h1, h2, hP.par i n h1 _ h2⟩
theorem Uw_fuel {L : List ApiNode} (h : Sc L) {P : List Int} (hP : POk L P) (x : List UInt8) : ∀ (f g j : Nat), j < L.length → L.length - j ≤ f → L.length - j ≤ g → Uw L P x f (j : Int) (gd P (j : Int)) = Uw L P x g (j : Int) (gd P (j : Int))
  | 0, _, j, hj, hf, _ => by omega
  | _, 0, j, hj, _, hg => by omega
  | f + 1, g + 1, j, hj, hf, hg => by
    simp only [Uw]
    rcases par_ex h hP hj with ⟨h1, _⟩ | ⟨i, n, h1, h2, h3, h4⟩
    · rw [h1, if_neg (by omega), if_neg (by omega)]
    · have hi := getLt h2
      rw [h4, if_pos (by omega), if_pos (by omega), Int.toNat_natCast, h2]
      simp only
      rw [Uw_fuel h hP x f g i hi (by omega) (by omega)]
theorem UP_root {L : List ApiNode} (h : Sc L) {P : List Int} (hP : POk L P) (x : List UInt8) : UP L P x (((L.length - 1 : Nat)) : Int) = (-1, -1) := by
  have h1 := h.pos
  unfold UP
  rw [hP.root, show L.length - (((L.length - 1 : Nat)) : Int).toNat = 0 + 1 by omega]
  rfl
theorem UP_step {L : List ApiNode} (h : Sc L) {P : List Int} (hP : POk L P) (x : List UInt8) {i : Nat} {n : ApiNode} (hn : L[i]? = some n) {k : Int} (hk : k ∈ kidsP n) : UP L P x k = if -2 < bindsP n k x then ((i : Int), bindsP n k x) else UP L P x (i : Int) := by
  have hi := getLt hn
  have hq := ok_inLs h.ok i n hn k hk
  obtain ⟨j, rfl⟩ : ∃ j : Nat, k = (j : Int) := ⟨k.toNat, by omega⟩
  unfold UP
  rw [hP.par i n hn _ hk, Int.toNat_natCast, Int.toNat_natCast, show L.length - j = (L.length - j - 1) + 1 by omega]
  simp only [Uw]
  rw [if_pos (by omega), Int.toNat_natCast, hn]
  simp only
  rw [Uw_fuel h hP x (L.length - j - 1) (L.length - i) i hi (by omega) (by omega)]
def toB (p : Int × Int) : ScopeBinder := ⟨p.1, p.2⟩
def VP (L : List ApiNode) (P : List Int) (j : Nat) : Int × Int := match L[j]? with
  | some n => if n.kind = 4 then UP L P n.name (j : Int) else (-1, -1)
  | none => (-1, -1)
theorem rbL2 (e : ApiExpr) {P : List Int} (h : Sc e.l) (hP : POk e.l P) {i : Nat} {n0 : ApiNode} (hn0 : e.l[i]? = some n0) : ∀ (d j f : Nat), j < e.l.length → e.l.length - j ≤ d → d + 1 < f → m_syntagmaref06_Binders_l2 e P (i : Int) f ((j : Int), gd P (j : Int), -1, -1) = some (Uw e.l P n0.name d (j : Int) (gd P (j : Int)))
  | 0, j, f, hj, hd, hf => by omega
  | d + 1, j, 0, hj, hd, hf => by omega
  | d + 1, j, 1, hj, hd, hf => by omega
  | d + 1, j, f + 2, hj, hd, hf => by
    simp only [Uw]
    rcases par_ex h hP hj with ⟨h1, _⟩ | ⟨p, n, h1, h2, h3, h4⟩
    · simp only [m_syntagmaref06_Binders_l2]
      rw [h1, if_neg (by omega)]
      rfl
    · have hp := getLt h2
      have hNn := h.nb n (List.mem_of_getElem? h2)
      rw [h4, if_pos (by omega), Int.toNat_natCast, h2]
      simp only
      rw [m_syntagmaref06_Binders_l2]
      rw [decide_eq_true (show (0 : Int) ≤ (p : Int) by omega), decide_eq_true (show (-1 : Int) < 0 by omega), Bool.and_true, cond_true, getI h2, Option.bind_some, getI hn0, Option.bind_some, binds_eq n _ _ hNn, Option.bind_some]
      have hpi : idx P (p : Int) = some (gd P (p : Int)) := idxD (by omega) (by rw [hP.len]; omega)
      by_cases hb : -2 < bindsP n (j : Int) n0.name
      · rw [decide_eq_true hb, cond_true, hpi, Option.bind_some, if_pos hb]
        rw [m_syntagmaref06_Binders_l2]
        rw [decide_eq_false (show ¬ (p : Int) < 0 by omega), Bool.and_false, cond_false]
      · rw [decide_eq_false hb, cond_false, hpi, Option.bind_some, if_neg hb]
        exact rbL2 e h hP hn0 d p (f + 1) hp (by omega) (by omega)
theorem rbinders_l1 (e : ApiExpr) {P : List Int} (h : Sc e.l) (hP : POk e.l P) : m_syntagmaref06_Binders_l1 e P FU (0, []) = some ((List.range e.l.length).map fun j => (⟨(VP e.l P j).1, (VP e.l P j).2⟩ : Syntagmaref06Binder)) := by
  have hl := h.len
  obtain ⟨o, h1, h2⟩ := loop_rng (φ := fun n i s => m_syntagmaref06_Binders_l1 e P n (i, s)) (l := e.l) (fun i s => s = (List.range i).map fun j => (⟨(VP e.l P j).1, (VP e.l P j).2⟩ : Syntagmaref06Binder)) (fun o => o = (List.range e.l.length).map fun j => (⟨(VP e.l P j).1, (VP e.l P j).2⟩ : Syntagmaref06Binder)) (by
    rintro m i n s hn hi rfl
    simp only [m_syntagmaref06_Binders_l1]
    have hv : (bif (decide (n.kind = 4)) then (idx P (i : Int)).bind fun x3 => m_syntagmaref06_Binders_l2 e P (i : Int) FU ((i : Int), x3, (-1), (-1)) else some ((-1), (-1)) : Option (Int × Int)) = some (VP e.l P i) := by
      unfold VP
      rw [hn]
      simp only
      by_cases h4 : n.kind = 4
      · rw [decide_eq_true h4, cond_true, if_pos h4, idxD (by omega) (by rw [hP.len]; omega), Option.bind_some, rbL2 e h hP hn (e.l.length - i) i FU hi (by omega) (by rw [FUv]; omega)]
        unfold UP
        rw [Int.toNat_natCast]
      · rw [decide_eq_false h4, cond_false, if_neg h4]
    rw [decide_eq_true (show (i : Int) < e.l.length by omega), cond_true, getI hn, Option.bind_some, hv, Option.bind_some]
    rw [grd_pos (by simp only [List.length_map, List.length_range, List.length_cons, List.length_nil]; omega), grd_pos (by omega)]
    refine .inl ⟨_, rfl, ?_⟩
    rw [List.range_succ, List.map_append]; rfl) (by
    rintro m s rfl
    simp only [m_syntagmaref06_Binders_l1]
    rw [decide_eq_false (by omega), cond_false]
    exact ⟨_, rfl, rfl⟩) (by rw [FUv]; omega) [] rfl
  rw [h1, h2]
theorem rparK (i : Int) (ks l : List Int) (hl : ks.length ≤ 63) (hI : inL l.length ks) : m_syntagmaref06_parents_l2 i ks FU (0, l) = some (setKs i l ks) := by
  obtain ⟨o, h1, h2⟩ := loop_rng (φ := fun n j s => m_syntagmaref06_parents_l2 i ks n (j, s)) (l := ks) (fun j s => s = setKs i l (ks.take j)) (fun o => o = setKs i l ks) (by
    rintro m j k s hk hj rfl
    have hq := hI k (List.mem_of_getElem? hk)
    simp only [m_syntagmaref06_parents_l2]
    rw [decide_eq_true (show (j : Int) < ks.length by omega), cond_true, getI hk, Option.bind_some, idxD (by omega) (by rw [setKs_len]; omega), Option.bind_some, grd_pos (by omega)]
    exact .inl ⟨_, rfl, by rw [take_snoc hk, setKs_snoc]⟩) (by
    rintro m s rfl
    simp only [m_syntagmaref06_parents_l2]
    rw [decide_eq_false (by omega), cond_false, List.take_length]
    exact ⟨_, rfl, rfl⟩) (by rw [FUv]; omega) l rfl
  rw [h1, h2]
theorem rparents_eq (e : ApiExpr) (h : Sc e.l) : ∃ P, m_syntagmaref06_parents e = some P ∧ POk e.l P := by
  have hl := h.len
  have h0 := h.pos
  have hI := ok_inLs h.ok
  unfold m_syntagmaref06_parents
  rw [grd_pos (by omega), grd_pos (by omega), Int.toNat_natCast]
  obtain ⟨o, h1, h2, h3⟩ := loop_rng (φ := fun n i s => m_syntagmaref06_parents_l1 e n (i, s)) (l := e.l) (fun i (s : List Int) => s.length = e.l.length ∧ ∀ (j : Nat) n, j < i → e.l[j]? = some n → ∀ k ∈ kidsP n, gd s k = (j : Int)) (fun o => o.length = e.l.length ∧ ∀ (j : Nat) n, e.l[j]? = some n → ∀ k ∈ kidsP n, gd o k = (j : Int)) (by
    rintro m i n s hn hi ⟨hs, hp⟩
    have hNn := h.nb n (List.mem_of_getElem? hn)
    have hin : inL s.length (kidsP n) := fun k hk => by have := hI i n hn k hk; omega
    simp only [m_syntagmaref06_parents_l1]
    rw [decide_eq_true (show (i : Int) < e.l.length by omega), cond_true, getI hn, Option.bind_some, rkids_eq n hNn, Option.bind_some, rparK (i : Int) (kidsP n) s (kids_len n hNn) hin, Option.bind_some, grd_pos (by omega)]
    refine .inl ⟨_, rfl, by rw [setKs_len]; exact hs, fun j y hj hy k hk => ?_⟩
    have hk0 := hI j y hy k hk
    rw [setKs_gd _ _ _ _ hin hk0.1]
    by_cases hji : j = i
    · subst hji
      rw [hn] at hy
      rw [← Option.some.inj hy] at hk
      rw [if_pos hk]
    · rw [if_neg (fun hk2 => hji (two1 h.one hy hn hk hk2)), hp j y (by omega) hy k hk]) (by
    rintro m s ⟨hs, hp⟩
    simp only [m_syntagmaref06_parents_l1]
    rw [decide_eq_false (by omega), cond_false]
    exact ⟨_, rfl, hs, fun j n hn => hp j n (getLt hn) hn⟩) (by rw [FUv]; omega) (List.replicate e.l.length 0) ⟨by simp, fun j n hj => by omega⟩
  rw [h1, Option.bind_some, grd_pos (by omega), idxD (by omega) (by omega), Option.bind_some]
  refine ⟨_, rfl, by rw [List.length_set]; exact h2, ?_, fun j n hn k hk => ?_⟩
  · rw [show (((o.length : Nat) : Int) - 1).toNat = e.l.length - 1 by omega]
    exact gd_self (by omega) _
  · have hk0 := hI j n hn k hk
    have hj := getLt hn
    rw [gd_other (by omega), h3 j n hn k hk]
theorem rbinders_eq (e : ApiExpr) (h : Sc e.l) : ∃ P, POk e.l P ∧ m_syntagmaref06_Binders e = some ((List.range e.l.length).map fun j => (⟨(VP e.l P j).1, (VP e.l P j).2⟩ : Syntagmaref06Binder)) := by
  obtain ⟨P, h1, h2⟩ := rparents_eq e h
  refine ⟨P, h2, ?_⟩
  unfold m_syntagmaref06_Binders
  rw [h1, Option.bind_some, rbinders_l1 e h h2, Option.bind_some]
end Go.Proofs.Ytnnjgbcojdnhhaa
set_option linter.unusedVariables false
set_option linter.unusedSimpArgs false
set_option maxRecDepth 100000
namespace Go.Proofs.Ytnnjgbcojdnhhaa
open Go.V
open Classical
def findP (r : List ScopeKnown) (x : List UInt8) : ScopeBinder := match r.reverse.find? (fun k => decide (k.name = x)) with
  | some k => k.by_
  | none => ⟨-1, -1⟩
theorem findP_snoc (r : List ScopeKnown) (k : ScopeKnown) (x : List UInt8) : findP (r ++ [k]) x = if k.name = x then k.by_ else findP r x := by
  unfold findP
  rw [List.reverse_append, List.reverse_singleton, List.singleton_append, List.find?_cons]
  by_cases h : k.name = x
  · rw [decide_eq_true h, if_pos h]
  · rw [decide_eq_false h, if_neg h]
theorem find_l (r : List ScopeKnown) (x : List UInt8) (hr : r.length ≤ 1000000) : ∀ (n i : Nat), i ≤ r.length → i < n → m_scope_reach_find_l1 r x n ((i : Int) - 1) = some (match (r.take i).reverse.find? (fun k => decide (k.name = x)) with | some k => .ret k.by_ | none => .go ())
  | 0, i, _, h => by omega
  | n + 1, 0, _, _ => by
    simp only [m_scope_reach_find_l1]
    rw [decide_eq_false (by omega), cond_false]; rfl
  | n + 1, i + 1, hi, h => by
    obtain ⟨k, hk⟩ := getI2 (l := r) (i := i) (by omega)
    simp only [m_scope_reach_find_l1]
    rw [show (((i + 1 : Nat) : Int) - 1) = (i : Int) by omega, decide_eq_true (by omega), cond_true, getI hk, Option.bind_some, take_snoc hk, List.reverse_append, List.reverse_singleton, List.singleton_append, List.find?_cons]
    by_cases hx : k.name = x
    · rw [decide_eq_true hx, cond_true, Option.bind_some]
    · rw [decide_eq_false hx, cond_false, grd_pos (by omega)]
      exact find_l r x hr n i (by omega) (by omega)
theorem find_eq (r : List ScopeKnown) (x : List UInt8) (hr : r.length ≤ 1000000) : m_scope_reach_find r x = some (findP r x) := by
  unfold m_scope_reach_find findP
  rw [grd_pos (by omega), find_l r x hr FU r.length (Nat.le_refl _) (by rw [FUv]; omega), Option.bind_some, List.take_length]
  cases r.reverse.find? (fun k => decide (k.name = x)) <;> rfl
theorem reachW_eq (r : List ScopeKnown) (x : List UInt8) (i b : Int) (hr : r.length ≤ 1000000) : m_scope_reach_with r x i b = some (r ++ [⟨x, ⟨i, b⟩⟩]) := by
  unfold m_scope_reach_with m_slices_Clip_scope_reach_scope_known
  rw [Option.bind_some, grd_pos (by simp only [List.length_cons, List.length_nil]; omega)]
/-- What a walk leaves. -/
def Wr (v : Nat → ScopeBinder) (S : Int → Prop) (z z' : List ScopeBinder) : Prop := z'.length = z.length ∧ ∀ j : Nat, (S (j : Int) → j < z.length → z'[j]? = some (v j)) ∧ (¬ S (j : Int) → z'[j]? = z[j]?)
theorem wr_refl (v : Nat → ScopeBinder) (z : List ScopeBinder) : Wr v (fun _ => False) z z := ⟨rfl, fun j => ⟨fun h => h.elim, fun _ => rfl⟩⟩
theorem wr_trans {v : Nat → ScopeBinder} {S T : Int → Prop} {a b c : List ScopeBinder} (h : Wr v S a b) (k : Wr v T b c) : Wr v (fun x => S x ∨ T x) a c := by
  refine ⟨k.1.trans h.1, fun j => ⟨fun hs hj => ?_, fun hs => ?_⟩⟩
  · by_cases ht : T (j : Int)
    · exact (k.2 j).1 ht (by rw [h.1]; exact hj)
    · rw [(k.2 j).2 ht]
      rcases hs with hs | hs
      · exact (h.2 j).1 hs hj
      · exact absurd hs ht
  · rw [(k.2 j).2 (fun ht => hs (.inr ht)), (h.2 j).2 (fun ht => hs (.inl ht))]
theorem wr_imp {v : Nat → ScopeBinder} {S T : Int → Prop} {a b : List ScopeBinder} (h : Wr v S a b) (hst : ∀ x, S x ↔ T x) : Wr v T a b :=
  ⟨h.1, fun j => ⟨fun ht => (h.2 j).1 ((hst _).2 ht), fun ht => (h.2 j).2 (fun hs => ht ((hst _).1 hs))⟩⟩
theorem wr_set {v : Nat → ScopeBinder} {z : List ScopeBinder} {i : Nat} {y : ScopeBinder} (hy : y = v i) : Wr v (fun x => x = (i : Int)) z (z.set i y) := by
  subst hy
  refine ⟨by simp, fun j => ⟨fun h hj => ?_, fun h => ?_⟩⟩
  · have : j = i := by omega
    subst this
    rw [List.getElem?_set_self hj]
  · rw [List.getElem?_set_ne (fun e => h (by rw [e]))]
/-- A loop over children. -/
theorem wr_loop {v : Nat → ScopeBinder} {β : Type} {l : List β} {at_ : β → Int} {post : Int → Int → Prop} {φ : Nat → Int → List ScopeBinder → Option (List ScopeBinder)} (N : Nat) (hl : l.length < FU)
    (step : ∀ n (i : Nat) x z, l[i]? = some x → i < l.length → z.length = N → ∃ z', φ (n + 1) (i : Int) z = φ n ((i : Int) + 1) z' ∧ Wr v (post (at_ x)) z z') (stop : ∀ n z, φ (n + 1) (l.length : Int) z = some z) (z : List ScopeBinder) (hz : z.length = N) :
    ∃ z', φ FU 0 z = some z' ∧ Wr v (fun y => ∃ x ∈ l, post (at_ x) y) z z' := by
  refine loop_rng (φ := φ) (l := l) (fun i s => Wr v (fun y => ∃ x ∈ l.take i, post (at_ x) y) z s) (fun o => Wr v (fun y => ∃ x ∈ l, post (at_ x) y) z o) ?_ ?_ hl z (by simpa using wr_imp (wr_refl v z) (by simp))
  · intro n i x s hx hi hs
    obtain ⟨z', h1, h2⟩ := step n i x s hx hi (by rw [hs.1]; exact hz)
    refine .inl ⟨z', h1, wr_imp (wr_trans hs h2) (fun y => ?_)⟩
    rw [take_snoc hx]
    simp only [List.mem_append, List.mem_singleton, or_and_right, exists_or, exists_eq_left]
  · intro n s hs
    rw [List.take_length] at hs
    exact ⟨_, stop n s, hs⟩
/-- What is known at a child. -/
def KnownAt (L : List ApiNode) (P : List Int) (r : List ScopeKnown) (i : Int) : Prop := ∀ x, findP r x = toB (UP L P x i)
theorem known_same {L : List ApiNode} (h : Sc L) {P : List Int} (hP : POk L P) {i : Nat} {n : ApiNode} (hn : L[i]? = some n) {k : Int} (hk : k ∈ kidsP n) {r : List ScopeKnown} (hr : KnownAt L P r (i : Int)) (hb : ∀ x, bindsP n k x = -2) : KnownAt L P r k := by
  intro x
  rw [UP_step h hP x hn hk, hb x, if_neg (by decide)]
  exact hr x
theorem known_with {L : List ApiNode} (h : Sc L) {P : List Int} (hP : POk L P) {i : Nat} {n : ApiNode} (hn : L[i]? = some n) {k : Int} (hk : k ∈ kidsP n) {r : List ScopeKnown} (hr : KnownAt L P r (i : Int)) (nm : List UInt8) (b : Int) (h0 : -2 < b) (hb : ∀ x, bindsP n k x = if nm = x then b else -2) : KnownAt L P (r ++ [⟨nm, ⟨(i : Int), b⟩⟩]) k := by
  intro x
  rw [UP_step h hP x hn hk, hb x, findP_snoc]
  by_cases hx : nm = x
  · rw [if_pos hx, if_pos hx, if_pos h0]; rfl
  · rw [if_neg hx, if_neg hx, if_neg (by decide)]
    exact hr x
theorem kids5 {n : ApiNode} (h : n.kind = 5) : kidsP n = [n.a] := by
  unfold kidsP abcN partsB; rw [h]; rfl
theorem kids7 {n : ApiNode} (h : n.kind = 7) : kidsP n = [n.a, n.b] := by
  unfold kidsP abcN partsB; rw [h]; rfl
theorem kids8 {n : ApiNode} (h : n.kind = 8) : kidsP n = [n.a, n.b] := by
  unfold kidsP abcN partsB; rw [h]; rfl
theorem kids14 {n : ApiNode} (h : n.kind = 14) : kidsP n = n.a :: n.l.map (·.at_) := by
  unfold kidsP abcN partsB; rw [h]; rfl
theorem kids4 {n : ApiNode} (h : n.kind = 4) (hp : noParts n) : kidsP n = [] := by
  unfold kidsP abcN partsB; rw [h]; rfl
theorem binds5 {n : ApiNode} (h : n.kind = 5) (k : Int) (x : List UInt8) : bindsP n k x = if n.name = x then -1 else -2 := by
  unfold bindsP
  rw [h]
  by_cases hx : n.name = x
  · rw [if_pos (.inl ⟨rfl, hx⟩), if_pos hx]
  · rw [if_neg (by rintro (⟨_, h⟩ | ⟨_, h, _⟩ | ⟨_, h⟩) <;> exact hx h), if_neg hx, if_neg (by decide)]
theorem binds8 {n : ApiNode} (h : n.kind = 8) (k : Int) (x : List UInt8) : bindsP n k x = if n.name = x then -1 else -2 := by
  unfold bindsP
  rw [h]
  by_cases hx : n.name = x
  · rw [if_pos (.inr (.inr ⟨rfl, hx⟩)), if_pos hx]
  · rw [if_neg (by rintro (⟨_, h⟩ | ⟨_, h, _⟩ | ⟨_, h⟩) <;> exact hx h), if_neg hx, if_neg (by decide)]
theorem binds7 {n : ApiNode} (h : n.kind = 7) (k : Int) (x : List UInt8) : bindsP n k x = if n.name = x ∧ k = n.b then -1 else -2 := by
  unfold bindsP
  rw [h]
  by_cases hx : n.name = x ∧ k = n.b
  · rw [if_pos (.inr (.inl ⟨rfl, hx⟩)), if_pos hx]
  · rw [if_neg (by rintro (⟨h, _⟩ | ⟨_, h⟩ | ⟨h, _⟩) <;> first | exact hx h | exact absurd h (by decide)), if_neg hx, if_neg (by decide)]
theorem binds_no {n : ApiNode} (h5 : n.kind ≠ 5) (h7 : n.kind ≠ 7) (h8 : n.kind ≠ 8) (h14 : n.kind ≠ 14) (k : Int) (x : List UInt8) : bindsP n k x = -2 := by
  unfold bindsP
  rw [if_neg (by rintro (⟨h, _⟩ | ⟨h, _⟩ | ⟨h, _⟩) <;> contradiction), if_neg h14]
theorem binds14a {n : ApiNode} (h : n.kind = 14) (hd : (kidsP n).Nodup) (x : List UInt8) : bindsP n n.a x = -2 := by
  unfold bindsP
  rw [if_neg (by rintro (⟨h2, _⟩ | ⟨h2, _⟩ | ⟨h2, _⟩) <;> rw [h] at h2 <;> exact absurd h2 (by decide)), if_pos h]
  rw [kids14 h, List.nodup_cons] at hd
  have : n.l.findIdx? (bPred n.a x) = none := by
    rw [List.findIdx?_eq_none_iff]
    intro f hf
    unfold bPred
    rw [decide_eq_false (fun e => hd.1 (List.mem_map.2 ⟨f, hf, e⟩)), Bool.false_and]
  rw [this]
theorem binds14l {n : ApiNode} (h : n.kind = 14) (hd : (kidsP n).Nodup) {q : Nat} {f : ApiField} (hf : n.l[q]? = some f) (x : List UInt8) : bindsP n f.at_ x = if f.var = x then (q : Int) else -2 := by
  unfold bindsP
  rw [if_neg (by rintro (⟨h2, _⟩ | ⟨h2, _⟩ | ⟨h2, _⟩) <;> rw [h] at h2 <;> exact absurd h2 (by decide)), if_pos h]
  rw [kids14 h, List.nodup_cons] at hd
  have hinj : ∀ (j : Nat) g, n.l[j]? = some g → g.at_ = f.at_ → j = q := by
    intro j g hg he
    have h1 := List.getElem?_inj (l := n.l.map (·.at_)) (i := j) (j := q) (by rw [List.length_map]; exact getLt hg) hd.2
    exact h1.1 (by rw [List.getElem?_map, List.getElem?_map, hg, hf]; exact congrArg some he)
  obtain ⟨hq, hfq⟩ := List.getElem?_eq_some_iff.1 hf
  by_cases hx : f.var = x
  · have : n.l.findIdx? (bPred f.at_ x) = some q := by
      rw [List.findIdx?_eq_some_iff_getElem]
      refine ⟨hq, by rw [hfq]; unfold bPred; rw [decide_eq_true rfl, decide_eq_true hx]; rfl, fun j hj hp => ?_⟩
      have := hinj j n.l[j] (List.getElem?_eq_getElem _) (by
        unfold bPred at hp
        simp only [Bool.and_eq_true, decide_eq_true_eq] at hp
        exact hp.1)
      omega
    rw [this, if_pos hx]
  · have : n.l.findIdx? (bPred f.at_ x) = none := by
      rw [List.findIdx?_eq_none_iff]
      intro g hg
      obtain ⟨j, hj, he⟩ := List.getElem_of_mem hg
      unfold bPred
      by_cases h1 : g.at_ = f.at_
      · have hjq := hinj j g (by rw [← he]; exact List.getElem?_eq_getElem hj) h1
        subst hjq
        rw [he] at hfq
        subst hfq
        rw [decide_eq_false hx, Bool.and_false]
      · rw [decide_eq_false h1, Bool.false_and]
    rw [this, if_neg hx]
theorem mem_post {L : List ApiNode} (hI : inLs L) {i : Nat} {n : ApiNode} (hn : L[i]? = some n) (y : Int) : y ∈ post L (i : Int) ↔ (∃ k ∈ kidsP n, y ∈ post L k) ∨ y = (i : Int) := by
  rw [post_rec hI hn, List.mem_append, List.mem_flatMap, List.mem_singleton]
theorem walk6 (e : ApiExpr) (h : Sc e.l) {P : List Int} (hP : POk e.l P) : ∀ (f i : Nat) (r : List ScopeKnown) (z : List ScopeBinder), i < f → i < e.l.length → KnownAt e.l P r (i : Int) → r.length + i ≤ 1000 → z.length = e.l.length →
    ∃ z', m_scope_binders_1 e f (i : Int) r z = some z' ∧ Wr (fun j => toB (VP e.l P j)) (fun y => y ∈ post e.l (i : Int)) z z'
  | 0, i, r, z, hf, _, _, _, _ => by omega
  | f + 1, i, r, z, hf, hi, hr, hl, hz => by
    obtain ⟨n, hn⟩ := getI2 hi
    have hI := ok_inLs h.ok
    have hNn := h.nb n (List.mem_of_getElem? hn)
    have hkl := kids_len n hNn
    have hd := kids_nodup h hn
    have hnp := noParts_of (h.ok i n hn).1
    have hmp := mem_post hI hn
    obtain ⟨y0, hy0⟩ := getI2 (l := z) (i := i) (by omega)
    have hrec : ∀ k ∈ kidsP n, ∀ (r' : List ScopeKnown) (z' : List ScopeBinder), KnownAt e.l P r' k → r'.length ≤ r.length + 1 → z'.length = e.l.length → ∃ z'', m_scope_binders_1 e f k r' z' = some z'' ∧ Wr (fun j => toB (VP e.l P j)) (fun y => y ∈ post e.l k) z' z'' := by
      intro k hk r' z' hr' hl' hz'
      have hq := hI i n hn k hk
      obtain ⟨m, rfl⟩ : ∃ m : Nat, k = (m : Int) := ⟨k.toNat, by omega⟩
      exact walk6 e h hP f m r' z' (by omega) (by omega) hr' (by omega) hz'
    show ∃ z', m_scope_binders_1F (m_scope_binders_1 e f) (i : Int) r z e = some z' ∧ _
    unfold m_scope_binders_1F
    rw [getI hn, Option.bind_some, show m_scope_none = some ⟨-1, -1⟩ from rfl, Option.bind_some, getI hy0, Option.bind_some, Int.toNat_natCast]
    have hzl : (z.set i (⟨-1, -1⟩ : ScopeBinder)).length = e.l.length := by rw [List.length_set]; exact hz
    by_cases k4 : n.kind = 4
    · rw [decide_eq_true k4, cond_true, find_eq r n.name (by omega), Option.bind_some, getI (List.getElem?_set_self (by omega)), Option.bind_some, List.set_set]
      refine ⟨_, rfl, wr_imp (wr_set (y := findP r n.name) ?_) (fun y => ?_)⟩
      · rw [hr n.name]
        unfold VP
        rw [hn]
        simp only
        rw [if_pos k4]
      · rw [hmp, kids4 k4 hnp]; simp
    have hv : (⟨-1, -1⟩ : ScopeBinder) = toB (VP e.l P i) := by
      unfold VP
      rw [hn]
      simp only
      rw [if_neg k4]; rfl
    have hw0 : Wr (fun j => toB (VP e.l P j)) (fun x => x = (i : Int)) z (z.set i ⟨-1, -1⟩) := wr_set hv
    rw [decide_eq_false k4, cond_false]
    by_cases k5 : n.kind = 5
    · have hk := kids5 k5
      obtain ⟨z1, a1, a2⟩ := hrec n.a (by rw [hk]; simp) _ _ (known_with h hP hn (by rw [hk]; simp) hr n.name (-1) (by decide) (binds5 k5 n.a)) (by simp) hzl
      rw [decide_eq_true k5, cond_true, reachW_eq r _ _ _ (by omega), Option.bind_some, a1, Option.bind_some]
      refine ⟨z1, rfl, wr_imp (wr_trans hw0 a2) (fun y => ?_)⟩
      rw [hmp, hk]; simp [or_comm]
    rw [decide_eq_false k5, cond_false]
    by_cases k7 : n.kind = 7
    · have hk := kids7 k7
      have hne : n.a ≠ n.b := by
        rw [hk] at hd
        intro e; rw [e] at hd; simp at hd
      obtain ⟨z1, a1, a2⟩ := hrec n.a (by rw [hk]; simp) r _ (known_same h hP hn (by rw [hk]; simp) hr (fun x => by rw [binds7 k7, if_neg (fun q => hne q.2)])) (by omega) hzl
      obtain ⟨z2, b1, b2⟩ := hrec n.b (by rw [hk]; simp) _ z1 (known_with h hP hn (by rw [hk]; simp) hr n.name (-1) (by decide) (fun x => by
        rw [binds7 k7]
        by_cases hx : n.name = x
        · rw [if_pos ⟨hx, rfl⟩, if_pos hx]
        · rw [if_neg (fun q => hx q.1), if_neg hx])) (by simp) (by rw [a2.1]; exact hzl)
      rw [decide_eq_true k7, cond_true, a1, Option.bind_some, reachW_eq r _ _ _ (by omega), Option.bind_some, b1, Option.bind_some]
      refine ⟨z2, rfl, wr_imp (wr_trans (wr_trans hw0 a2) b2) (fun y => ?_)⟩
      rw [hmp, hk]
      simp only [List.mem_cons, List.not_mem_nil, or_false, exists_eq_or_imp, exists_eq_left]
      constructor
      · rintro ((h | h) | h)
        · exact .inr h
        · exact .inl (.inl h)
        · exact .inl (.inr h)
      · rintro ((h | h) | h)
        · exact .inl (.inr h)
        · exact .inr h
        · exact .inl (.inl h)
    rw [decide_eq_false k7, cond_false]
    by_cases k8 : n.kind = 8
    · have hk := kids8 k8
      obtain ⟨z1, a1, a2⟩ := hrec n.a (by rw [hk]; simp) _ _ (known_with h hP hn (by rw [hk]; simp) hr n.name (-1) (by decide) (binds8 k8 n.a)) (by simp) hzl
      obtain ⟨z2, b1, b2⟩ := hrec n.b (by rw [hk]; simp) _ z1 (known_with h hP hn (by rw [hk]; simp) hr n.name (-1) (by decide) (binds8 k8 n.b)) (by simp) (by rw [a2.1]; exact hzl)
      rw [decide_eq_true k8, cond_true, reachW_eq r _ _ _ (by omega), Option.bind_some, a1, Option.bind_some, b1, Option.bind_some]
      refine ⟨z2, rfl, wr_imp (wr_trans (wr_trans hw0 a2) b2) (fun y => ?_)⟩
      rw [hmp, hk]
      simp only [List.mem_cons, List.not_mem_nil, or_false, exists_eq_or_imp, exists_eq_left]
      constructor
      · rintro ((h | h) | h)
        · exact .inr h
        · exact .inl (.inl h)
        · exact .inl (.inr h)
      · rintro ((h | h) | h)
        · exact .inl (.inr h)
        · exact .inr h
        · exact .inl (.inl h)
    rw [decide_eq_false k8, cond_false]
    by_cases k14 : n.kind = 14
    · have hk := kids14 k14
      obtain ⟨z1, a1, a2⟩ := hrec n.a (by rw [hk]; simp) r _ (known_same h hP hn (by rw [hk]; simp) hr (binds14a k14 hd)) (by omega) hzl
      rw [decide_eq_true k14, cond_true, a1, Option.bind_some]
      have hll : n.l.length ≤ 60 := hNn
      obtain ⟨z2, b1, b2⟩ := wr_loop (v := fun j => toB (VP e.l P j)) (l := n.l) (at_ := fun f => f.at_) (post := fun k y => y ∈ post e.l k) (φ := fun m q z => m_scope_binders_1_l1 (m_scope_binders_1 e f) (i : Int) r n m (q, z)) e.l.length (by rw [FUv]; omega) (by
        intro m q fl z' hq hq2 hz'
        obtain ⟨z'', c1, c2⟩ := hrec fl.at_ (by rw [hk]; exact List.mem_cons_of_mem _ (List.mem_map.2 ⟨fl, List.mem_of_getElem? hq, rfl⟩)) _ z' (known_with h hP hn (by rw [hk]; exact List.mem_cons_of_mem _ (List.mem_map.2 ⟨fl, List.mem_of_getElem? hq, rfl⟩)) hr fl.var (q : Int) (by omega) (binds14l k14 hd hq)) (by simp) hz'
        refine ⟨z'', ?_, c2⟩
        simp only [m_scope_binders_1_l1]
        rw [decide_eq_true (show (q : Int) < n.l.length by omega), cond_true, getI hq, Option.bind_some, reachW_eq r _ _ _ (by omega), Option.bind_some, c1, Option.bind_some, grd_pos (by omega)]) (by
        intro m z'
        simp only [m_scope_binders_1_l1]
        rw [decide_eq_false (by omega), cond_false]) z1 (by rw [a2.1]; exact hzl)
      refine ⟨z2, b1, wr_imp (wr_trans (wr_trans hw0 a2) b2) (fun y => ?_)⟩
      rw [hmp, hk]
      simp only [List.mem_cons, List.mem_map, exists_eq_or_imp]
      constructor
      · rintro ((h | h) | ⟨x, h1, h2⟩)
        · exact .inr h
        · exact .inl (.inl h)
        · exact .inl (.inr ⟨x.at_, ⟨x, h1, rfl⟩, h2⟩)
      · rintro ((h | ⟨_, ⟨x, h1, rfl⟩, h2⟩) | h)
        · exact .inl (.inr h)
        · exact .inr ⟨x, h1, h2⟩
        · exact .inl (.inl h)
    · rw [decide_eq_false k14, cond_false, show m_tree_Kids (⟨n.kind, n.a, n.b, n.c, n.n_, n.name, n.s, n.l, n.pos⟩ : ApiNode) = some (kidsP n) from kids_eq n hNn, Option.bind_some]
      obtain ⟨z2, b1, b2⟩ := wr_loop (v := fun j => toB (VP e.l P j)) (l := kidsP n) (at_ := fun k => k) (post := fun k y => y ∈ post e.l k) (φ := fun m q z => m_scope_binders_1_l2 (m_scope_binders_1 e f) r (kidsP n) m (q, z)) e.l.length (by rw [FUv]; omega) (by
        intro m q k z' hq hq2 hz'
        obtain ⟨z'', c1, c2⟩ := hrec k (List.mem_of_getElem? hq) r z' (known_same h hP hn (List.mem_of_getElem? hq) hr (binds_no k5 k7 k8 k14 k)) (by omega) hz'
        refine ⟨z'', ?_, c2⟩
        simp only [m_scope_binders_1_l2]
        rw [decide_eq_true (show (q : Int) < (kidsP n).length by omega), cond_true, getI hq, Option.bind_some, c1, Option.bind_some, grd_pos (by omega)]) (by
        intro m z'
        simp only [m_scope_binders_1_l2]
        rw [decide_eq_false (by omega), cond_false]) _ hzl
      refine ⟨z2, b1, wr_imp (wr_trans hw0 b2) (fun y => ?_)⟩
      rw [hmp]
      exact or_comm
theorem post_all {L : List ApiNode} (h : Sc L) : ∀ (d j : Nat), j < L.length → L.length - j ≤ d → (j : Int) ∈ post L (((L.length - 1 : Nat)) : Int)
  | 0, j, hj, hd => by omega
  | d + 1, j, hj, hd => by
    have hI := ok_inLs h.ok
    by_cases hr : j = L.length - 1
    · obtain ⟨n, hn⟩ := getI2 hj
      subst hr
      rw [mem_post hI hn]; exact .inr rfl
    · obtain ⟨i, n, h1, h2⟩ := h.all j (by omega)
      have hi := getLt h1
      have hji := hI i n h1 _ h2
      have ih := post_all h d i hi (by omega)
      have key : ∀ (f r : Nat), r < f → r < L.length → (i : Int) ∈ post L (r : Int) → (j : Int) ∈ post L (r : Int) := by
        intro f
        induction f with
        | zero => intro r h; omega
        | succ f ih2 =>
          intro r hrf hrl hm
          obtain ⟨m, hm0⟩ := getI2 hrl
          rw [mem_post hI hm0] at hm ⊢
          rcases hm with ⟨k, hk, hm⟩ | hm
          · have hq := hI r m hm0 k hk
            obtain ⟨k2, rfl⟩ : ∃ k2 : Nat, k = (k2 : Int) := ⟨k.toNat, by omega⟩
            exact .inl ⟨_, hk, ih2 k2 (by omega) (by omega) hm⟩
          · have : i = r := by omega
            subst this
            rw [h1] at hm0
            obtain rfl := Option.some.inj hm0
            refine .inl ⟨_, h2, ?_⟩
            obtain ⟨mj, hmj⟩ := getI2 hj
            rw [mem_post hI hmj]; exact .inr rfl
      exact key L.length (L.length - 1) (by omega) (by omega) ih
theorem binders_eq (e : ApiExpr) (h : Sc e.l) {P : List Int} (hP : POk e.l P) : m_scope_binders e = some ((List.range e.l.length).map fun j => toB (VP e.l P j)) := by
  have hl := h.len
  have h0 := h.pos
  unfold m_scope_binders
  rw [grd_pos (by omega), grd_pos (by omega), grd_pos (by omega), Int.toNat_natCast, show ((e.l.length : Int) - 1) = ((e.l.length - 1 : Nat) : Int) by omega]
  obtain ⟨z, h1, h2, h3⟩ := walk6 e h hP FU (e.l.length - 1) [] (List.replicate e.l.length ⟨0, 0⟩) (by rw [FUv]; omega) (by omega) (fun x => by rw [UP_root h hP x]; rfl) (by simp; omega) (by simp)
  rw [h1, Option.bind_some]
  congr 1
  apply List.ext_getElem?
  intro j
  by_cases hj : j < e.l.length
  · rw [(h3 j).1 (post_all h (e.l.length - j) j hj (Nat.le_refl _)) (by simpa using hj)]
    simp [hj]
  · rw [List.getElem?_eq_none (by rw [h2]; simp; omega), List.getElem?_eq_none (by simp; omega)]
end Go.Proofs.Ytnnjgbcojdnhhaa
set_option linter.unusedVariables false
set_option linter.unusedSimpArgs false
set_option maxRecDepth 100000
namespace Go.Proofs.Ytnnjgbcojdnhhaa
open Go.V
open Classical
theorem sameInts_eq (a b : List Int) (h : a.length ≤ 3000) : m_syntagmabase_SameInts a b = some (decide (a = b)) := by
  unfold m_syntagmabase_SameInts
  simp only [Bool.cond_eq_ite, Bool.not_eq_true', decide_eq_false_iff_not]
  by_cases hl : a.length = b.length
  · rw [if_neg (by omega)]
    refine bnd (loop_all (φ := m_syntagmabase_SameInts_l1 a b) (l := a) false (fun i x => b[i]? = some x) ?_ ?_ (by rw [FUv]; omega)) ?_
    · intro n i x hx hi
      simp only [m_syntagmabase_SameInts_l1]
      have hy : b[i]? = some b[i] := List.getElem?_eq_getElem (by omega)
      rw [decide_eq_true (by omega), cond_true, getI hx, Option.bind_some, getI hy, Option.bind_some, hy]
      simp only [Bool.cond_eq_ite, Bool.not_eq_true', decide_eq_false_iff_not]
      constructor
      · intro h; rw [if_neg (by simpa using (Option.some.inj h).symm), grd_pos (by omega)]
      · intro h; rw [if_pos (by intro h2; exact h (by rw [h2]))]
    · intro n
      simp only [m_syntagmabase_SameInts_l1]
      rw [decide_eq_false (by omega), cond_false]
    · by_cases h3 : a = b
      · subst h3
        rw [if_pos (fun i x h => h), decide_eq_true rfl]; rfl
      · rw [if_neg, decide_eq_false h3]; rfl
        intro h4
        refine h3 (List.ext_getElem? fun i => ?_)
        by_cases hi : i < a.length
        · rw [h4 i a[i] (List.getElem?_eq_getElem hi), List.getElem?_eq_getElem hi]
        · rw [List.getElem?_eq_none (by omega), List.getElem?_eq_none (by omega)]
  · rw [if_pos (by omega), decide_eq_false (fun h => hl (by rw [h]))]
theorem bI (L : List ApiNode) (P : List Int) {i : Nat} (h : i < L.length) : ((List.range L.length).map fun j => toB (VP L P j))[i]? = some (toB (VP L P i)) := by simp [h]
theorem rI (L : List ApiNode) (P : List Int) {i : Nat} (h : i < L.length) : ((List.range L.length).map fun j => (⟨(VP L P j).1, (VP L P j).2⟩ : Syntagmaref06Binder))[i]? = some ⟨(VP L P i).1, (VP L P i).2⟩ := by simp [h]
def usesP (L : List ApiNode) (P : List Int) (a : Int) (n : Nat) : List Int := ((List.range n).filter fun j => decide ((VP L P j).1 = a)).map fun (j : Nat) => (j : Int)
theorem usesP_len (L : List ApiNode) (P : List Int) (a : Int) (n : Nat) : (usesP L P a n).length ≤ n := by
  unfold usesP
  rw [List.length_map]
  exact Nat.le_trans (List.length_filter_le _ _) (by simp)
theorem usesP_s (L : List ApiNode) (P : List Int) (a : Int) (n : Nat) : usesP L P a (n + 1) = if (VP L P n).1 = a then usesP L P a n ++ [(n : Int)] else usesP L P a n := by
  unfold usesP
  rw [List.range_succ, List.filter_append, List.map_append]
  by_cases h : (VP L P n).1 = a
  · rw [if_pos h]; simp [h]
  · rw [if_neg h]; simp [h]
theorem uses_l (L : List ApiNode) (P : List Int) (a : Int) (hl : L.length ≤ 700) : m_scope_Uses_l1 a ((List.range L.length).map fun j => toB (VP L P j)) FU (0, []) = some (usesP L P a L.length) := by
  obtain ⟨o, h1, h2⟩ := loop_rng (φ := fun n i s => m_scope_Uses_l1 a ((List.range L.length).map fun j => toB (VP L P j)) n (i, s)) (l := L) (fun i s => s = usesP L P a i) (fun o => o = usesP L P a L.length) (by
    rintro m i n s hn hi rfl
    have hu := usesP_len L P a i
    simp only [m_scope_Uses_l1]
    rw [decide_eq_true (show (i : Int) < (((List.range L.length).map fun j => toB (VP L P j)).length : Int) by simp; omega), cond_true, getI (bI L P hi), Option.bind_some, usesP_s]
    by_cases h : (VP L P i).1 = a
    · rw [decide_eq_true (show (toB (VP L P i)).node = a from h), cond_true, grd_pos (by simp only [List.length_cons, List.length_nil]; omega), grd_pos (by omega), if_pos h]
      exact .inl ⟨_, rfl, rfl⟩
    · rw [decide_eq_false (show ¬ (toB (VP L P i)).node = a from h), cond_false, grd_pos (by omega), if_neg h]
      exact .inl ⟨_, rfl, rfl⟩) (by
    rintro m s rfl
    simp only [m_scope_Uses_l1]
    rw [decide_eq_false (by simp), cond_false]
    exact ⟨_, rfl, rfl⟩) (by rw [FUv]; omega) [] rfl
  rw [h1, h2]
theorem ruses_eq (e : ApiExpr) (h : Sc e.l) {P : List Int} (hB : m_syntagmaref06_Binders e = some ((List.range e.l.length).map fun j => (⟨(VP e.l P j).1, (VP e.l P j).2⟩ : Syntagmaref06Binder))) (a : Int) : m_syntagmaref06_Uses e a = some (usesP e.l P a e.l.length) := by
  have hl := h.len
  unfold m_syntagmaref06_Uses
  rw [hB, Option.bind_some]
  obtain ⟨o, h1, h2⟩ := loop_rng (φ := fun n i s => m_syntagmaref06_Uses_l1 e a ((List.range e.l.length).map fun j => (⟨(VP e.l P j).1, (VP e.l P j).2⟩ : Syntagmaref06Binder)) n (i, s)) (l := e.l) (fun i s => s = usesP e.l P a i) (fun o => o = usesP e.l P a e.l.length) (by
    rintro m i n s hn hi rfl
    have hu := usesP_len e.l P a i
    simp only [m_syntagmaref06_Uses_l1]
    rw [decide_eq_true (show (i : Int) < (e.l.length : Int) by omega), cond_true, getI (rI e.l P hi), Option.bind_some, usesP_s]
    by_cases h : (VP e.l P i).1 = a
    · rw [decide_eq_true (show (⟨(VP e.l P i).1, (VP e.l P i).2⟩ : Syntagmaref06Binder).node = a from h), cond_true, grd_pos (by simp only [List.length_cons, List.length_nil]; omega), grd_pos (by omega), if_pos h]
      exact .inl ⟨_, rfl, rfl⟩
    · rw [decide_eq_false (show ¬ (⟨(VP e.l P i).1, (VP e.l P i).2⟩ : Syntagmaref06Binder).node = a from h), cond_false, grd_pos (by omega), if_neg h]
      exact .inl ⟨_, rfl, rfl⟩) (by
    rintro m s rfl
    simp only [m_syntagmaref06_Uses_l1]
    rw [decide_eq_false (by omega), cond_false]
    exact ⟨_, rfl, rfl⟩) (by rw [FUv]; omega) [] rfl
  rw [h1, h2, Option.bind_some]
theorem works06 : m_syntagmalaw06_works = some true := by decide +kernel
theorem sbL (L : List ApiNode) (P : List Int) (hl : L.length ≤ 700) : m_syntagmalaw06_ScopeBinders_l1 ((List.range L.length).map fun j => toB (VP L P j)) ((List.range L.length).map fun j => (⟨(VP L P j).1, (VP L P j).2⟩ : Syntagmaref06Binder)) FU 0 = some (.go ()) := by
  obtain ⟨o, h1, h2⟩ := loop_rng (φ := fun n i (_ : Unit) => m_syntagmalaw06_ScopeBinders_l1 ((List.range L.length).map fun j => toB (VP L P j)) ((List.range L.length).map fun j => (⟨(VP L P j).1, (VP L P j).2⟩ : Syntagmaref06Binder)) n i) (l := L) (fun i _ => True) (fun o => o = .go ()) (by
    rintro m i n s hn hi -
    simp only [m_syntagmalaw06_ScopeBinders_l1]
    rw [decide_eq_true (show (i : Int) < (((List.range L.length).map fun j => toB (VP L P j)).length : Int) by simp; omega), cond_true, getI (bI L P hi), Option.bind_some, getI (rI L P hi), Option.bind_some, decide_eq_true (show (toB (VP L P i)).node = (⟨(VP L P i).1, (VP L P i).2⟩ : Syntagmaref06Binder).node from rfl), Bool.not_true, cond_false, Option.bind_some, Option.bind_some, decide_eq_true (show (toB (VP L P i)).branch = (⟨(VP L P i).1, (VP L P i).2⟩ : Syntagmaref06Binder).branch from rfl), Bool.not_true, cond_false, grd_pos (by omega)]
    exact .inl ⟨(), rfl, trivial⟩) (by
    rintro m s -
    simp only [m_syntagmalaw06_ScopeBinders_l1]
    rw [decide_eq_false (by simp), cond_false]
    exact ⟨_, rfl, rfl⟩) (by rw [FUv]; omega) () trivial
  rw [h1, h2]
theorem few2 (e : ApiExpr) : m_syntagmalaw05_Few (⟨(fewE e).l⟩ : ApiExpr) = some (fewE e) := by
  rw [show (⟨(fewE e).l⟩ : ApiExpr) = fewE e from rfl, few_eq, fewE_fewE]
theorem sBinders_eq (x : ApiExpr) (hl : x.l.length ≤ 700) (hN : ∀ n ∈ x.l, NB n) (h : mayT x.l = 0) {P : List Int} (hP : POk x.l P) : m_scope_Binders x = some ((List.range x.l.length).map (fun j => toB (VP x.l P j)), 0) := by
  have hS := sc_of hl hN h
  unfold m_scope_Binders
  rw [may_eq x (by omega) hN, Option.bind_some, decide_eq_true h, Bool.not_true, cond_false, binders_eq x hS hP, Option.bind_some]
theorem sBinders_no (x : ApiExpr) (hl : x.l.length ≤ 700) (hN : ∀ n ∈ x.l, NB n) (h : ¬ mayT x.l = 0) : m_scope_Binders x = some ([], mayT x.l) := by
  unfold m_scope_Binders
  rw [may_eq x (by omega) hN, Option.bind_some, decide_eq_false h, Bool.not_false, cond_true]
theorem sUses_eq (x : ApiExpr) (hl : x.l.length ≤ 700) (hN : ∀ n ∈ x.l, NB n) (h : mayT x.l = 0) {P : List Int} (hP : POk x.l P) (i : Int) : m_scope_Uses x i = some (if i < 0 ∨ (x.l.length : Int) ≤ i then ([], 3) else (usesP x.l P i x.l.length, 0)) := by
  have hS := sc_of hl hN h
  unfold m_scope_Uses
  rw [may_eq x (by omega) hN, Option.bind_some, decide_eq_true h, Bool.not_true, cond_false, binders_eq x hS hP]
  by_cases hi : i < 0 ∨ (x.l.length : Int) ≤ i
  · rw [if_pos hi, show (decide (i < 0) || decide ((x.l.length : Int) ≤ i)) = true by rw [Bool.or_eq_true, decide_eq_true_eq, decide_eq_true_eq]; exact hi, cond_true]
  · rw [if_neg hi, show (decide (i < 0) || decide ((x.l.length : Int) ≤ i)) = false by rw [Bool.or_eq_false_iff, decide_eq_false_iff_not, decide_eq_false_iff_not]; omega, cond_false, Option.bind_some, uses_l x.l P i hl, Option.bind_some]
theorem sUses_no (x : ApiExpr) (hl : x.l.length ≤ 700) (hN : ∀ n ∈ x.l, NB n) (h : ¬ mayT x.l = 0) (i : Int) : m_scope_Uses x i = some ([], mayT x.l) := by
  unfold m_scope_Uses
  rw [may_eq x (by omega) hN, Option.bind_some, decide_eq_false h, Bool.not_false, cond_true]
theorem law_ScopeBinders (e : ApiExpr) (i : Int) : m_syntagmalaw06_ScopeBinders e i = some true := by
  unfold m_syntagmalaw06_ScopeBinders
  have hl := fewE_len e
  have hN := fewE_nb e
  have hf := few2 e
  rw [show m_syntagmalaw05_Few (⟨e.l⟩ : ApiExpr) = some (fewE e) from few_eq e, Option.bind_some, hf, Option.bind_some, works06]
  generalize fewE e = x at *
  rw [show m_syntagmaref05_May (⟨x.l⟩ : ApiExpr) = some (mayT x.l) from rmay_eq x (by omega) hN]
  by_cases h : mayT x.l = 0
  · have hS := sc_of hl hN h
    obtain ⟨P, hP, hB⟩ := rbinders_eq x hS
    have hsb := sbL x.l P hl
    rw [sBinders_eq x hl hN h hP, Option.bind_some]
    dsimp only
    rw [Option.bind_some, sUses_eq x hl hN h hP, Option.bind_some, show m_syntagmaref06_Binders (⟨x.l⟩ : ApiExpr) = _ from hB, show m_syntagmaref06_Uses (⟨x.l⟩ : ApiExpr) i = _ from ruses_eq x hS hB i]
    by_cases hi : i < 0 ∨ (x.l.length : Int) ≤ i
    · rw [if_pos hi]
      dsimp only
      rw [Option.bind_some, decide_eq_true h, Bool.not_true, cond_false, Option.bind_some, decide_eq_true rfl, decide_eq_true (by simp), Bool.not_true, Bool.or_self, cond_false, hsb, Option.bind_some, go_on, show (decide (i < 0) || decide ((x.l.length : Int) ≤ i)) = true by rw [Bool.or_eq_true, decide_eq_true_eq, decide_eq_true_eq]; exact hi, cond_true]
      rfl
    · rw [if_neg hi]
      dsimp only
      rw [Option.bind_some, decide_eq_true h, Bool.not_true, cond_false, Option.bind_some, decide_eq_true rfl, decide_eq_true (by simp), Bool.not_true, Bool.or_self, cond_false, hsb, Option.bind_some, go_on, show (decide (i < 0) || decide ((x.l.length : Int) ≤ i)) = false by rw [Bool.or_eq_false_iff, decide_eq_false_iff_not, decide_eq_false_iff_not]; omega, cond_false, cond_true, Option.bind_some, sameInts_eq _ _ (by have := usesP_len x.l P i x.l.length; omega), Option.bind_some, decide_eq_true rfl]
      rfl
  · rw [sBinders_no x hl hN h, Option.bind_some]
    dsimp only
    rw [Option.bind_some, sUses_no x hl hN h, Option.bind_some]
    dsimp only
    rw [Option.bind_some, decide_eq_false h, Bool.not_false, cond_true, decide_eq_true rfl, Bool.and_self, cond_true]
    rfl
end Go.Proofs.Ytnnjgbcojdnhhaa
