/- Part 6 of the proof: a program logic, what the functions compute, and what these answer; no condition. -/
import Derived.Test.YtafphfokopkhdaaGreatp5
import Derived.Shelf.Sort.Plain
import Derived.Ground.Names2Prog
import Derived.Shelf.Slices.CompactI
import Derived.Shelf.Slices.In.SortNone
import Derived.Test.YtafphfokopkhdaaGreatProg
set_option linter.unusedVariables false
set_option linter.unusedSimpArgs false
set_option maxRecDepth 100000
set_option maxHeartbeats 2000000
namespace Go.Proofs.YtafphfokopkhdaaGreat
open Go.V
theorem w_syntagmaref24_Norm {a1 : AutoAuto} {r_1 : AutoAuto} (hm : m_syntagmaref24_Norm a1 = some r_1) : Fn0 Tryz.prog 13 [AutoAuto.d a1] (AutoAuto.d r_1) := by
  unfold m_syntagmaref24_Norm at hm
  refine fn_intro Tryz.func13 rfl Tryz.ntmps13 rfl fun H0 fr w0 => ?_
  refine g_seq ?_
  refine g_region ?_
  refine go_p rfl rfl rfl (o_box rfl rfl) ?_
  refine go_op rfl rfl rfl (o_alloc_own Tryz.zeroValue24 (cs := [.list 13 AutoState.d [], .i64 0]) rfl) ?_
  rintro _ _ ⟨b1, rfl, rfl⟩
  refine go_nil ?_
  refine g_seq ?_
  refine g_region ?_
  refine go_p rfl rfl rfl (o_fieldAddr fi_24_1 rfl rfl rfl) ?_
  refine go_p rfl rfl rfl (o_load Tryz.isAgg3 rfl rfl) ?_
  refine go_op rfl rfl rfl (o_buildSlice_row (xs := [_]) (f := D.i64) (l := [_]) Tryz.runUnderlying49 Tryz.sizeOf3 Tryz.zeroValue3 rfl rfl rfl (fun _ => ⟨rfl, rfl, rfl⟩) rfl (by simp [maxLen])) ?_
  rintro _ _ ⟨a_r1, rfl, rfl⟩
  refine go_p rfl rfl rfl (o_assign rfl) ?_
  refine go_nil ?_
  refine g_seq ?_
  refine g_seq ?_
  refine g_region ?_
  refine go_p rfl rfl rfl (o_assign rfl) ?_
  refine go_nil ?_
  obtain ⟨o_1, hj1, hm1⟩ := bind_some hm
  refine g_cut_m [(1, _), (2, _)] [(1, _)] (fun (st : (List Int)) (hid : (Option Addr × Nat)) => match st, hid with | l1, (a_r1, cap_r1) => [(3, .v (.slice a_r1 l1.length cap_r1))]) (fun F (st : (List Int)) (hid : (Option Addr × Nat)) => match st, hid with | l1, (a_r1, cap_r1) => [row a_r1 cap_r1 3 1 D.i64 l1, (nthF F 0)]) (fun st => st = o_1) ⟨rfl, rfl, trivial⟩ ⟨rfl, trivial⟩ ?_ ?_
  · skip
    refine g_block ?_
    refine g_loop_m [(1, _), (2, _)] [(1, _)] (fun (st : (Int × (List Int))) (hid : (Option Addr × Nat)) => match st, hid with | (i1, l2), (a_r1, cap_r1) => [(3, .v (.slice a_r1 l2.length cap_r1)), (4, .i64 i1)]) (fun F (st : (Int × (List Int))) (hid : (Option Addr × Nat)) => match st, hid with | (i1, l2), (a_r1, cap_r1) => [row a_r1 cap_r1 3 1 D.i64 l2, (nthF F 0)]) (_, _) hj1 (fun _ => rfl) ⟨rfl, rfl, trivial⟩ ⟨rfl, trivial⟩ ⟨rfl, rfl, trivial⟩ rfl ?_
    rintro n ⟨i1, l2⟩ ⟨a_r1, cap_r1⟩ hj1
    rw [m_syntagmaref24_Norm_l1] at hj1
    refine g_norm (L' := [(3, .v (.slice a_r1 l2.length cap_r1)), (4, .i64 i1), (1, _), (2, _)]) (ms' := [row a_r1 cap_r1 3 1 D.i64 l2, _]) rfl rfl ?_
    refine g_seq ?_
    refine g_seq ?_
    refine g_region ?_
    refine go_p rfl rfl rfl (o_move rfl) ?_
    refine go_p rfl rfl rfl (o_move rfl) ?_
    refine go_p rfl rfl rfl (.view (peekE (i := 15) 0 rfl rfl rfl) (o_len Tryz.runUnderlying49 rfl)) ?_
    refine go_p rfl rfl rfl (o_cmp rfl rfl rfl) ?_
    refine go_nil ?_
    refine g_cond rfl (fun hc1 => ?_) (fun hc1 => ?_)
    · replace hj1 := cond_t hc1 hj1
      refine g_skip ?_
      refine g_seq ?_
      refine g_block ?_
      refine g_seq ?_
      obtain ⟨x1, hx1, hj1⟩ := bind_some hj1
      obtain ⟨x2, hx2, hj1⟩ := bind_some hj1
      obtain ⟨x3, hx3, hj1⟩ := bind_some hj1
      refine g_draw 10 Tryz_mixed (by decide +kernel) ?_
      refine gd_p rfl rfl rfl (o_fieldAddr fi_24_0 rfl rfl rfl) ?_
      refine gd_p rfl rfl rfl (o_load Tryz.isAgg22 rfl rfl) ?_
      refine gd_p rfl rfl rfl (o_move rfl) ?_
      refine gd_p rfl rfl rfl (o_move rfl) ?_
      refine gd_p rfl rfl rfl (.view (peekE (i := 22) 0 rfl rfl rfl) (o_indexAddr_m Tryz.runUnderlying49 Tryz.sizeOf3 rfl rfl hx1)) ?_
      refine gd_p rfl rfl rfl (o_load Tryz.isAgg3 rfl rfl) ?_
      refine gd_p rfl rfl rfl (o_indexAddr_m Tryz.runUnderlying22 Tryz.sizeOf52 rfl rfl hx2) ?_
      refine gd_p rfl rfl rfl (o_load_agg Tryz.isAgg52 Tryz.sizeOf52 rfl rfl) ?_
      refine gd_p rfl rfl rfl (o_call0 Tryz.call36 rfl (w_syntagmaref24_Next hx3)) ?_
      refine gd_p rfl rfl rfl (o_assign rfl) ?_
      refine gd_nil ?_
      refine go_nil ?_
      refine g_seq ?_
      refine g_region ?_
      refine go_p rfl rfl rfl (o_assign rfl) ?_
      refine go_nil ?_
      obtain ⟨o_2, hj2, hm2⟩ := bind_some hj1
      refine g_cut_m [(1, _), (2, _), (4, _)] [(1, _)] (fun (st : (List Int)) (hid : (Option Addr × Nat)) => match st, hid with | l3, (a_r1, cap_r1) => [(3, .v (.slice a_r1 l3.length cap_r1))]) (fun F (st : (List Int)) (hid : (Option Addr × Nat)) => match st, hid with | l3, (a_r1, cap_r1) => [row a_r1 cap_r1 3 1 D.i64 l3, (nthF F 0)]) (fun st => st = o_2) ⟨rfl, rfl, rfl, trivial⟩ ⟨rfl, trivial⟩ ?_ ?_
      · skip
        refine g_block ?_
        refine g_loop_m [(1, _), (2, _), (4, _), (5, _)] [(1, _)] (fun (st : (Int × (List Int))) (hid : (Option Addr × Nat)) => match st, hid with | (k1, l4), (a_r1, cap_r1) => [(3, .v (.slice a_r1 l4.length cap_r1)), (6, .i64 k1)]) (fun F (st : (Int × (List Int))) (hid : (Option Addr × Nat)) => match st, hid with | (k1, l4), (a_r1, cap_r1) => [row a_r1 cap_r1 3 1 D.i64 l4, (nthF F 0)]) (_, _) hj2 (fun _ => rfl) ⟨rfl, rfl, rfl, rfl, trivial⟩ ⟨rfl, trivial⟩ ⟨rfl, rfl, trivial⟩ rfl ?_
        rintro n ⟨k1, l4⟩ ⟨a_r1, cap_r1⟩ hj2
        rw [m_syntagmaref24_Norm_l2] at hj2
        refine g_norm (L' := [(3, .v (.slice a_r1 l4.length cap_r1)), (6, .i64 k1), (1, _), (2, _), (4, _), (5, _)]) (ms' := [row a_r1 cap_r1 3 1 D.i64 l4, _]) rfl rfl ?_
        refine g_seq ?_
        refine g_seq ?_
        refine g_region ?_
        refine go_p rfl rfl rfl (o_move rfl) ?_
        refine go_p rfl rfl rfl (o_move rfl) ?_
        refine go_p rfl rfl rfl (o_len Tryz.runUnderlying49 rfl) ?_
        refine go_p rfl rfl rfl (o_cmp rfl rfl rfl) ?_
        refine go_nil ?_
        refine g_cond rfl (fun hc2 => ?_) (fun hc2 => ?_)
        · replace hj2 := cond_t hc2 hj2
          refine g_skip ?_
          refine g_seq ?_
          refine g_block ?_
          refine g_seq ?_
          refine g_region ?_
          refine go_p rfl rfl rfl (o_move rfl) ?_
          refine go_p rfl rfl rfl (o_move rfl) ?_
          refine go_p rfl rfl rfl (o_move rfl) ?_
          obtain ⟨x4, hx4, hj2⟩ := bind_some hj2
          refine go_p rfl rfl rfl (o_indexAddr_m Tryz.runUnderlying49 Tryz.sizeOf3 rfl rfl hx4) ?_
          refine go_p rfl rfl rfl (o_load Tryz.isAgg3 rfl rfl) ?_
          obtain ⟨x5, hx5, hj2⟩ := bind_some hj2
          refine go_p rfl rfl rfl (.view (peekE (i := 35) 0 rfl rfl rfl) (o_call0 Tryz.call35 rfl (w_syntagmabase_HasInt hx5))) ?_
          refine go_p rfl rfl rfl (o_not rfl) ?_
          refine go_nil ?_
          refine g_cond rfl (fun hc3 => ?_) (fun hc3 => ?_)
          · replace hj2 := cond_t hc3 hj2
            refine g_region ?_
            refine go_p rfl rfl rfl (o_move rfl) ?_
            refine go_p rfl rfl rfl (o_move rfl) ?_
            refine go_p rfl rfl rfl (o_move rfl) ?_
            obtain ⟨x6, hx6, hj2⟩ := bind_some hj2
            refine go_p rfl rfl rfl (o_indexAddr_m Tryz.runUnderlying49 Tryz.sizeOf3 rfl rfl hx6) ?_
            refine go_p rfl rfl rfl (o_load Tryz.isAgg3 rfl rfl) ?_
            refine go_p rfl rfl rfl (o_buildSlice (xs := [_]) (f := D.i64) (l := [_]) Tryz.runUnderlying49 Tryz.sizeOf3 Tryz.zeroValue3 rfl rfl rfl (fun _ => ⟨rfl, rfl, rfl⟩) rfl) ?_
            obtain ⟨hg7, hj2⟩ := grd_some hj2
            refine go_op rfl rfl rfl (o_append (a := _) 0 Tryz.underlying49 Tryz.type3 rfl rfl rfl rfl rfl rfl rfl (fun _ => rfl) (fun _ => rfl) hg7 (app_len hg7 rfl)) ?_
            rintro _ _ ⟨a_r1, cap_r1, rfl, rfl⟩
            refine go_ms (ms' := [_, box b1 24 [_, _]]) rfl ?_
            refine go_p rfl rfl rfl (o_assign rfl) ?_
            refine go_nil ?_
            refine g_region ?_
            refine go_p rfl rfl rfl (o_move rfl) ?_
            obtain ⟨hg8, hj2⟩ := grd_some hj2
            refine go_p rfl rfl rfl (o_add rfl rfl (i64_id hg8)) ?_
            refine go_p rfl rfl rfl (o_assign rfl) ?_
            refine go_nil ?_
            exact ⟨_, (_, _), hj2, ⟨rfl, rfl, trivial⟩, ⟨rfl, rfl, rfl, rfl, trivial⟩, [], rfl⟩
          · replace hj2 := cond_f hc3 hj2
            refine g_skip ?_
            refine g_region ?_
            refine go_p rfl rfl rfl (o_move rfl) ?_
            obtain ⟨hg9, hj2⟩ := grd_some hj2
            refine go_p rfl rfl rfl (o_add rfl rfl (i64_id hg9)) ?_
            refine go_p rfl rfl rfl (o_assign rfl) ?_
            refine go_nil ?_
            exact ⟨_, (_, _), hj2, ⟨rfl, rfl, trivial⟩, ⟨rfl, rfl, rfl, rfl, trivial⟩, [], rfl⟩
        · replace hj2 := cond_f hc2 hj2
          refine g_exit ?_
          exact ⟨_, (_, _), some_eq hj2, ⟨rfl, trivial⟩, ⟨rfl, rfl, rfl, trivial⟩, [], rfl⟩
      · rintro l3 ⟨a_r1, cap_r1⟩ hst
        subst hst
        refine k_norm (L' := [(3, .v (.slice a_r1 l3.length cap_r1)), (1, _), (2, _), (4, _)]) (ms' := [row a_r1 cap_r1 3 1 D.i64 l3, _]) rfl rfl ?_
        refine g_region ?_
        refine go_p rfl rfl rfl (o_move rfl) ?_
        obtain ⟨hg10, hm2⟩ := grd_some hm2
        refine go_p rfl rfl rfl (o_add rfl rfl (i64_id hg10)) ?_
        refine go_p rfl rfl rfl (o_assign rfl) ?_
        refine go_nil ?_
        exact ⟨_, (_, _), hm2, ⟨rfl, rfl, trivial⟩, ⟨rfl, rfl, trivial⟩, [], rfl⟩
    · replace hj1 := cond_f hc1 hj1
      refine g_exit ?_
      exact ⟨_, (_, _), some_eq hj1, ⟨rfl, trivial⟩, ⟨rfl, rfl, trivial⟩, [], rfl⟩
  · rintro l1 ⟨a_r1, cap_r1⟩ hst
    subst hst
    refine k_norm (L' := [(3, .v (.slice a_r1 l1.length cap_r1)), (1, _), (2, _)]) (ms' := [row a_r1 cap_r1 3 1 D.i64 l1, _]) rfl rfl ?_
    refine g_seq ?_
    refine g_region ?_
    refine go_p rfl rfl rfl (o_fieldAddr fi_24_0 rfl rfl rfl) ?_
    refine go_p rfl rfl rfl (o_load Tryz.isAgg22 rfl rfl) ?_
    refine go_p rfl rfl rfl (o_len Tryz.runUnderlying22 rfl) ?_
    obtain ⟨hg11, hm1⟩ := grd_some hm1
    obtain ⟨hg12, hm1⟩ := grd_some hm1
    refine go_op rfl rfl rfl (o_makeSlice (f := D.i64) (z0 := 0) Tryz.underlying49 Tryz.type3 rfl rfl rfl (Nat.le_of_ble_eq_true rfl) rfl rfl hg11 hg12 (Nat.le_of_ble_eq_true rfl)) ?_
    rintro _ _ ⟨a_r2, m_r2, cap_r2, rfl, rfl⟩
    refine go_p rfl rfl rfl (o_assign rfl) ?_
    refine go_nil ?_
    refine g_seq ?_
    refine g_seq ?_
    refine g_region ?_
    refine go_p rfl rfl rfl (o_assign rfl) ?_
    refine go_nil ?_
    obtain ⟨o_3, hj3, hm3⟩ := bind_some hm1
    refine g_cut_m [(1, _), (2, _), (3, _), (7, _)] [(1, _), (2, _)] (fun (st : (List Int)) (hid : Unit) => match st, hid with | l5, _ => []) (fun F (st : (List Int)) (hid : Unit) => match st, hid with | l5, _ => [arr a_r2 m_r2 cap_r2 3 1 D.i64 l5, (nthF F 0), (nthF F 1)]) (fun st => st = o_3) ⟨rfl, rfl, rfl, rfl, trivial⟩ ⟨rfl, rfl, trivial⟩ ?_ ?_
    · skip
      refine g_block ?_
      refine g_loop_m [(1, _), (2, _), (3, _), (7, _)] [(1, _), (2, _)] (fun (st : (Int × (List Int))) (hid : Unit) => match st, hid with | (i2, l6), _ => [(8, .i64 i2)]) (fun F (st : (Int × (List Int))) (hid : Unit) => match st, hid with | (i2, l6), _ => [arr a_r2 m_r2 cap_r2 3 1 D.i64 l6, (nthF F 0), (nthF F 1)]) () hj3 (fun _ => rfl) ⟨rfl, rfl, rfl, rfl, trivial⟩ ⟨rfl, rfl, trivial⟩ ⟨rfl, trivial⟩ rfl ?_
      rintro n ⟨i2, l6⟩ ⟨⟩ hj3
      rw [m_syntagmaref24_Norm_l3] at hj3
      refine g_norm (L' := [(8, .i64 i2), (1, _), (2, _), (3, _), (7, _)]) (ms' := [arr a_r2 m_r2 cap_r2 3 1 D.i64 l6, _, _]) rfl rfl ?_
      refine g_seq ?_
      refine g_seq ?_
      refine g_region ?_
      refine go_p rfl rfl rfl (o_move rfl) ?_
      refine go_p rfl rfl rfl (o_move rfl) ?_
      refine go_p rfl rfl rfl (.view (peekE (i := 54) 1 rfl rfl rfl) (o_len Tryz.runUnderlying49 rfl)) ?_
      refine go_p rfl rfl rfl (o_cmp rfl rfl rfl) ?_
      refine go_nil ?_
      refine g_cond rfl (fun hc4 => ?_) (fun hc4 => ?_)
      · replace hj3 := cond_t hc4 hj3
        refine g_skip ?_
        refine g_seq ?_
        refine g_block ?_
        refine g_region ?_
        refine go_p rfl rfl rfl (o_move rfl) ?_
        refine go_p rfl rfl rfl (o_move rfl) ?_
        refine go_p rfl rfl rfl (o_move rfl) ?_
        obtain ⟨x7, hx13, hj3⟩ := bind_some hj3
        refine go_p rfl rfl rfl (.view (peekE (i := 60) 1 rfl rfl rfl) (o_indexAddr_m Tryz.runUnderlying49 Tryz.sizeOf3 rfl rfl hx13)) ?_
        refine go_p rfl rfl rfl (o_load Tryz.isAgg3 rfl rfl) ?_
        refine go_p rfl rfl rfl (o_move rfl) ?_
        obtain ⟨x8, hx14, hj3⟩ := bind_some hj3
        refine go_p rfl rfl rfl (o_indexAddr_arr 0 Tryz.runUnderlying49 Tryz.sizeOf3 rfl rfl rfl hx14) ?_
        refine go_u rfl rfl (o_store_arr (off := 0) (z' := i2) 0 Tryz.sizeOf3 rfl rfl (idx_some hx14).2 rfl rfl rfl rfl rfl rfl (Nat.le_of_ble_eq_true rfl) rfl rfl) ?_
        rintro _ _ rfl
        refine go_ms (ms' := [_, _, box b1 24 [_, _]]) rfl ?_
        refine go_nil ?_
        refine g_region ?_
        refine go_p rfl rfl rfl (o_move rfl) ?_
        obtain ⟨hg15, hj3⟩ := grd_some hj3
        refine go_p rfl rfl rfl (o_add rfl rfl (i64_id hg15)) ?_
        refine go_p rfl rfl rfl (o_assign rfl) ?_
        refine go_nil ?_
        exact ⟨_, (), hj3, ⟨rfl, trivial⟩, ⟨rfl, rfl, rfl, rfl, trivial⟩, [], rfl⟩
      · replace hj3 := cond_f hc4 hj3
        refine g_exit ?_
        exact ⟨_, (), some_eq hj3, trivial, ⟨rfl, rfl, rfl, rfl, trivial⟩, [], rfl⟩
    · rintro l5 ⟨⟩ hst
      subst hst
      refine k_norm (L' := [(1, _), (2, _), (3, _), (7, _)]) (ms' := [arr a_r2 m_r2 cap_r2 3 1 D.i64 l5, _, _]) rfl rfl ?_
      refine g_seq ?_
      refine g_region ?_
      refine go_p rfl rfl rfl (o_build (zs := [.v (.slice none 0 0), .v (.int .i64 0)]) Tryz.runUnderlying24 Tryz.zeroValue24 (pl_24 _ Tryz.runUnderlying24) rfl rfl rfl rfl) ?_
      refine go_op rfl rfl rfl (o_alloc_own Tryz.zeroValue24 (cs := [.list 13 AutoState.d [], .i64 0]) rfl) ?_
      rintro _ _ ⟨b3, rfl, rfl⟩
      refine go_u rfl rfl (o_store_box 0 Tryz.sizeOf24 rfl rfl rfl rfl rfl rfl rfl rfl (Nat.le_of_ble_eq_true rfl)) ?_
      rintro _ _ rfl
      refine go_conv (refines_newrow (T := 52) (sz := 13) (f := AutoState.d)) ?_
      refine go_ms (ms' := [_, box b3 24 [_, _], _, _, box b1 24 [_, _]]) rfl ?_
      refine go_nil ?_
      refine g_seq ?_
      refine g_seq ?_
      refine g_region ?_
      refine go_p rfl rfl rfl (o_assign rfl) ?_
      refine go_nil ?_
      refine g_thaw 2 rfl rfl ?_
      rintro rfl
      obtain ⟨o_4, hj4, hm4⟩ := bind_some hm3
      refine g_cut_m [(2, _), (9, _)] [(2, _), (3, _), (4, _)] (fun (st : ((List AutoState) × Int)) (hid : (Option Addr × Nat)) => match st, hid with | (l7, z1), (a_r3, cap_r3) => []) (fun F (st : ((List AutoState) × Int)) (hid : (Option Addr × Nat)) => match st, hid with | (l7, z1), (a_r3, cap_r3) => [row a_r3 cap_r3 52 13 AutoState.d l7, box b3 24 [.v (.slice a_r3 l7.length cap_r3), .i64 z1], (nthF F 0), (nthF F 1), (nthF F 2)]) (fun st => st = o_4) ⟨rfl, rfl, trivial⟩ ⟨rfl, rfl, rfl, trivial⟩ ?_ ?_
      · skip
        refine g_block ?_
        refine g_loop_m [(1, _), (2, _), (3, _), (7, _), (9, _)] [(2, _), (3, _), (4, _)] (fun (st : (Int × (List AutoState) × Int)) (hid : (Option Addr × Nat)) => match st, hid with | (i3, l8, z2), (a_r3, cap_r3) => [(10, .i64 i3)]) (fun F (st : (Int × (List AutoState) × Int)) (hid : (Option Addr × Nat)) => match st, hid with | (i3, l8, z2), (a_r3, cap_r3) => [row a_r3 cap_r3 52 13 AutoState.d l8, box b3 24 [.v (.slice a_r3 l8.length cap_r3), .i64 z2], (nthF F 0), (nthF F 1), (nthF F 2)]) (_, _) hj4 (fun _ => rfl) ⟨rfl, rfl, rfl, rfl, rfl, trivial⟩ ⟨rfl, rfl, rfl, trivial⟩ ⟨rfl, trivial⟩ rfl ?_
        rintro n ⟨i3, l8, z2⟩ ⟨a_r3, cap_r3⟩ hj4
        rw [m_syntagmaref24_Norm_l4] at hj4
        refine g_norm (L' := [(10, .i64 i3), (1, _), (2, _), (3, _), (7, _), (9, _)]) (ms' := [row a_r3 cap_r3 52 13 AutoState.d l8, box b3 24 [.v (.slice a_r3 l8.length cap_r3), .i64 z2], _, _, _]) rfl rfl ?_
        refine g_seq ?_
        refine g_seq ?_
        refine g_region ?_
        refine go_p rfl rfl rfl (o_move rfl) ?_
        refine go_p rfl rfl rfl (o_move rfl) ?_
        refine go_p rfl rfl rfl (.view (peekE (i := 68) 3 rfl rfl rfl) (o_len Tryz.runUnderlying49 rfl)) ?_
        refine go_p rfl rfl rfl (o_cmp rfl rfl rfl) ?_
        refine go_nil ?_
        refine g_cond rfl (fun hc5 => ?_) (fun hc5 => ?_)
        · replace hj4 := cond_t hc5 hj4
          refine g_skip ?_
          refine g_seq ?_
          refine g_block ?_
          obtain ⟨x9, hx16, hj4⟩ := bind_some hj4
          obtain ⟨x10, hx17, hj4⟩ := bind_some hj4
          obtain ⟨x11, hx18, hj4⟩ := bind_some hj4
          refine g_draw 13 Tryz_mixed (by decide +kernel) ?_
          refine gd_p rfl rfl rfl (o_fieldAddr_box fi_24_0 rfl) ?_
          refine gd_p rfl rfl rfl (o_load_box 1 Tryz.isAgg22 rfl rfl rfl rfl) ?_
          refine gd_p rfl rfl rfl (o_fieldAddr fi_24_0 rfl rfl rfl) ?_
          refine gd_p rfl rfl rfl (o_load Tryz.isAgg22 rfl rfl) ?_
          refine gd_p rfl rfl rfl (o_move rfl) ?_
          refine gd_p rfl rfl rfl (o_move rfl) ?_
          refine gd_p rfl rfl rfl (.view (peekE (i := 77) 3 rfl rfl rfl) (o_indexAddr_m Tryz.runUnderlying49 Tryz.sizeOf3 rfl rfl hx16)) ?_
          refine gd_p rfl rfl rfl (o_load Tryz.isAgg3 rfl rfl) ?_
          refine gd_p rfl rfl rfl (o_indexAddr_m Tryz.runUnderlying22 Tryz.sizeOf52 rfl rfl hx17) ?_
          refine gd_p rfl rfl rfl (o_load_agg Tryz.isAgg52 Tryz.sizeOf52 rfl rfl) ?_
          refine gd_p rfl rfl rfl (o_move rfl) ?_
          refine gd_p rfl rfl rfl (.view (peekE (i := 83) 2 rfl rfl rfl) (o_call0 Tryz.call37 rfl (w_syntagmaref24_Moved hx18))) ?_
          refine gd_p rfl rfl rfl (o_buildSlice (xs := [_]) (f := AutoState.d) (l := [_]) Tryz.runUnderlying22 Tryz.sizeOf52 Tryz.zeroValue52 rfl rfl rfl (fun _ => ⟨rfl, rfl, rfl⟩) rfl) ?_
          refine gd_nil ?_
          obtain ⟨hg19, hj4⟩ := grd_some hj4
          refine go_op rfl rfl rfl (o_append (a := _) 0 Tryz.underlying22 Tryz.type52 rfl rfl rfl rfl rfl rfl rfl (fun _ => rfl) (fun _ => rfl) hg19 (app_len hg19 rfl)) ?_
          rintro _ _ ⟨a_r3, cap_r3, rfl, rfl⟩
          refine go_ms (ms' := [_, box b3 24 [_, _], _, _, box b1 24 [_, _]]) rfl ?_
          refine go_p rfl rfl rfl (o_fieldAddr_box fi_24_0 rfl) ?_
          refine go_u rfl rfl (o_store_box 1 Tryz.sizeOf22 rfl rfl rfl rfl rfl rfl rfl rfl (Nat.le_of_ble_eq_true rfl)) ?_
          rintro _ _ rfl
          refine go_ms (ms' := [_, box b3 24 [_, _], _, _, box b1 24 [_, _]]) rfl ?_
          refine go_nil ?_
          refine g_region ?_
          refine go_p rfl rfl rfl (o_move rfl) ?_
          obtain ⟨hg20, hj4⟩ := grd_some hj4
          refine go_p rfl rfl rfl (o_add rfl rfl (i64_id hg20)) ?_
          refine go_p rfl rfl rfl (o_assign rfl) ?_
          refine go_nil ?_
          exact ⟨_, (_, _), hj4, ⟨rfl, trivial⟩, ⟨rfl, rfl, rfl, rfl, rfl, trivial⟩, [], rfl⟩
        · replace hj4 := cond_f hc5 hj4
          refine g_exit ?_
          exact ⟨_, (_, _), some_eq hj4, trivial, ⟨rfl, rfl, trivial⟩, [], rfl⟩
      · rintro ⟨l7, z1⟩ ⟨a_r3, cap_r3⟩ hst
        subst hst
        refine k_norm (L' := [(2, _), (9, _)]) (ms' := [row a_r3 cap_r3 52 13 AutoState.d l7, box b3 24 [.v (.slice a_r3 l7.length cap_r3), .i64 z1], _, _, _]) rfl rfl ?_
        refine g_seq ?_
        refine g_region ?_
        refine go_p rfl rfl rfl (o_load_box_agg 1 Tryz.isAgg24 Tryz.sizeOf24 rfl rfl rfl rfl (Nat.le_of_ble_eq_true rfl)) ?_
        refine go_conv (peekAggE (i := 88) (q := 0) 0 rfl rfl rfl rfl rfl).refines ?_
        refine go_u rfl rfl (o_store_box 4 Tryz.sizeOf24 rfl rfl rfl rfl rfl rfl rfl rfl (Nat.le_of_ble_eq_true rfl)) ?_
        rintro _ _ rfl
        refine go_ms (ms' := [_, box b3 24 [_, _], _, _, box b1 24 [_, _]]) rfl ?_
        refine go_nil ?_
        refine g_ret ?_
        exact retK (ret_one' rfl (ret_cell 4 rfl rfl rfl Tryz.isAgg24 Tryz.sizeOf24 rfl) (perm_drop _)) (congrArg (fun (p : AutoAuto) => (AutoAuto.d p : D)) (some_eq hm4))
def AutoEdge.eqv (x y : AutoEdge) : Bool := ((x.name == y.name) && ((x.to_ == y.to_) && true))
theorem eqf_62 : ∀ fs : Array Field, Tryz.prog.underlying 62 = some (.struct fs) → EqFields Tryz.prog fs.toList 0 [.str, .int] := by
  intro fs h
  have := h.symm.trans Tryz.underlying62
  simp only [Option.some.injEq, TypeDesc.struct.injEq] at this
  subst this
  exact ⟨by decide, rfl, Tryz.isAgg9, Tryz.underlying9, ⟨by decide, rfl, Tryz.isAgg3, ⟨_, Tryz.underlying3⟩, trivial⟩⟩
def m_syntagmaref24_sameEdges_l1 (a1 : (List AutoEdge)) (b1 : (List AutoEdge)) : Nat → Int → Option (Out Bool Unit)
  | 0, _ => none
  | n + 1, i1 =>
    bif (decide (i1 < (a1.length : Int))) then
      (idx a1 i1).bind fun x1 =>
      (idx b1 i1).bind fun x2 =>
      bif (!(AutoEdge.eqv x1 x2)) then
        some (Out.ret false)
      else
        grd (InR (i1 + 1)) <|
        m_syntagmaref24_sameEdges_l1 a1 b1 n (i1 + 1)
    else
      some (Out.go (()))
def m_syntagmaref24_sameEdges (a1 : (List AutoEdge)) (b1 : (List AutoEdge)) : Option Bool :=
  bif (!decide ((a1.length : Int) = (b1.length : Int))) then
    some false
  else
    ((m_syntagmaref24_sameEdges_l1 a1 b1 FU 0 : Option (Out Bool Unit))).bind (fun oo => oo.on (fun r1 => some r1) (fun _ =>
    some true))
theorem w_syntagmaref24_sameEdges {a1 : (List AutoEdge)} {b1 : (List AutoEdge)} {r_1 : Bool} (hm : m_syntagmaref24_sameEdges a1 b1 = some r_1) : Fn0 Tryz.prog 69 [.list 2 AutoEdge.d a1, .list 2 AutoEdge.d b1] (.bool r_1) := by
  unfold m_syntagmaref24_sameEdges at hm
  refine fn_intro Tryz.func69 rfl Tryz.ntmps69 rfl fun H0 fr w0 => ?_
  refine g_seq ?_
  refine g_region ?_
  refine go_p rfl rfl rfl (o_assign rfl) ?_
  refine go_nil ?_
  refine g_seq ?_
  refine g_seq ?_
  refine g_region ?_
  refine go_p rfl rfl rfl (o_move rfl) ?_
  refine go_p rfl rfl rfl (o_len Tryz.runUnderlying50 rfl) ?_
  refine go_p rfl rfl rfl (o_move rfl) ?_
  refine go_p rfl rfl rfl (o_len Tryz.runUnderlying50 rfl) ?_
  refine go_p rfl rfl rfl (o_cmp rfl rfl rfl) ?_
  refine go_nil ?_
  refine g_cond rfl (fun hc1 => ?_) (fun hc1 => ?_)
  · replace hm := cond_t hc1 hm
    refine g_seq ?_
    refine g_region ?_
    refine go_p rfl rfl rfl (o_assign rfl) ?_
    refine go_nil ?_
    refine g_ret ?_
    exact retK (ret_one' rfl (ret_tmp rfl) (perm_drop _)) (congrArg (fun (p : Bool) => (.bool p : D)) (some_eq hm))
  · replace hm := cond_f hc1 hm
    refine g_skip ?_
    refine g_seq ?_
    refine g_seq ?_
    refine g_region ?_
    refine go_p rfl rfl rfl (o_assign rfl) ?_
    refine go_nil ?_
    obtain ⟨o_1, hj1, hm1⟩ := bind_some hm
    refine g_cut_m [] [] (fun (st : Unit) (hid : Unit) => match st, hid with | _, _ => []) (fun F (st : Unit) (hid : Unit) => match st, hid with | _, _ => []) (fun st => Out.go (st) = o_1) trivial trivial ?_ ?_
    · skip
      refine g_block ?_
      refine g_loop_m [(0, _), (1, _)] [] (fun (st : Int) (hid : Unit) => match st, hid with | i1, _ => [(5, .i64 i1)]) (fun F (st : Int) (hid : Unit) => match st, hid with | i1, _ => []) () hj1 (fun _ => rfl) ⟨rfl, rfl, trivial⟩ trivial ⟨rfl, trivial⟩ rfl ?_
      rintro n i1 _ hj1
      rw [m_syntagmaref24_sameEdges_l1] at hj1
      refine g_norm (L' := [(5, .i64 i1), (0, _), (1, _)]) (ms' := []) rfl rfl ?_
      refine g_seq ?_
      refine g_seq ?_
      refine g_region ?_
      refine go_p rfl rfl rfl (o_move rfl) ?_
      refine go_p rfl rfl rfl (o_move rfl) ?_
      refine go_p rfl rfl rfl (o_len Tryz.runUnderlying50 rfl) ?_
      refine go_p rfl rfl rfl (o_cmp rfl rfl rfl) ?_
      refine go_nil ?_
      refine g_cond rfl (fun hc2 => ?_) (fun hc2 => ?_)
      · replace hj1 := cond_t hc2 hj1
        refine g_skip ?_
        refine g_seq ?_
        refine g_block ?_
        refine g_seq ?_
        obtain ⟨x1, hx1, hj1⟩ := bind_some hj1
        obtain ⟨x2, hx2, hj1⟩ := bind_some hj1
        refine g_draw 9 Tryz_mixed (by decide +kernel) ?_
        refine gd_p rfl rfl rfl (o_move rfl) ?_
        refine gd_p rfl rfl rfl (o_move rfl) ?_
        refine gd_p rfl rfl rfl (o_indexAddr_m Tryz.runUnderlying50 Tryz.sizeOf62 rfl rfl hx1) ?_
        refine gd_p rfl rfl rfl (o_load_agg Tryz.isAgg62 Tryz.sizeOf62 rfl rfl) ?_
        refine gd_p rfl rfl rfl (o_move rfl) ?_
        refine gd_p rfl rfl rfl (o_move rfl) ?_
        refine gd_p rfl rfl rfl (o_indexAddr_m Tryz.runUnderlying50 Tryz.sizeOf62 rfl rfl hx2) ?_
        refine gd_p rfl rfl rfl (o_load_agg Tryz.isAgg62 Tryz.sizeOf62 rfl rfl) ?_
        refine gd_p rfl rfl rfl (o_neqagg (ks := [.str, .int]) Tryz.underlying62 (by kernel_rfl) (by kernel_rfl) (eqf_62 _ Tryz.underlying62) rfl rfl rfl) ?_
        refine gd_nil ?_
        refine go_nil ?_
        refine g_cond rfl (fun hc3 => ?_) (fun hc3 => ?_)
        · replace hj1 := cond_t hc3 hj1
          refine g_seq ?_
          refine g_region ?_
          refine go_p rfl rfl rfl (o_assign rfl) ?_
          refine go_nil ?_
          refine g_ret ?_
          obtain rfl := some_eq hj1
          replace hm1 := on_ret hm1
          exact retK (ret_one' rfl (ret_tmp rfl) (perm_drop _)) (congrArg (fun (p : Bool) => (.bool p : D)) (some_eq hm1))
        · replace hj1 := cond_f hc3 hj1
          refine g_skip ?_
          refine g_region ?_
          refine go_p rfl rfl rfl (o_move rfl) ?_
          obtain ⟨hg3, hj1⟩ := grd_some hj1
          refine go_p rfl rfl rfl (o_add rfl rfl (i64_id hg3)) ?_
          refine go_p rfl rfl rfl (o_assign rfl) ?_
          refine go_nil ?_
          exact ⟨_, (), hj1, ⟨rfl, trivial⟩, ⟨rfl, rfl, trivial⟩, [], rfl⟩
      · replace hj1 := cond_f hc2 hj1
        refine g_exit ?_
        exact ⟨_, (), some_eq hj1, trivial, trivial, [], rfl⟩
    · rintro _ _ hst
      subst hst
      replace hm1 := on_go hm1
      refine k_norm (L' := []) (ms' := []) rfl rfl ?_
      refine g_seq ?_
      refine g_region ?_
      refine go_p rfl rfl rfl (o_assign rfl) ?_
      refine go_nil ?_
      refine g_ret ?_
      exact retK (ret_one' rfl (ret_tmp rfl) (perm_drop _)) (congrArg (fun (p : Bool) => (.bool p : D)) (some_eq hm1))
def m_syntagmaref24_SameState (a1 : AutoState) (b1 : AutoState) : Option Bool :=
  (bif ((((((((((a1.plus == b1.plus) && (a1.all == b1.all)) && (a1.int == b1.int)) && (a1.bool == b1.bool)) && (a1.str == b1.str)) && (a1.arrow == b1.arrow)) && (a1.rec_ == b1.rec_)) && (a1.tag == b1.tag)) && (decide (a1.dom = b1.dom))) && (decide (a1.cod = b1.cod))) then ((m_syntagmabase_SameInts a1.vars b1.vars).bind fun x1 =>
  some x1) else (some false)).bind fun p1 =>
  (bif p1 then ((m_syntagmaref24_sameEdges a1.fields b1.fields).bind fun x2 =>
  some x2) else (some false)).bind fun p2 =>
  (bif p2 then ((m_syntagmaref24_sameEdges a1.tags b1.tags).bind fun x3 =>
  some x3) else (some false)).bind fun p3 =>
  some p3
theorem w_syntagmaref24_SameState {a1 : AutoState} {b1 : AutoState} {r_1 : Bool} (hm : m_syntagmaref24_SameState a1 b1 = some r_1) : Fn0 Tryz.prog 38 [AutoState.d a1, AutoState.d b1] (.bool r_1) := by
  unfold m_syntagmaref24_SameState at hm
  refine fn_intro Tryz.func38 rfl Tryz.ntmps38 rfl fun H0 fr w0 => ?_
  refine g_seq ?_
  refine g_region ?_
  refine go_p rfl rfl rfl (o_box rfl rfl) ?_
  refine go_p rfl rfl rfl (o_box rfl rfl) ?_
  refine go_p rfl rfl rfl (o_assign rfl) ?_
  refine go_nil ?_
  refine g_seq ?_
  refine g_region ?_
  refine go_p rfl rfl rfl (o_fieldAddr fi_52_0 rfl rfl rfl) ?_
  refine go_p rfl rfl rfl (o_load Tryz.isAgg4 rfl rfl) ?_
  refine go_p rfl rfl rfl (o_fieldAddr fi_52_0 rfl rfl rfl) ?_
  refine go_p rfl rfl rfl (o_load Tryz.isAgg4 rfl rfl) ?_
  refine go_p rfl rfl rfl (o_cmpb Tryz.runUnderlying4 rfl rfl) ?_
  refine go_p rfl rfl rfl (o_move rfl) ?_
  apply go_and [(2, _), (3, _)] 6 16 (t := 10) ⟨rfl, rfl, trivial⟩ rfl
  · intro hg_1 hk1
    refine go_wantp rfl rfl rfl hg_1 rfl rfl (o_fieldAddr fi_52_1 rfl rfl rfl) ?_
    refine go_wantp rfl rfl rfl hg_1 rfl rfl (o_load Tryz.isAgg4 rfl rfl) ?_
    refine go_wantp rfl rfl rfl hg_1 rfl rfl (o_fieldAddr fi_52_1 rfl rfl rfl) ?_
    refine go_wantp rfl rfl rfl hg_1 rfl rfl (o_load Tryz.isAgg4 rfl rfl) ?_
    refine go_wantp rfl rfl rfl hg_1 rfl rfl (o_cmpb Tryz.runUnderlying4 rfl rfl) ?_
    refine go_p rfl rfl rfl (o_pickT rfl hg_1 rfl) ?_
    exact go_meet hk1 (rfl) ⟨rfl, rfl, trivial⟩
  · intro hg_1 hk1
    refine go_skip rfl rfl rfl hg_1 rfl rfl ?_
    refine go_skip rfl rfl rfl hg_1 rfl rfl ?_
    refine go_skip rfl rfl rfl hg_1 rfl rfl ?_
    refine go_skip rfl rfl rfl hg_1 rfl rfl ?_
    refine go_skip rfl rfl rfl hg_1 rfl rfl ?_
    refine go_p rfl rfl rfl (o_pickF rfl hg_1 rfl) ?_
    exact go_meet hk1 (rfl) ⟨rfl, rfl, trivial⟩
  refine go_p rfl rfl rfl (o_move rfl) ?_
  apply go_and [(2, _), (3, _)] 6 23 (t := 17) ⟨rfl, rfl, trivial⟩ rfl
  · intro hg_2 hk2
    refine go_wantp rfl rfl rfl hg_2 rfl rfl (o_fieldAddr fi_52_2 rfl rfl rfl) ?_
    refine go_wantp rfl rfl rfl hg_2 rfl rfl (o_load Tryz.isAgg4 rfl rfl) ?_
    refine go_wantp rfl rfl rfl hg_2 rfl rfl (o_fieldAddr fi_52_2 rfl rfl rfl) ?_
    refine go_wantp rfl rfl rfl hg_2 rfl rfl (o_load Tryz.isAgg4 rfl rfl) ?_
    refine go_wantp rfl rfl rfl hg_2 rfl rfl (o_cmpb Tryz.runUnderlying4 rfl rfl) ?_
    refine go_p rfl rfl rfl (o_pickT rfl hg_2 rfl) ?_
    exact go_meet hk2 (rfl) ⟨rfl, rfl, trivial⟩
  · intro hg_2 hk2
    refine go_skip rfl rfl rfl hg_2 rfl rfl ?_
    refine go_skip rfl rfl rfl hg_2 rfl rfl ?_
    refine go_skip rfl rfl rfl hg_2 rfl rfl ?_
    refine go_skip rfl rfl rfl hg_2 rfl rfl ?_
    refine go_skip rfl rfl rfl hg_2 rfl rfl ?_
    refine go_p rfl rfl rfl (o_pickF rfl hg_2 rfl) ?_
    exact go_meet hk2 (rfl) ⟨rfl, rfl, trivial⟩
  refine go_p rfl rfl rfl (o_move rfl) ?_
  apply go_and [(2, _), (3, _)] 6 30 (t := 24) ⟨rfl, rfl, trivial⟩ rfl
  · intro hg_3 hk3
    refine go_wantp rfl rfl rfl hg_3 rfl rfl (o_fieldAddr fi_52_3 rfl rfl rfl) ?_
    refine go_wantp rfl rfl rfl hg_3 rfl rfl (o_load Tryz.isAgg4 rfl rfl) ?_
    refine go_wantp rfl rfl rfl hg_3 rfl rfl (o_fieldAddr fi_52_3 rfl rfl rfl) ?_
    refine go_wantp rfl rfl rfl hg_3 rfl rfl (o_load Tryz.isAgg4 rfl rfl) ?_
    refine go_wantp rfl rfl rfl hg_3 rfl rfl (o_cmpb Tryz.runUnderlying4 rfl rfl) ?_
    refine go_p rfl rfl rfl (o_pickT rfl hg_3 rfl) ?_
    exact go_meet hk3 (rfl) ⟨rfl, rfl, trivial⟩
  · intro hg_3 hk3
    refine go_skip rfl rfl rfl hg_3 rfl rfl ?_
    refine go_skip rfl rfl rfl hg_3 rfl rfl ?_
    refine go_skip rfl rfl rfl hg_3 rfl rfl ?_
    refine go_skip rfl rfl rfl hg_3 rfl rfl ?_
    refine go_skip rfl rfl rfl hg_3 rfl rfl ?_
    refine go_p rfl rfl rfl (o_pickF rfl hg_3 rfl) ?_
    exact go_meet hk3 (rfl) ⟨rfl, rfl, trivial⟩
  refine go_p rfl rfl rfl (o_move rfl) ?_
  apply go_and [(2, _), (3, _)] 6 37 (t := 31) ⟨rfl, rfl, trivial⟩ rfl
  · intro hg_4 hk4
    refine go_wantp rfl rfl rfl hg_4 rfl rfl (o_fieldAddr fi_52_4 rfl rfl rfl) ?_
    refine go_wantp rfl rfl rfl hg_4 rfl rfl (o_load Tryz.isAgg4 rfl rfl) ?_
    refine go_wantp rfl rfl rfl hg_4 rfl rfl (o_fieldAddr fi_52_4 rfl rfl rfl) ?_
    refine go_wantp rfl rfl rfl hg_4 rfl rfl (o_load Tryz.isAgg4 rfl rfl) ?_
    refine go_wantp rfl rfl rfl hg_4 rfl rfl (o_cmpb Tryz.runUnderlying4 rfl rfl) ?_
    refine go_p rfl rfl rfl (o_pickT rfl hg_4 rfl) ?_
    exact go_meet hk4 (rfl) ⟨rfl, rfl, trivial⟩
  · intro hg_4 hk4
    refine go_skip rfl rfl rfl hg_4 rfl rfl ?_
    refine go_skip rfl rfl rfl hg_4 rfl rfl ?_
    refine go_skip rfl rfl rfl hg_4 rfl rfl ?_
    refine go_skip rfl rfl rfl hg_4 rfl rfl ?_
    refine go_skip rfl rfl rfl hg_4 rfl rfl ?_
    refine go_p rfl rfl rfl (o_pickF rfl hg_4 rfl) ?_
    exact go_meet hk4 (rfl) ⟨rfl, rfl, trivial⟩
  refine go_p rfl rfl rfl (o_move rfl) ?_
  apply go_and [(2, _), (3, _)] 6 44 (t := 38) ⟨rfl, rfl, trivial⟩ rfl
  · intro hg_5 hk5
    refine go_wantp rfl rfl rfl hg_5 rfl rfl (o_fieldAddr fi_52_5 rfl rfl rfl) ?_
    refine go_wantp rfl rfl rfl hg_5 rfl rfl (o_load Tryz.isAgg4 rfl rfl) ?_
    refine go_wantp rfl rfl rfl hg_5 rfl rfl (o_fieldAddr fi_52_5 rfl rfl rfl) ?_
    refine go_wantp rfl rfl rfl hg_5 rfl rfl (o_load Tryz.isAgg4 rfl rfl) ?_
    refine go_wantp rfl rfl rfl hg_5 rfl rfl (o_cmpb Tryz.runUnderlying4 rfl rfl) ?_
    refine go_p rfl rfl rfl (o_pickT rfl hg_5 rfl) ?_
    exact go_meet hk5 (rfl) ⟨rfl, rfl, trivial⟩
  · intro hg_5 hk5
    refine go_skip rfl rfl rfl hg_5 rfl rfl ?_
    refine go_skip rfl rfl rfl hg_5 rfl rfl ?_
    refine go_skip rfl rfl rfl hg_5 rfl rfl ?_
    refine go_skip rfl rfl rfl hg_5 rfl rfl ?_
    refine go_skip rfl rfl rfl hg_5 rfl rfl ?_
    refine go_p rfl rfl rfl (o_pickF rfl hg_5 rfl) ?_
    exact go_meet hk5 (rfl) ⟨rfl, rfl, trivial⟩
  refine go_p rfl rfl rfl (o_move rfl) ?_
  apply go_and [(2, _), (3, _)] 6 51 (t := 45) ⟨rfl, rfl, trivial⟩ rfl
  · intro hg_6 hk6
    refine go_wantp rfl rfl rfl hg_6 rfl rfl (o_fieldAddr fi_52_6 rfl rfl rfl) ?_
    refine go_wantp rfl rfl rfl hg_6 rfl rfl (o_load Tryz.isAgg4 rfl rfl) ?_
    refine go_wantp rfl rfl rfl hg_6 rfl rfl (o_fieldAddr fi_52_6 rfl rfl rfl) ?_
    refine go_wantp rfl rfl rfl hg_6 rfl rfl (o_load Tryz.isAgg4 rfl rfl) ?_
    refine go_wantp rfl rfl rfl hg_6 rfl rfl (o_cmpb Tryz.runUnderlying4 rfl rfl) ?_
    refine go_p rfl rfl rfl (o_pickT rfl hg_6 rfl) ?_
    exact go_meet hk6 (rfl) ⟨rfl, rfl, trivial⟩
  · intro hg_6 hk6
    refine go_skip rfl rfl rfl hg_6 rfl rfl ?_
    refine go_skip rfl rfl rfl hg_6 rfl rfl ?_
    refine go_skip rfl rfl rfl hg_6 rfl rfl ?_
    refine go_skip rfl rfl rfl hg_6 rfl rfl ?_
    refine go_skip rfl rfl rfl hg_6 rfl rfl ?_
    refine go_p rfl rfl rfl (o_pickF rfl hg_6 rfl) ?_
    exact go_meet hk6 (rfl) ⟨rfl, rfl, trivial⟩
  refine go_p rfl rfl rfl (o_move rfl) ?_
  apply go_and [(2, _), (3, _)] 6 58 (t := 52) ⟨rfl, rfl, trivial⟩ rfl
  · intro hg_7 hk7
    refine go_wantp rfl rfl rfl hg_7 rfl rfl (o_fieldAddr fi_52_7 rfl rfl rfl) ?_
    refine go_wantp rfl rfl rfl hg_7 rfl rfl (o_load Tryz.isAgg4 rfl rfl) ?_
    refine go_wantp rfl rfl rfl hg_7 rfl rfl (o_fieldAddr fi_52_7 rfl rfl rfl) ?_
    refine go_wantp rfl rfl rfl hg_7 rfl rfl (o_load Tryz.isAgg4 rfl rfl) ?_
    refine go_wantp rfl rfl rfl hg_7 rfl rfl (o_cmpb Tryz.runUnderlying4 rfl rfl) ?_
    refine go_p rfl rfl rfl (o_pickT rfl hg_7 rfl) ?_
    exact go_meet hk7 (rfl) ⟨rfl, rfl, trivial⟩
  · intro hg_7 hk7
    refine go_skip rfl rfl rfl hg_7 rfl rfl ?_
    refine go_skip rfl rfl rfl hg_7 rfl rfl ?_
    refine go_skip rfl rfl rfl hg_7 rfl rfl ?_
    refine go_skip rfl rfl rfl hg_7 rfl rfl ?_
    refine go_skip rfl rfl rfl hg_7 rfl rfl ?_
    refine go_p rfl rfl rfl (o_pickF rfl hg_7 rfl) ?_
    exact go_meet hk7 (rfl) ⟨rfl, rfl, trivial⟩
  refine go_p rfl rfl rfl (o_move rfl) ?_
  apply go_and [(2, _), (3, _)] 6 65 (t := 59) ⟨rfl, rfl, trivial⟩ rfl
  · intro hg_8 hk8
    refine go_wantp rfl rfl rfl hg_8 rfl rfl (o_fieldAddr fi_52_9 rfl rfl rfl) ?_
    refine go_wantp rfl rfl rfl hg_8 rfl rfl (o_load Tryz.isAgg3 rfl rfl) ?_
    refine go_wantp rfl rfl rfl hg_8 rfl rfl (o_fieldAddr fi_52_9 rfl rfl rfl) ?_
    refine go_wantp rfl rfl rfl hg_8 rfl rfl (o_load Tryz.isAgg3 rfl rfl) ?_
    refine go_wantp rfl rfl rfl hg_8 rfl rfl (o_cmp rfl rfl rfl) ?_
    refine go_p rfl rfl rfl (o_pickT rfl hg_8 rfl) ?_
    exact go_meet hk8 (rfl) ⟨rfl, rfl, trivial⟩
  · intro hg_8 hk8
    refine go_skip rfl rfl rfl hg_8 rfl rfl ?_
    refine go_skip rfl rfl rfl hg_8 rfl rfl ?_
    refine go_skip rfl rfl rfl hg_8 rfl rfl ?_
    refine go_skip rfl rfl rfl hg_8 rfl rfl ?_
    refine go_skip rfl rfl rfl hg_8 rfl rfl ?_
    refine go_p rfl rfl rfl (o_pickF rfl hg_8 rfl) ?_
    exact go_meet hk8 (rfl) ⟨rfl, rfl, trivial⟩
  refine go_p rfl rfl rfl (o_move rfl) ?_
  apply go_and [(2, _), (3, _)] 6 72 (t := 66) ⟨rfl, rfl, trivial⟩ rfl
  · intro hg_9 hk9
    refine go_wantp rfl rfl rfl hg_9 rfl rfl (o_fieldAddr fi_52_10 rfl rfl rfl) ?_
    refine go_wantp rfl rfl rfl hg_9 rfl rfl (o_load Tryz.isAgg3 rfl rfl) ?_
    refine go_wantp rfl rfl rfl hg_9 rfl rfl (o_fieldAddr fi_52_10 rfl rfl rfl) ?_
    refine go_wantp rfl rfl rfl hg_9 rfl rfl (o_load Tryz.isAgg3 rfl rfl) ?_
    refine go_wantp rfl rfl rfl hg_9 rfl rfl (o_cmp rfl rfl rfl) ?_
    refine go_p rfl rfl rfl (o_pickT rfl hg_9 rfl) ?_
    exact go_meet hk9 (rfl) ⟨rfl, rfl, trivial⟩
  · intro hg_9 hk9
    refine go_skip rfl rfl rfl hg_9 rfl rfl ?_
    refine go_skip rfl rfl rfl hg_9 rfl rfl ?_
    refine go_skip rfl rfl rfl hg_9 rfl rfl ?_
    refine go_skip rfl rfl rfl hg_9 rfl rfl ?_
    refine go_skip rfl rfl rfl hg_9 rfl rfl ?_
    refine go_p rfl rfl rfl (o_pickF rfl hg_9 rfl) ?_
    exact go_meet hk9 (rfl) ⟨rfl, rfl, trivial⟩
  refine go_p rfl rfl rfl (o_move rfl) ?_
  obtain ⟨p1, hp_10, hm⟩ := bind_some hm
  refine go_two [(2, _), (3, _)] 6 79 p1 (t := 73) ⟨rfl, rfl, trivial⟩ rfl (fun hg_10 hk10 => ?_) (fun hg_10 hk10 => ?_) ?_
  · replace hp_10 := cond_t hg_10 hp_10
    refine go_wantp rfl rfl rfl hg_10 rfl rfl (o_fieldAddr fi_52_8 rfl rfl rfl) ?_
    refine go_wantp rfl rfl rfl hg_10 rfl rfl (o_load Tryz.isAgg49 rfl rfl) ?_
    refine go_wantp rfl rfl rfl hg_10 rfl rfl (o_fieldAddr fi_52_8 rfl rfl rfl) ?_
    refine go_wantp rfl rfl rfl hg_10 rfl rfl (o_load Tryz.isAgg49 rfl rfl) ?_
    obtain ⟨x1, hx1, hp_10⟩ := bind_some hp_10
    refine go_wantp rfl rfl rfl hg_10 rfl rfl (o_call0 Tryz.call34 rfl (w_syntagmabase_SameInts hx1)) ?_
    refine go_p rfl rfl rfl (o_pickT rfl hg_10 rfl) ?_
    exact go_meet hk10 (congrArg (fun b => some (D.bool b)) (some_eq hp_10)) ⟨rfl, rfl, trivial⟩
  · replace hp_10 := cond_f hg_10 hp_10
    refine go_skip rfl rfl rfl hg_10 rfl rfl ?_
    refine go_skip rfl rfl rfl hg_10 rfl rfl ?_
    refine go_skip rfl rfl rfl hg_10 rfl rfl ?_
    refine go_skip rfl rfl rfl hg_10 rfl rfl ?_
    refine go_skip rfl rfl rfl hg_10 rfl rfl ?_
    refine go_p rfl rfl rfl (o_pickF rfl hg_10 rfl) ?_
    exact go_meet hk10 (congrArg (fun b => some (D.bool b)) (some_eq hp_10)) ⟨rfl, rfl, trivial⟩
  refine go_p rfl rfl rfl (o_move rfl) ?_
  obtain ⟨p2, hp_11, hm⟩ := bind_some hm
  refine go_two [(2, _), (3, _)] 6 86 p2 (t := 80) ⟨rfl, rfl, trivial⟩ rfl (fun hg_11 hk11 => ?_) (fun hg_11 hk11 => ?_) ?_
  · replace hp_11 := cond_t hg_11 hp_11
    refine go_wantp rfl rfl rfl hg_11 rfl rfl (o_fieldAddr fi_52_11 rfl rfl rfl) ?_
    refine go_wantp rfl rfl rfl hg_11 rfl rfl (o_load Tryz.isAgg50 rfl rfl) ?_
    refine go_wantp rfl rfl rfl hg_11 rfl rfl (o_fieldAddr fi_52_11 rfl rfl rfl) ?_
    refine go_wantp rfl rfl rfl hg_11 rfl rfl (o_load Tryz.isAgg50 rfl rfl) ?_
    obtain ⟨x2, hx2, hp_11⟩ := bind_some hp_11
    refine go_wantp rfl rfl rfl hg_11 rfl rfl (o_call0 Tryz.call69 rfl (w_syntagmaref24_sameEdges hx2)) ?_
    refine go_p rfl rfl rfl (o_pickT rfl hg_11 rfl) ?_
    exact go_meet hk11 (congrArg (fun b => some (D.bool b)) (some_eq hp_11)) ⟨rfl, rfl, trivial⟩
  · replace hp_11 := cond_f hg_11 hp_11
    refine go_skip rfl rfl rfl hg_11 rfl rfl ?_
    refine go_skip rfl rfl rfl hg_11 rfl rfl ?_
    refine go_skip rfl rfl rfl hg_11 rfl rfl ?_
    refine go_skip rfl rfl rfl hg_11 rfl rfl ?_
    refine go_skip rfl rfl rfl hg_11 rfl rfl ?_
    refine go_p rfl rfl rfl (o_pickF rfl hg_11 rfl) ?_
    exact go_meet hk11 (congrArg (fun b => some (D.bool b)) (some_eq hp_11)) ⟨rfl, rfl, trivial⟩
  refine go_p rfl rfl rfl (o_move rfl) ?_
  obtain ⟨p3, hp_12, hm⟩ := bind_some hm
  refine go_two [] 6 93 p3 (t := 87) trivial rfl (fun hg_12 hk12 => ?_) (fun hg_12 hk12 => ?_) ?_
  · replace hp_12 := cond_t hg_12 hp_12
    refine go_wantp rfl rfl rfl hg_12 rfl rfl (o_fieldAddr fi_52_12 rfl rfl rfl) ?_
    refine go_wantp rfl rfl rfl hg_12 rfl rfl (o_load Tryz.isAgg50 rfl rfl) ?_
    refine go_wantp rfl rfl rfl hg_12 rfl rfl (o_fieldAddr fi_52_12 rfl rfl rfl) ?_
    refine go_wantp rfl rfl rfl hg_12 rfl rfl (o_load Tryz.isAgg50 rfl rfl) ?_
    obtain ⟨x3, hx3, hp_12⟩ := bind_some hp_12
    refine go_wantp rfl rfl rfl hg_12 rfl rfl (o_call0 Tryz.call69 rfl (w_syntagmaref24_sameEdges hx3)) ?_
    refine go_p rfl rfl rfl (o_pickT rfl hg_12 rfl) ?_
    exact go_meet hk12 (congrArg (fun b => some (D.bool b)) (some_eq hp_12)) trivial
  · replace hp_12 := cond_f hg_12 hp_12
    refine go_skip rfl rfl rfl hg_12 rfl rfl ?_
    refine go_skip rfl rfl rfl hg_12 rfl rfl ?_
    refine go_skip rfl rfl rfl hg_12 rfl rfl ?_
    refine go_skip rfl rfl rfl hg_12 rfl rfl ?_
    refine go_skip rfl rfl rfl hg_12 rfl rfl ?_
    refine go_p rfl rfl rfl (o_pickF rfl hg_12 rfl) ?_
    exact go_meet hk12 (congrArg (fun b => some (D.bool b)) (some_eq hp_12)) trivial
  refine go_p rfl rfl rfl (o_assign rfl) ?_
  refine go_nil ?_
  refine g_ret ?_
  exact retK (ret_one' rfl (ret_tmp rfl) (perm_drop _)) (congrArg (fun (p : Bool) => (.bool p : D)) (some_eq hm))
def m_syntagmaref24_SameList_l1 (a1 : AutoAuto) (b1 : AutoAuto) : Nat → Int → Option (Out Bool Unit)
  | 0, _ => none
  | n + 1, i1 =>
    bif (decide (i1 < (a1.l.length : Int))) then
      (idx a1.l i1).bind fun x1 =>
      (idx b1.l i1).bind fun x2 =>
      (m_syntagmaref24_SameState x1 x2).bind fun x3 =>
      bif (!x3) then
        some (Out.ret false)
      else
        grd (InR (i1 + 1)) <|
        m_syntagmaref24_SameList_l1 a1 b1 n (i1 + 1)
    else
      some (Out.go (()))
def m_syntagmaref24_SameList (a1 : AutoAuto) (b1 : AutoAuto) : Option Bool :=
  bif ((!decide ((a1.l.length : Int) = (b1.l.length : Int))) || (!decide (a1.start = b1.start))) then
    some false
  else
    ((m_syntagmaref24_SameList_l1 a1 b1 FU 0 : Option (Out Bool Unit))).bind (fun oo => oo.on (fun r1 => some r1) (fun _ =>
    some true))
theorem w_syntagmaref24_SameList {a1 : AutoAuto} {b1 : AutoAuto} {r_1 : Bool} (hm : m_syntagmaref24_SameList a1 b1 = some r_1) : Fn0 Tryz.prog 14 [AutoAuto.d a1, AutoAuto.d b1] (.bool r_1) := by
  unfold m_syntagmaref24_SameList at hm
  refine fn_intro Tryz.func14 rfl Tryz.ntmps14 rfl fun H0 fr w0 => ?_
  refine g_seq ?_
  refine g_region ?_
  refine go_p rfl rfl rfl (o_box rfl rfl) ?_
  refine go_p rfl rfl rfl (o_box rfl rfl) ?_
  refine go_p rfl rfl rfl (o_assign rfl) ?_
  refine go_nil ?_
  refine g_seq ?_
  refine g_seq ?_
  refine g_region ?_
  refine go_p rfl rfl rfl (o_fieldAddr fi_24_0 rfl rfl rfl) ?_
  refine go_p rfl rfl rfl (o_load Tryz.isAgg22 rfl rfl) ?_
  refine go_p rfl rfl rfl (o_len Tryz.runUnderlying22 rfl) ?_
  refine go_p rfl rfl rfl (o_fieldAddr fi_24_0 rfl rfl rfl) ?_
  refine go_p rfl rfl rfl (o_load Tryz.isAgg22 rfl rfl) ?_
  refine go_p rfl rfl rfl (o_len Tryz.runUnderlying22 rfl) ?_
  refine go_p rfl rfl rfl (o_cmp rfl rfl rfl) ?_
  refine go_p rfl rfl rfl (o_move rfl) ?_
  apply go_or [(2, _), (3, _)] 6 19 (t := 13) ⟨rfl, rfl, trivial⟩ rfl
  · intro hg_1 hk1
    refine go_wantp rfl rfl rfl hg_1 rfl rfl (o_fieldAddr fi_24_1 rfl rfl rfl) ?_
    refine go_wantp rfl rfl rfl hg_1 rfl rfl (o_load Tryz.isAgg3 rfl rfl) ?_
    refine go_wantp rfl rfl rfl hg_1 rfl rfl (o_fieldAddr fi_24_1 rfl rfl rfl) ?_
    refine go_wantp rfl rfl rfl hg_1 rfl rfl (o_load Tryz.isAgg3 rfl rfl) ?_
    refine go_wantp rfl rfl rfl hg_1 rfl rfl (o_cmp rfl rfl rfl) ?_
    refine go_p rfl rfl rfl (o_pickF rfl hg_1 rfl) ?_
    exact go_meet hk1 (rfl) ⟨rfl, rfl, trivial⟩
  · intro hg_1 hk1
    refine go_skip rfl rfl rfl hg_1 rfl rfl ?_
    refine go_skip rfl rfl rfl hg_1 rfl rfl ?_
    refine go_skip rfl rfl rfl hg_1 rfl rfl ?_
    refine go_skip rfl rfl rfl hg_1 rfl rfl ?_
    refine go_skip rfl rfl rfl hg_1 rfl rfl ?_
    refine go_p rfl rfl rfl (o_pickT rfl hg_1 rfl) ?_
    exact go_meet hk1 (rfl) ⟨rfl, rfl, trivial⟩
  refine go_nil ?_
  refine g_cond rfl (fun hc1 => ?_) (fun hc1 => ?_)
  · replace hm := cond_t hc1 hm
    refine g_seq ?_
    refine g_region ?_
    refine go_p rfl rfl rfl (o_assign rfl) ?_
    refine go_nil ?_
    refine g_ret ?_
    exact retK (ret_one' rfl (ret_tmp rfl) (perm_drop _)) (congrArg (fun (p : Bool) => (.bool p : D)) (some_eq hm))
  · replace hm := cond_f hc1 hm
    refine g_skip ?_
    refine g_seq ?_
    refine g_seq ?_
    refine g_region ?_
    refine go_p rfl rfl rfl (o_assign rfl) ?_
    refine go_nil ?_
    obtain ⟨o_1, hj1, hm1⟩ := bind_some hm
    refine g_cut_m [] [] (fun (st : Unit) (hid : Unit) => match st, hid with | _, _ => []) (fun F (st : Unit) (hid : Unit) => match st, hid with | _, _ => []) (fun st => Out.go (st) = o_1) trivial trivial ?_ ?_
    · skip
      refine g_block ?_
      refine g_loop_m [(2, _), (3, _)] [] (fun (st : Int) (hid : Unit) => match st, hid with | i1, _ => [(5, .i64 i1)]) (fun F (st : Int) (hid : Unit) => match st, hid with | i1, _ => []) () hj1 (fun _ => rfl) ⟨rfl, rfl, trivial⟩ trivial ⟨rfl, trivial⟩ rfl ?_
      rintro n i1 _ hj1
      rw [m_syntagmaref24_SameList_l1] at hj1
      refine g_norm (L' := [(5, .i64 i1), (2, _), (3, _)]) (ms' := []) rfl rfl ?_
      refine g_seq ?_
      refine g_seq ?_
      refine g_region ?_
      refine go_p rfl rfl rfl (o_move rfl) ?_
      refine go_p rfl rfl rfl (o_fieldAddr fi_24_0 rfl rfl rfl) ?_
      refine go_p rfl rfl rfl (o_load Tryz.isAgg22 rfl rfl) ?_
      refine go_p rfl rfl rfl (o_len Tryz.runUnderlying22 rfl) ?_
      refine go_p rfl rfl rfl (o_cmp rfl rfl rfl) ?_
      refine go_nil ?_
      refine g_cond rfl (fun hc2 => ?_) (fun hc2 => ?_)
      · replace hj1 := cond_t hc2 hj1
        refine g_skip ?_
        refine g_seq ?_
        refine g_block ?_
        refine g_seq ?_
        obtain ⟨x1, hx1, hj1⟩ := bind_some hj1
        obtain ⟨x2, hx2, hj1⟩ := bind_some hj1
        obtain ⟨x3, hx3, hj1⟩ := bind_some hj1
        refine g_draw 12 Tryz_mixed (by decide +kernel) ?_
        refine gd_p rfl rfl rfl (o_fieldAddr fi_24_0 rfl rfl rfl) ?_
        refine gd_p rfl rfl rfl (o_load Tryz.isAgg22 rfl rfl) ?_
        refine gd_p rfl rfl rfl (o_move rfl) ?_
        refine gd_p rfl rfl rfl (o_indexAddr_m Tryz.runUnderlying22 Tryz.sizeOf52 rfl rfl hx1) ?_
        refine gd_p rfl rfl rfl (o_load_agg Tryz.isAgg52 Tryz.sizeOf52 rfl rfl) ?_
        refine gd_p rfl rfl rfl (o_fieldAddr fi_24_0 rfl rfl rfl) ?_
        refine gd_p rfl rfl rfl (o_load Tryz.isAgg22 rfl rfl) ?_
        refine gd_p rfl rfl rfl (o_move rfl) ?_
        refine gd_p rfl rfl rfl (o_indexAddr_m Tryz.runUnderlying22 Tryz.sizeOf52 rfl rfl hx2) ?_
        refine gd_p rfl rfl rfl (o_load_agg Tryz.isAgg52 Tryz.sizeOf52 rfl rfl) ?_
        refine gd_p rfl rfl rfl (o_call0 Tryz.call38 rfl (w_syntagmaref24_SameState hx3)) ?_
        refine gd_p rfl rfl rfl (o_not rfl) ?_
        refine gd_nil ?_
        refine go_nil ?_
        refine g_cond rfl (fun hc3 => ?_) (fun hc3 => ?_)
        · replace hj1 := cond_t hc3 hj1
          refine g_seq ?_
          refine g_region ?_
          refine go_p rfl rfl rfl (o_assign rfl) ?_
          refine go_nil ?_
          refine g_ret ?_
          obtain rfl := some_eq hj1
          replace hm1 := on_ret hm1
          exact retK (ret_one' rfl (ret_tmp rfl) (perm_drop _)) (congrArg (fun (p : Bool) => (.bool p : D)) (some_eq hm1))
        · replace hj1 := cond_f hc3 hj1
          refine g_skip ?_
          refine g_region ?_
          refine go_p rfl rfl rfl (o_move rfl) ?_
          obtain ⟨hg4, hj1⟩ := grd_some hj1
          refine go_p rfl rfl rfl (o_add rfl rfl (i64_id hg4)) ?_
          refine go_p rfl rfl rfl (o_assign rfl) ?_
          refine go_nil ?_
          exact ⟨_, (), hj1, ⟨rfl, trivial⟩, ⟨rfl, rfl, trivial⟩, [], rfl⟩
      · replace hj1 := cond_f hc2 hj1
        refine g_exit ?_
        exact ⟨_, (), some_eq hj1, trivial, trivial, [], rfl⟩
    · rintro _ _ hst
      subst hst
      replace hm1 := on_go hm1
      refine k_norm (L' := []) (ms' := []) rfl rfl ?_
      refine g_seq ?_
      refine g_region ?_
      refine go_p rfl rfl rfl (o_assign rfl) ?_
      refine go_nil ?_
      refine g_ret ?_
      exact retK (ret_one' rfl (ret_tmp rfl) (perm_drop _)) (congrArg (fun (p : Bool) => (.bool p : D)) (some_eq hm1))
def m_syntagmaref15_Set_l2 (l1 : (List Int)) (i1 : Int) (l3 : (List Int)) : Nat → Int → Option Int
  | 0, _ => none
  | n + 1, k2 =>
    bif (decide (k2 < (l3.length : Int))) then ((idx l3 k2).bind fun x1 =>
    (idx l1 i1).bind fun x2 =>
    bif (decide (x1 < x2)) then
      grd (InR (k2 + 1)) <|
      m_syntagmaref15_Set_l2 l1 i1 l3 n (k2 + 1)
    else
      some k2) else (some k2)
def m_syntagmaref15_Set_l1 (l1 : (List Int)) : Nat → (Int × (List Int)) → Option (List Int)
  | 0, _ => none
  | n + 1, (i1, l3) =>
    bif (decide (i1 < (l1.length : Int))) then
      (m_syntagmaref15_Set_l2 l1 i1 l3 FU 0 : Option Int).bind fun k1 =>
      bif (decide (k1 < (l3.length : Int))) then ((idx l3 k1).bind fun x3 =>
      (idx l1 i1).bind fun x4 =>
      bif (decide (x3 = x4)) then
        grd (InR (i1 + 1)) <|
        m_syntagmaref15_Set_l1 l1 n ((i1 + 1), l3)
      else
        (sli l3 0 k1).bind fun l4 =>
        grd ((0 + l4.length) * 8 ≤ 140737488355328) <|
        (idx l1 i1).bind fun x5 =>
        grd ((([] ++ l4).length + ([x5] : List _).length) * 8 ≤ 140737488355328) <|
        (sli l3 k1 (l3.length : Int)).bind fun l5 =>
        grd (((([] ++ l4) ++ [x5]).length + l5.length) * 8 ≤ 140737488355328) <|
        grd (InR (i1 + 1)) <|
        m_syntagmaref15_Set_l1 l1 n ((i1 + 1), ((([] ++ l4) ++ [x5]) ++ l5))) else ((sli l3 0 k1).bind fun l6 =>
      grd ((0 + l6.length) * 8 ≤ 140737488355328) <|
      (idx l1 i1).bind fun x6 =>
      grd ((([] ++ l6).length + ([x6] : List _).length) * 8 ≤ 140737488355328) <|
      (sli l3 k1 (l3.length : Int)).bind fun l7 =>
      grd (((([] ++ l6) ++ [x6]).length + l7.length) * 8 ≤ 140737488355328) <|
      grd (InR (i1 + 1)) <|
      m_syntagmaref15_Set_l1 l1 n ((i1 + 1), ((([] ++ l6) ++ [x6]) ++ l7)))
    else
      some l3
def m_syntagmaref15_Set (l1 : (List Int)) : Option (List Int) :=
  (m_syntagmaref15_Set_l1 l1 FU (0, []) : Option (List Int)).bind fun l2 =>
  some l2
theorem w_syntagmaref15_Set {l1 : (List Int)} {r_1 : (List Int)} (hm : m_syntagmaref15_Set l1 = some r_1) : Fn0 Tryz.prog 71 [.list 1 D.i64 l1] (.list 1 D.i64 r_1) := by
  unfold m_syntagmaref15_Set at hm
  refine fn_intro Tryz.func71 rfl Tryz.ntmps71 rfl fun H0 fr w0 => ?_
  refine g_seq ?_
  refine g_region ?_
  refine go_p rfl rfl rfl (o_assign rfl) ?_
  refine go_conv (nilE (i := 2) (sz := 1) (f := D.i64) rfl).refines ?_
  refine go_nil ?_
  refine g_seq ?_
  refine g_region ?_
  refine go_op rfl rfl rfl (o_buildSlice_row (xs := []) (f := D.i64) (l := []) Tryz.runUnderlying49 Tryz.sizeOf3 Tryz.zeroValue3 rfl rfl rfl (fun _ => ⟨rfl, rfl, rfl⟩) rfl (by simp [maxLen])) ?_
  rintro _ _ ⟨a_r1, rfl, rfl⟩
  refine go_p rfl rfl rfl (o_assign rfl) ?_
  refine go_nil ?_
  refine g_seq ?_
  refine g_seq ?_
  refine g_region ?_
  refine go_p rfl rfl rfl (o_assign rfl) ?_
  refine go_nil ?_
  obtain ⟨o_1, hj1, hm1⟩ := bind_some hm
  refine g_cut_m [] [] (fun (st : (List Int)) (hid : (Option Addr × Nat)) => match st, hid with | l2, (a_r1, cap_r1) => [(3, .v (.slice a_r1 l2.length cap_r1))]) (fun F (st : (List Int)) (hid : (Option Addr × Nat)) => match st, hid with | l2, (a_r1, cap_r1) => [row a_r1 cap_r1 3 1 D.i64 l2]) (fun st => st = o_1) trivial trivial ?_ ?_
  · skip
    refine g_block ?_
    refine g_loop_m [(0, _)] [] (fun (st : (Int × (List Int))) (hid : (Option Addr × Nat)) => match st, hid with | (i1, l3), (a_r1, cap_r1) => [(3, .v (.slice a_r1 l3.length cap_r1)), (4, .i64 i1)]) (fun F (st : (Int × (List Int))) (hid : (Option Addr × Nat)) => match st, hid with | (i1, l3), (a_r1, cap_r1) => [row a_r1 cap_r1 3 1 D.i64 l3]) (_, _) hj1 (fun _ => rfl) ⟨rfl, trivial⟩ trivial ⟨rfl, rfl, trivial⟩ rfl ?_
    rintro n ⟨i1, l3⟩ ⟨a_r1, cap_r1⟩ hj1
    rw [m_syntagmaref15_Set_l1] at hj1
    refine g_norm (L' := [(3, .v (.slice a_r1 l3.length cap_r1)), (4, .i64 i1), (0, _)]) (ms' := [row a_r1 cap_r1 3 1 D.i64 l3]) rfl rfl ?_
    refine g_seq ?_
    refine g_seq ?_
    refine g_region ?_
    refine go_p rfl rfl rfl (o_move rfl) ?_
    refine go_p rfl rfl rfl (o_move rfl) ?_
    refine go_p rfl rfl rfl (o_len Tryz.runUnderlying49 rfl) ?_
    refine go_p rfl rfl rfl (o_cmp rfl rfl rfl) ?_
    refine go_nil ?_
    refine g_cond rfl (fun hc1 => ?_) (fun hc1 => ?_)
    · replace hj1 := cond_t hc1 hj1
      refine g_skip ?_
      refine g_seq ?_
      refine g_block ?_
      refine g_seq ?_
      refine g_region ?_
      refine go_p rfl rfl rfl (o_assign rfl) ?_
      refine go_nil ?_
      refine g_seq ?_
      obtain ⟨o_2, hj2, hm2⟩ := bind_some hj1
      refine g_cut_m [(0, _), (3, _), (4, _)] [(0, _)] (fun (st : Int) (hid : Unit) => match st, hid with | k1, _ => [(5, .i64 k1)]) (fun F (st : Int) (hid : Unit) => match st, hid with | k1, _ => [(nthF F 0)]) (fun st => st = o_2) ⟨rfl, rfl, rfl, trivial⟩ ⟨rfl, trivial⟩ ?_ ?_
      · skip
        refine g_block ?_
        refine g_loop_m [(0, _), (3, _), (4, _)] [(0, _)] (fun (st : Int) (hid : Unit) => match st, hid with | k2, _ => [(5, .i64 k2)]) (fun F (st : Int) (hid : Unit) => match st, hid with | k2, _ => [(nthF F 0)]) () hj2 (fun _ => rfl) ⟨rfl, rfl, rfl, trivial⟩ ⟨rfl, trivial⟩ ⟨rfl, trivial⟩ rfl ?_
        rintro n k2 _ hj2
        rw [m_syntagmaref15_Set_l2] at hj2
        refine g_norm (L' := [(5, .i64 k2), (0, _), (3, _), (4, _)]) (ms' := [_]) rfl rfl ?_
        refine g_seq ?_
        refine g_seq ?_
        rcases cond_split hj2 with ⟨hg_1, hj2⟩ | ⟨hg_1, hj2⟩
        ·
          skip
          obtain ⟨x1, hx1, hj2⟩ := bind_some hj2
          obtain ⟨x2, hx2, hj2⟩ := bind_some hj2
          refine g_draw 15 Tryz_mixed (by decide +kernel) ?_
          refine gd_p rfl rfl rfl (o_move rfl) ?_
          refine gd_p rfl rfl rfl (o_move rfl) ?_
          refine gd_p rfl rfl rfl (.view (peekE (i := 14) 0 rfl rfl rfl) (o_len Tryz.runUnderlying49 rfl)) ?_
          refine gd_p rfl rfl rfl (o_cmp rfl rfl rfl) ?_
          refine gd_p rfl rfl rfl (o_move rfl) ?_
          refine gd_want rfl rfl rfl hg_1 rfl rfl (o_move rfl) ?_
          refine gd_want rfl rfl rfl hg_1 rfl rfl (o_move rfl) ?_
          refine gd_want rfl rfl rfl hg_1 rfl rfl (.view (peekE (i := 18) 0 rfl rfl rfl) (o_indexAddr_m Tryz.runUnderlying49 Tryz.sizeOf3 rfl rfl hx1)) ?_
          refine gd_want rfl rfl rfl hg_1 rfl rfl (o_load Tryz.isAgg3 rfl rfl) ?_
          refine gd_want rfl rfl rfl hg_1 rfl rfl (o_move rfl) ?_
          refine gd_want rfl rfl rfl hg_1 rfl rfl (o_move rfl) ?_
          refine gd_want rfl rfl rfl hg_1 rfl rfl (o_indexAddr_m Tryz.runUnderlying49 Tryz.sizeOf3 rfl rfl hx2) ?_
          refine gd_want rfl rfl rfl hg_1 rfl rfl (o_load Tryz.isAgg3 rfl rfl) ?_
          refine gd_want rfl rfl rfl hg_1 rfl rfl (o_cmp rfl rfl rfl) ?_
          refine gd_p rfl rfl rfl (o_pickT rfl hg_1 rfl) ?_
          refine gd_nil ?_
          refine go_nil ?_
          refine g_cond rfl (fun hc2 => ?_) (fun hc2 => ?_)
          · replace hj2 := cond_t hc2 hj2
            refine g_skip ?_
            refine g_block ?_
            refine g_region ?_
            refine go_p rfl rfl rfl (o_move rfl) ?_
            obtain ⟨hg3, hj2⟩ := grd_some hj2
            refine go_p rfl rfl rfl (o_add rfl rfl (i64_id hg3)) ?_
            refine go_p rfl rfl rfl (o_assign rfl) ?_
            refine go_nil ?_
            exact ⟨_, (), hj2, ⟨rfl, trivial⟩, ⟨rfl, rfl, rfl, trivial⟩, [], rfl⟩
          · replace hj2 := cond_f hc2 hj2
            refine g_exit ?_
            exact ⟨_, (), some_eq hj2, ⟨rfl, trivial⟩, ⟨rfl, rfl, rfl, trivial⟩, [], rfl⟩
        ·
          skip
          refine g_draw 15 Tryz_mixed (by decide +kernel) ?_
          refine gd_p rfl rfl rfl (o_move rfl) ?_
          refine gd_p rfl rfl rfl (o_move rfl) ?_
          refine gd_p rfl rfl rfl (.view (peekE (i := 14) 0 rfl rfl rfl) (o_len Tryz.runUnderlying49 rfl)) ?_
          refine gd_p rfl rfl rfl (o_cmp rfl rfl rfl) ?_
          refine gd_p rfl rfl rfl (o_move rfl) ?_
          refine gd_skip rfl rfl rfl hg_1 rfl rfl ?_
          refine gd_skip rfl rfl rfl hg_1 rfl rfl ?_
          refine gd_skip rfl rfl rfl hg_1 rfl rfl ?_
          refine gd_skip rfl rfl rfl hg_1 rfl rfl ?_
          refine gd_skip rfl rfl rfl hg_1 rfl rfl ?_
          refine gd_skip rfl rfl rfl hg_1 rfl rfl ?_
          refine gd_skip rfl rfl rfl hg_1 rfl rfl ?_
          refine gd_skip rfl rfl rfl hg_1 rfl rfl ?_
          refine gd_skip rfl rfl rfl hg_1 rfl rfl ?_
          refine gd_p rfl rfl rfl (o_pickF rfl hg_1 rfl) ?_
          refine gd_nil ?_
          refine go_nil ?_
          refine g_cond_false rfl rfl ?_
          refine g_exit ?_
          exact ⟨_, (), some_eq hj2, ⟨rfl, trivial⟩, ⟨rfl, rfl, rfl, trivial⟩, [], rfl⟩
      · rintro k1 _ hst
        subst hst
        refine k_norm (L' := [(5, .i64 k1), (0, _), (3, _), (4, _)]) (ms' := [_]) rfl rfl ?_
        refine g_seq ?_
        refine g_seq ?_
        rcases cond_split hm2 with ⟨hg_2, hm2⟩ | ⟨hg_2, hm2⟩
        ·
          skip
          obtain ⟨x3, hx4, hm2⟩ := bind_some hm2
          obtain ⟨x4, hx5, hm2⟩ := bind_some hm2
          refine g_draw 15 Tryz_mixed (by decide +kernel) ?_
          refine gd_p rfl rfl rfl (o_move rfl) ?_
          refine gd_p rfl rfl rfl (o_move rfl) ?_
          refine gd_p rfl rfl rfl (.view (peekE (i := 31) 0 rfl rfl rfl) (o_len Tryz.runUnderlying49 rfl)) ?_
          refine gd_p rfl rfl rfl (o_cmp rfl rfl rfl) ?_
          refine gd_p rfl rfl rfl (o_move rfl) ?_
          refine gd_want rfl rfl rfl hg_2 rfl rfl (o_move rfl) ?_
          refine gd_want rfl rfl rfl hg_2 rfl rfl (o_move rfl) ?_
          refine gd_want rfl rfl rfl hg_2 rfl rfl (.view (peekE (i := 35) 0 rfl rfl rfl) (o_indexAddr_m Tryz.runUnderlying49 Tryz.sizeOf3 rfl rfl hx4)) ?_
          refine gd_want rfl rfl rfl hg_2 rfl rfl (o_load Tryz.isAgg3 rfl rfl) ?_
          refine gd_want rfl rfl rfl hg_2 rfl rfl (o_move rfl) ?_
          refine gd_want rfl rfl rfl hg_2 rfl rfl (o_move rfl) ?_
          refine gd_want rfl rfl rfl hg_2 rfl rfl (o_indexAddr_m Tryz.runUnderlying49 Tryz.sizeOf3 rfl rfl hx5) ?_
          refine gd_want rfl rfl rfl hg_2 rfl rfl (o_load Tryz.isAgg3 rfl rfl) ?_
          refine gd_want rfl rfl rfl hg_2 rfl rfl (o_cmp rfl rfl rfl) ?_
          refine gd_p rfl rfl rfl (o_pickT rfl hg_2 rfl) ?_
          refine gd_nil ?_
          refine go_nil ?_
          refine g_cond rfl (fun hc3 => ?_) (fun hc3 => ?_)
          · replace hm2 := cond_t hc3 hm2
            refine g_exit ?_
            refine g_region ?_
            refine go_p rfl rfl rfl (o_move rfl) ?_
            obtain ⟨hg6, hm2⟩ := grd_some hm2
            refine go_p rfl rfl rfl (o_add rfl rfl (i64_id hg6)) ?_
            refine go_p rfl rfl rfl (o_assign rfl) ?_
            refine go_nil ?_
            exact ⟨_, (_, _), hm2, ⟨rfl, rfl, trivial⟩, ⟨rfl, trivial⟩, [], rfl⟩
          · replace hm2 := cond_f hc3 hm2
            refine g_skip ?_
            obtain ⟨l4, hx7, hm2⟩ := bind_some hm2
            obtain ⟨hg8, hm2⟩ := grd_some hm2
            obtain ⟨x5, hx9, hm2⟩ := bind_some hm2
            obtain ⟨hg10, hm2⟩ := grd_some hm2
            obtain ⟨l5, hx11, hm2⟩ := bind_some hm2
            obtain ⟨hg12, hm2⟩ := grd_some hm2
            refine g_draw_c [0, 4, 10, 14, 15] [1, 2, 3, 5, 6, 7, 8, 9, 11, 12, 13] [3, 13] Tryz_mixed (by decide +kernel) (by decide +kernel) rfl ?_
            refine gde_e rfl ?_
            refine gde_p rfl rfl rfl rfl rfl rfl (o_move rfl) ?_
            refine gde_p rfl rfl rfl rfl rfl rfl (o_move rfl) ?_
            refine gde_f rfl rfl rfl rfl rfl (.view (peekE (i := 46) 0 rfl rfl rfl) (o_slice_m Tryz.runUnderlying49 Tryz.sizeOf3 rfl rfl ⟨_, rfl⟩ hx7)) ?_
            refine gde_e rfl ?_
            refine gde_p rfl rfl rfl rfl rfl rfl (o_move rfl) ?_
            refine gde_p rfl rfl rfl rfl rfl rfl (o_move rfl) ?_
            refine gde_p rfl rfl rfl rfl rfl rfl (o_indexAddr_m Tryz.runUnderlying49 Tryz.sizeOf3 rfl rfl hx9) ?_
            refine gde_p rfl rfl rfl rfl rfl rfl (o_load Tryz.isAgg3 rfl rfl) ?_
            refine gde_p rfl rfl rfl rfl rfl rfl (o_buildSlice (xs := [_]) (f := D.i64) (l := [_]) Tryz.runUnderlying49 Tryz.sizeOf3 Tryz.zeroValue3 rfl rfl rfl (fun _ => ⟨rfl, rfl, rfl⟩) rfl) ?_
            refine gde_e rfl ?_
            refine gde_p rfl rfl rfl rfl rfl rfl (o_move rfl) ?_
            refine gde_p rfl rfl rfl rfl rfl rfl (o_move rfl) ?_
            refine gde_f rfl rfl rfl rfl rfl (.view (peekE (i := 56) 0 rfl rfl rfl) (o_slice_m Tryz.runUnderlying49 Tryz.sizeOf3 rfl ⟨_, rfl⟩ rfl hx11)) ?_
            refine gde_e rfl ?_
            refine gde_e rfl ?_
            refine gde_nil ?_
            refine gde2_t rfl rfl rfl rfl (o_buildSlice_row (xs := []) (f := D.i64) (l := []) Tryz.runUnderlying49 Tryz.sizeOf3 Tryz.zeroValue3 rfl rfl rfl (fun _ => ⟨rfl, rfl, rfl⟩) rfl (by simp [maxLen])) ?_
            rintro _ _ ⟨a_r2, rfl, rfl⟩
            refine ⟨⟨⟨trivial, .view (peekE (i := 46) 1 rfl rfl rfl) (o_slice_m Tryz.runUnderlying49 Tryz.sizeOf3 rfl rfl ⟨_, rfl⟩ hx7)⟩, .view (peekE (i := 56) 1 rfl rfl rfl) (o_slice_m Tryz.runUnderlying49 Tryz.sizeOf3 rfl ⟨_, rfl⟩ rfl hx11)⟩, ?_⟩
            refine gde2_t rfl rfl rfl rfl (o_append (a := _) 0 Tryz.underlying49 Tryz.type3 rfl rfl rfl rfl rfl rfl rfl (fun _ => rfl) (fun _ => rfl) hg8 (app_len hg8 rfl)) ?_
            rintro _ _ ⟨a_r2, cap_r2, rfl, rfl⟩
            refine ⟨⟨⟨trivial, .view (peekE (i := 46) 1 rfl rfl rfl) (o_slice_m Tryz.runUnderlying49 Tryz.sizeOf3 rfl rfl ⟨_, rfl⟩ hx7)⟩, .view (peekE (i := 56) 1 rfl rfl rfl) (o_slice_m Tryz.runUnderlying49 Tryz.sizeOf3 rfl ⟨_, rfl⟩ rfl hx11)⟩, ?_⟩
            refine gde2_t rfl rfl rfl rfl (o_append (a := _) 0 Tryz.underlying49 Tryz.type3 rfl rfl rfl rfl rfl rfl rfl (fun _ => rfl) (fun _ => rfl) hg10 (app_len hg10 rfl)) ?_
            rintro _ _ ⟨a_r2, cap_r2, rfl, rfl⟩
            refine ⟨⟨⟨trivial, .view (peekE (i := 46) 1 rfl rfl rfl) (o_slice_m Tryz.runUnderlying49 Tryz.sizeOf3 rfl rfl ⟨_, rfl⟩ hx7)⟩, .view (peekE (i := 56) 1 rfl rfl rfl) (o_slice_m Tryz.runUnderlying49 Tryz.sizeOf3 rfl ⟨_, rfl⟩ rfl hx11)⟩, ?_⟩
            refine gde2_t rfl rfl rfl rfl (o_append (a := _) 0 Tryz.underlying49 Tryz.type3 rfl rfl rfl rfl rfl rfl rfl (fun _ => rfl) (fun _ => rfl) hg12 (app_len hg12 rfl)) ?_
            rintro _ _ ⟨a_r2, cap_r2, rfl, rfl⟩
            refine ⟨⟨⟨trivial, .view (peekE (i := 46) 1 rfl rfl rfl) (o_slice_m Tryz.runUnderlying49 Tryz.sizeOf3 rfl rfl ⟨_, rfl⟩ hx7)⟩, .view (peekE (i := 56) 1 rfl rfl rfl) (o_slice_m Tryz.runUnderlying49 Tryz.sizeOf3 rfl ⟨_, rfl⟩ rfl hx11)⟩, ?_⟩
            refine gde2_t rfl rfl rfl rfl (o_assign rfl) ?_
            rintro _ _ ⟨rfl, rfl⟩
            refine ⟨⟨⟨trivial, .view (peekE (i := 46) 1 rfl rfl rfl) (o_slice_m Tryz.runUnderlying49 Tryz.sizeOf3 rfl rfl ⟨_, rfl⟩ hx7)⟩, .view (peekE (i := 56) 1 rfl rfl rfl) (o_slice_m Tryz.runUnderlying49 Tryz.sizeOf3 rfl ⟨_, rfl⟩ rfl hx11)⟩, ?_⟩
            refine gde2_nil ?_
            refine g_conv (refines_shift 0 1 rfl rfl rfl rfl) ?_
            refine g_region ?_
            refine go_p rfl rfl rfl (o_move rfl) ?_
            obtain ⟨hg13, hm2⟩ := grd_some hm2
            refine go_p rfl rfl rfl (o_add rfl rfl (i64_id hg13)) ?_
            refine go_p rfl rfl rfl (o_assign rfl) ?_
            refine go_nil ?_
            exact ⟨_, (_, _), hm2, ⟨rfl, rfl, trivial⟩, ⟨rfl, trivial⟩, [], rfl⟩
        ·
          skip
          refine g_draw 15 Tryz_mixed (by decide +kernel) ?_
          refine gd_p rfl rfl rfl (o_move rfl) ?_
          refine gd_p rfl rfl rfl (o_move rfl) ?_
          refine gd_p rfl rfl rfl (.view (peekE (i := 31) 0 rfl rfl rfl) (o_len Tryz.runUnderlying49 rfl)) ?_
          refine gd_p rfl rfl rfl (o_cmp rfl rfl rfl) ?_
          refine gd_p rfl rfl rfl (o_move rfl) ?_
          refine gd_skip rfl rfl rfl hg_2 rfl rfl ?_
          refine gd_skip rfl rfl rfl hg_2 rfl rfl ?_
          refine gd_skip rfl rfl rfl hg_2 rfl rfl ?_
          refine gd_skip rfl rfl rfl hg_2 rfl rfl ?_
          refine gd_skip rfl rfl rfl hg_2 rfl rfl ?_
          refine gd_skip rfl rfl rfl hg_2 rfl rfl ?_
          refine gd_skip rfl rfl rfl hg_2 rfl rfl ?_
          refine gd_skip rfl rfl rfl hg_2 rfl rfl ?_
          refine gd_skip rfl rfl rfl hg_2 rfl rfl ?_
          refine gd_p rfl rfl rfl (o_pickF rfl hg_2 rfl) ?_
          refine gd_nil ?_
          refine go_nil ?_
          refine g_cond_false rfl rfl ?_
          refine g_skip ?_
          obtain ⟨l6, hx14, hm2⟩ := bind_some hm2
          obtain ⟨hg15, hm2⟩ := grd_some hm2
          obtain ⟨x6, hx16, hm2⟩ := bind_some hm2
          obtain ⟨hg17, hm2⟩ := grd_some hm2
          obtain ⟨l7, hx18, hm2⟩ := bind_some hm2
          obtain ⟨hg19, hm2⟩ := grd_some hm2
          refine g_draw_c [0, 4, 10, 14, 15] [1, 2, 3, 5, 6, 7, 8, 9, 11, 12, 13] [3, 13] Tryz_mixed (by decide +kernel) (by decide +kernel) rfl ?_
          refine gde_e rfl ?_
          refine gde_p rfl rfl rfl rfl rfl rfl (o_move rfl) ?_
          refine gde_p rfl rfl rfl rfl rfl rfl (o_move rfl) ?_
          refine gde_f rfl rfl rfl rfl rfl (.view (peekE (i := 46) 0 rfl rfl rfl) (o_slice_m Tryz.runUnderlying49 Tryz.sizeOf3 rfl rfl ⟨_, rfl⟩ hx14)) ?_
          refine gde_e rfl ?_
          refine gde_p rfl rfl rfl rfl rfl rfl (o_move rfl) ?_
          refine gde_p rfl rfl rfl rfl rfl rfl (o_move rfl) ?_
          refine gde_p rfl rfl rfl rfl rfl rfl (o_indexAddr_m Tryz.runUnderlying49 Tryz.sizeOf3 rfl rfl hx16) ?_
          refine gde_p rfl rfl rfl rfl rfl rfl (o_load Tryz.isAgg3 rfl rfl) ?_
          refine gde_p rfl rfl rfl rfl rfl rfl (o_buildSlice (xs := [_]) (f := D.i64) (l := [_]) Tryz.runUnderlying49 Tryz.sizeOf3 Tryz.zeroValue3 rfl rfl rfl (fun _ => ⟨rfl, rfl, rfl⟩) rfl) ?_
          refine gde_e rfl ?_
          refine gde_p rfl rfl rfl rfl rfl rfl (o_move rfl) ?_
          refine gde_p rfl rfl rfl rfl rfl rfl (o_move rfl) ?_
          refine gde_f rfl rfl rfl rfl rfl (.view (peekE (i := 56) 0 rfl rfl rfl) (o_slice_m Tryz.runUnderlying49 Tryz.sizeOf3 rfl ⟨_, rfl⟩ rfl hx18)) ?_
          refine gde_e rfl ?_
          refine gde_e rfl ?_
          refine gde_nil ?_
          refine gde2_t rfl rfl rfl rfl (o_buildSlice_row (xs := []) (f := D.i64) (l := []) Tryz.runUnderlying49 Tryz.sizeOf3 Tryz.zeroValue3 rfl rfl rfl (fun _ => ⟨rfl, rfl, rfl⟩) rfl (by simp [maxLen])) ?_
          rintro _ _ ⟨a_r3, rfl, rfl⟩
          refine ⟨⟨⟨trivial, .view (peekE (i := 46) 1 rfl rfl rfl) (o_slice_m Tryz.runUnderlying49 Tryz.sizeOf3 rfl rfl ⟨_, rfl⟩ hx14)⟩, .view (peekE (i := 56) 1 rfl rfl rfl) (o_slice_m Tryz.runUnderlying49 Tryz.sizeOf3 rfl ⟨_, rfl⟩ rfl hx18)⟩, ?_⟩
          refine gde2_t rfl rfl rfl rfl (o_append (a := _) 0 Tryz.underlying49 Tryz.type3 rfl rfl rfl rfl rfl rfl rfl (fun _ => rfl) (fun _ => rfl) hg15 (app_len hg15 rfl)) ?_
          rintro _ _ ⟨a_r3, cap_r3, rfl, rfl⟩
          refine ⟨⟨⟨trivial, .view (peekE (i := 46) 1 rfl rfl rfl) (o_slice_m Tryz.runUnderlying49 Tryz.sizeOf3 rfl rfl ⟨_, rfl⟩ hx14)⟩, .view (peekE (i := 56) 1 rfl rfl rfl) (o_slice_m Tryz.runUnderlying49 Tryz.sizeOf3 rfl ⟨_, rfl⟩ rfl hx18)⟩, ?_⟩
          refine gde2_t rfl rfl rfl rfl (o_append (a := _) 0 Tryz.underlying49 Tryz.type3 rfl rfl rfl rfl rfl rfl rfl (fun _ => rfl) (fun _ => rfl) hg17 (app_len hg17 rfl)) ?_
          rintro _ _ ⟨a_r3, cap_r3, rfl, rfl⟩
          refine ⟨⟨⟨trivial, .view (peekE (i := 46) 1 rfl rfl rfl) (o_slice_m Tryz.runUnderlying49 Tryz.sizeOf3 rfl rfl ⟨_, rfl⟩ hx14)⟩, .view (peekE (i := 56) 1 rfl rfl rfl) (o_slice_m Tryz.runUnderlying49 Tryz.sizeOf3 rfl ⟨_, rfl⟩ rfl hx18)⟩, ?_⟩
          refine gde2_t rfl rfl rfl rfl (o_append (a := _) 0 Tryz.underlying49 Tryz.type3 rfl rfl rfl rfl rfl rfl rfl (fun _ => rfl) (fun _ => rfl) hg19 (app_len hg19 rfl)) ?_
          rintro _ _ ⟨a_r3, cap_r3, rfl, rfl⟩
          refine ⟨⟨⟨trivial, .view (peekE (i := 46) 1 rfl rfl rfl) (o_slice_m Tryz.runUnderlying49 Tryz.sizeOf3 rfl rfl ⟨_, rfl⟩ hx14)⟩, .view (peekE (i := 56) 1 rfl rfl rfl) (o_slice_m Tryz.runUnderlying49 Tryz.sizeOf3 rfl ⟨_, rfl⟩ rfl hx18)⟩, ?_⟩
          refine gde2_t rfl rfl rfl rfl (o_assign rfl) ?_
          rintro _ _ ⟨rfl, rfl⟩
          refine ⟨⟨⟨trivial, .view (peekE (i := 46) 1 rfl rfl rfl) (o_slice_m Tryz.runUnderlying49 Tryz.sizeOf3 rfl rfl ⟨_, rfl⟩ hx14)⟩, .view (peekE (i := 56) 1 rfl rfl rfl) (o_slice_m Tryz.runUnderlying49 Tryz.sizeOf3 rfl ⟨_, rfl⟩ rfl hx18)⟩, ?_⟩
          refine gde2_nil ?_
          refine g_conv (refines_shift 0 1 rfl rfl rfl rfl) ?_
          refine g_region ?_
          refine go_p rfl rfl rfl (o_move rfl) ?_
          obtain ⟨hg20, hm2⟩ := grd_some hm2
          refine go_p rfl rfl rfl (o_add rfl rfl (i64_id hg20)) ?_
          refine go_p rfl rfl rfl (o_assign rfl) ?_
          refine go_nil ?_
          exact ⟨_, (_, _), hm2, ⟨rfl, rfl, trivial⟩, ⟨rfl, trivial⟩, [], rfl⟩
    · replace hj1 := cond_f hc1 hj1
      refine g_exit ?_
      exact ⟨_, (_, _), some_eq hj1, ⟨rfl, trivial⟩, trivial, [], rfl⟩
  · rintro l2 ⟨a_r1, cap_r1⟩ hst
    subst hst
    refine k_norm (L' := [(3, .v (.slice a_r1 l2.length cap_r1))]) (ms' := [row a_r1 cap_r1 3 1 D.i64 l2]) rfl rfl ?_
    refine g_seq ?_
    refine g_region ?_
    refine go_p rfl rfl rfl (o_move rfl) ?_
    refine go_p rfl rfl rfl (o_assign rfl) ?_
    refine go_nil ?_
    refine g_conv (peekE (i := 2) 0 rfl rfl rfl).refines ?_
    refine g_ret ?_
    exact retK (ret_one' rfl (ret_tmp rfl) (perm_drop _)) (congrArg (fun (p : (List Int)) => (.list 1 D.i64 p : D)) (some_eq hm1))
def m_syntagmaref28_All_l1 (a1 : AutoAuto) : Nat → (Int × (List Int)) → Option (List Int)
  | 0, _ => none
  | n + 1, (i1, l2) =>
    bif (decide (i1 < (a1.l.length : Int))) then
      (idx a1.l i1).bind fun x1 =>
      grd ((l2.length + x1.vars.length) * 8 ≤ 140737488355328) <|
      grd (InR (i1 + 1)) <|
      m_syntagmaref28_All_l1 a1 n ((i1 + 1), (l2 ++ x1.vars))
    else
      some l2
def m_syntagmaref28_All (a1 : AutoAuto) : Option (List Int) :=
  (m_syntagmaref28_All_l1 a1 FU (0, []) : Option (List Int)).bind fun l1 =>
  (m_syntagmaref15_Set l1).bind fun x2 =>
  some x2
theorem w_syntagmaref28_All {a1 : AutoAuto} {r_1 : (List Int)} (hm : m_syntagmaref28_All a1 = some r_1) : Fn0 Tryz.prog 40 [AutoAuto.d a1] (.list 1 D.i64 r_1) := by
  unfold m_syntagmaref28_All at hm
  refine fn_intro Tryz.func40 rfl Tryz.ntmps40 rfl fun H0 fr w0 => ?_
  refine g_seq ?_
  refine g_region ?_
  refine go_p rfl rfl rfl (o_box rfl rfl) ?_
  refine go_p rfl rfl rfl (o_assign rfl) ?_
  refine go_conv (nilE (i := 2) (sz := 1) (f := D.i64) rfl).refines ?_
  refine go_nil ?_
  refine g_seq ?_
  refine g_region ?_
  refine go_op rfl rfl rfl (o_buildSlice_row (xs := []) (f := D.i64) (l := []) Tryz.runUnderlying49 Tryz.sizeOf3 Tryz.zeroValue3 rfl rfl rfl (fun _ => ⟨rfl, rfl, rfl⟩) rfl (by simp [maxLen])) ?_
  rintro _ _ ⟨a_r1, rfl, rfl⟩
  refine go_p rfl rfl rfl (o_assign rfl) ?_
  refine go_nil ?_
  refine g_seq ?_
  refine g_seq ?_
  refine g_region ?_
  refine go_p rfl rfl rfl (o_assign rfl) ?_
  refine go_nil ?_
  obtain ⟨o_1, hj1, hm1⟩ := bind_some hm
  refine g_cut_m [] [] (fun (st : (List Int)) (hid : (Option Addr × Nat)) => match st, hid with | l1, (a_r1, cap_r1) => [(3, .v (.slice a_r1 l1.length cap_r1))]) (fun F (st : (List Int)) (hid : (Option Addr × Nat)) => match st, hid with | l1, (a_r1, cap_r1) => [row a_r1 cap_r1 3 1 D.i64 l1]) (fun st => st = o_1) trivial trivial ?_ ?_
  · skip
    refine g_block ?_
    refine g_loop_m [(1, _)] [] (fun (st : (Int × (List Int))) (hid : (Option Addr × Nat)) => match st, hid with | (i1, l2), (a_r1, cap_r1) => [(3, .v (.slice a_r1 l2.length cap_r1)), (4, .i64 i1)]) (fun F (st : (Int × (List Int))) (hid : (Option Addr × Nat)) => match st, hid with | (i1, l2), (a_r1, cap_r1) => [row a_r1 cap_r1 3 1 D.i64 l2]) (_, _) hj1 (fun _ => rfl) ⟨rfl, trivial⟩ trivial ⟨rfl, rfl, trivial⟩ rfl ?_
    rintro n ⟨i1, l2⟩ ⟨a_r1, cap_r1⟩ hj1
    rw [m_syntagmaref28_All_l1] at hj1
    refine g_norm (L' := [(3, .v (.slice a_r1 l2.length cap_r1)), (4, .i64 i1), (1, _)]) (ms' := [row a_r1 cap_r1 3 1 D.i64 l2]) rfl rfl ?_
    refine g_seq ?_
    refine g_seq ?_
    refine g_region ?_
    refine go_p rfl rfl rfl (o_move rfl) ?_
    refine go_p rfl rfl rfl (o_fieldAddr fi_24_0 rfl rfl rfl) ?_
    refine go_p rfl rfl rfl (o_load Tryz.isAgg22 rfl rfl) ?_
    refine go_p rfl rfl rfl (o_len Tryz.runUnderlying22 rfl) ?_
    refine go_p rfl rfl rfl (o_cmp rfl rfl rfl) ?_
    refine go_nil ?_
    refine g_cond rfl (fun hc1 => ?_) (fun hc1 => ?_)
    · replace hj1 := cond_t hc1 hj1
      refine g_skip ?_
      refine g_seq ?_
      refine g_block ?_
      refine g_region ?_
      refine go_p rfl rfl rfl (o_move rfl) ?_
      refine go_p rfl rfl rfl (o_fieldAddr fi_24_0 rfl rfl rfl) ?_
      refine go_p rfl rfl rfl (o_load Tryz.isAgg22 rfl rfl) ?_
      refine go_p rfl rfl rfl (o_move rfl) ?_
      obtain ⟨x1, hx1, hj1⟩ := bind_some hj1
      refine go_p rfl rfl rfl (o_indexAddr_m Tryz.runUnderlying22 Tryz.sizeOf52 rfl rfl hx1) ?_
      refine go_p rfl rfl rfl (o_fieldAddr fi_52_8 rfl rfl rfl) ?_
      refine go_p rfl rfl rfl (o_load Tryz.isAgg49 rfl rfl) ?_
      obtain ⟨hg2, hj1⟩ := grd_some hj1
      refine go_op rfl rfl rfl (o_append (a := _) 0 Tryz.underlying49 Tryz.type3 rfl rfl rfl rfl rfl rfl rfl (fun _ => rfl) (fun _ => rfl) hg2 (app_len hg2 rfl)) ?_
      rintro _ _ ⟨a_r1, cap_r1, rfl, rfl⟩
      refine go_ms (ms' := [_]) rfl ?_
      refine go_p rfl rfl rfl (o_assign rfl) ?_
      refine go_nil ?_
      refine g_region ?_
      refine go_p rfl rfl rfl (o_move rfl) ?_
      obtain ⟨hg3, hj1⟩ := grd_some hj1
      refine go_p rfl rfl rfl (o_add rfl rfl (i64_id hg3)) ?_
      refine go_p rfl rfl rfl (o_assign rfl) ?_
      refine go_nil ?_
      exact ⟨_, (_, _), hj1, ⟨rfl, rfl, trivial⟩, ⟨rfl, trivial⟩, [], rfl⟩
    · replace hj1 := cond_f hc1 hj1
      refine g_exit ?_
      exact ⟨_, (_, _), some_eq hj1, ⟨rfl, trivial⟩, trivial, [], rfl⟩
  · rintro l1 ⟨a_r1, cap_r1⟩ hst
    subst hst
    refine k_norm (L' := [(3, .v (.slice a_r1 l1.length cap_r1))]) (ms' := [row a_r1 cap_r1 3 1 D.i64 l1]) rfl rfl ?_
    refine g_seq ?_
    refine g_region ?_
    refine go_p rfl rfl rfl (o_move rfl) ?_
    obtain ⟨x2, hx4, hm1⟩ := bind_some hm1
    refine go_p rfl rfl rfl (.view (peekE (i := 21) 0 rfl rfl rfl) (o_call0 Tryz.call71 rfl (w_syntagmaref15_Set hx4))) ?_
    refine go_p rfl rfl rfl (o_assign rfl) ?_
    refine go_nil ?_
    refine g_ret ?_
    exact retK (ret_one' rfl (ret_tmp rfl) (perm_drop _)) (congrArg (fun (p : (List Int)) => (.list 1 D.i64 p : D)) (some_eq hm1))
def m_syntagmaref28_On_l1 (a1 : AutoAuto) (v1 : Int) (plus1 : Bool) : Nat → Int → Option (Out Bool Unit)
  | 0, _ => none
  | n + 1, i1 =>
    bif (decide (i1 < (a1.l.length : Int))) then
      (idx a1.l i1).bind fun x1 =>
      (bif (x1.plus == plus1) then ((idx a1.l i1).bind fun x2 =>
      (m_syntagmabase_HasInt x2.vars v1).bind fun x3 =>
      some x3) else (some false)).bind fun p1 =>
      bif p1 then
        some (Out.ret true)
      else
        grd (InR (i1 + 1)) <|
        m_syntagmaref28_On_l1 a1 v1 plus1 n (i1 + 1)
    else
      some (Out.go (()))
def m_syntagmaref28_On (a1 : AutoAuto) (v1 : Int) (plus1 : Bool) : Option Bool :=
  ((m_syntagmaref28_On_l1 a1 v1 plus1 FU 0 : Option (Out Bool Unit))).bind (fun oo => oo.on (fun r1 => some r1) (fun _ =>
  some false))
theorem w_syntagmaref28_On {a1 : AutoAuto} {v1 : Int} {plus1 : Bool} {r_1 : Bool} (hm : m_syntagmaref28_On a1 v1 plus1 = some r_1) : Fn0 Tryz.prog 96 [AutoAuto.d a1, .i64 v1, .bool plus1] (.bool r_1) := by
  unfold m_syntagmaref28_On at hm
  refine fn_intro Tryz.func96 rfl Tryz.ntmps96 rfl fun H0 fr w0 => ?_
  refine g_seq ?_
  refine g_region ?_
  refine go_p rfl rfl rfl (o_box rfl rfl) ?_
  refine go_p rfl rfl rfl (o_assign rfl) ?_
  refine go_nil ?_
  refine g_seq ?_
  refine g_seq ?_
  refine g_region ?_
  refine go_p rfl rfl rfl (o_assign rfl) ?_
  refine go_nil ?_
  obtain ⟨o_1, hj1, hm1⟩ := bind_some hm
  refine g_cut_m [] [] (fun (st : Unit) (hid : Unit) => match st, hid with | _, _ => []) (fun F (st : Unit) (hid : Unit) => match st, hid with | _, _ => []) (fun st => Out.go (st) = o_1) trivial trivial ?_ ?_
  · skip
    refine g_block ?_
    refine g_loop_m [(1, _), (2, _), (3, _)] [] (fun (st : Int) (hid : Unit) => match st, hid with | i1, _ => [(7, .i64 i1)]) (fun F (st : Int) (hid : Unit) => match st, hid with | i1, _ => []) () hj1 (fun _ => rfl) ⟨rfl, rfl, rfl, trivial⟩ trivial ⟨rfl, trivial⟩ rfl ?_
    rintro n i1 _ hj1
    rw [m_syntagmaref28_On_l1] at hj1
    refine g_norm (L' := [(7, .i64 i1), (1, _), (2, _), (3, _)]) (ms' := []) rfl rfl ?_
    refine g_seq ?_
    refine g_seq ?_
    refine g_region ?_
    refine go_p rfl rfl rfl (o_move rfl) ?_
    refine go_p rfl rfl rfl (o_fieldAddr fi_24_0 rfl rfl rfl) ?_
    refine go_p rfl rfl rfl (o_load Tryz.isAgg22 rfl rfl) ?_
    refine go_p rfl rfl rfl (o_len Tryz.runUnderlying22 rfl) ?_
    refine go_p rfl rfl rfl (o_cmp rfl rfl rfl) ?_
    refine go_nil ?_
    refine g_cond rfl (fun hc1 => ?_) (fun hc1 => ?_)
    · replace hj1 := cond_t hc1 hj1
      refine g_skip ?_
      refine g_seq ?_
      refine g_block ?_
      refine g_seq ?_
      refine g_region ?_
      refine go_p rfl rfl rfl (o_fieldAddr fi_24_0 rfl rfl rfl) ?_
      refine go_p rfl rfl rfl (o_load Tryz.isAgg22 rfl rfl) ?_
      refine go_p rfl rfl rfl (o_move rfl) ?_
      obtain ⟨x1, hx1, hj1⟩ := bind_some hj1
      refine go_p rfl rfl rfl (o_indexAddr_m Tryz.runUnderlying22 Tryz.sizeOf52 rfl rfl hx1) ?_
      refine go_p rfl rfl rfl (o_fieldAddr fi_52_0 rfl rfl rfl) ?_
      refine go_p rfl rfl rfl (o_load Tryz.isAgg4 rfl rfl) ?_
      refine go_p rfl rfl rfl (o_move rfl) ?_
      refine go_p rfl rfl rfl (o_cmpb Tryz.runUnderlying4 rfl rfl) ?_
      refine go_p rfl rfl rfl (o_move rfl) ?_
      obtain ⟨p1, hp_1, hj1⟩ := bind_some hj1
      refine go_two [(1, _), (2, _), (3, _), (7, _)] 9 32 p1 (t := 23) ⟨rfl, rfl, rfl, rfl, trivial⟩ rfl (fun hg_1 hk1 => ?_) (fun hg_1 hk1 => ?_) ?_
      · replace hp_1 := cond_t hg_1 hp_1
        refine go_wantp rfl rfl rfl hg_1 rfl rfl (o_fieldAddr fi_24_0 rfl rfl rfl) ?_
        refine go_wantp rfl rfl rfl hg_1 rfl rfl (o_load Tryz.isAgg22 rfl rfl) ?_
        refine go_wantp rfl rfl rfl hg_1 rfl rfl (o_move rfl) ?_
        obtain ⟨x2, hx2, hp_1⟩ := bind_some hp_1
        refine go_wantp rfl rfl rfl hg_1 rfl rfl (o_indexAddr_m Tryz.runUnderlying22 Tryz.sizeOf52 rfl rfl hx2) ?_
        refine go_wantp rfl rfl rfl hg_1 rfl rfl (o_fieldAddr fi_52_8 rfl rfl rfl) ?_
        refine go_wantp rfl rfl rfl hg_1 rfl rfl (o_load Tryz.isAgg49 rfl rfl) ?_
        refine go_wantp rfl rfl rfl hg_1 rfl rfl (o_move rfl) ?_
        obtain ⟨x3, hx3, hp_1⟩ := bind_some hp_1
        refine go_wantp rfl rfl rfl hg_1 rfl rfl (o_call0 Tryz.call35 rfl (w_syntagmabase_HasInt hx3)) ?_
        refine go_p rfl rfl rfl (o_pickT rfl hg_1 rfl) ?_
        exact go_meet hk1 (congrArg (fun b => some (D.bool b)) (some_eq hp_1)) ⟨rfl, rfl, rfl, rfl, trivial⟩
      · replace hp_1 := cond_f hg_1 hp_1
        refine go_skip rfl rfl rfl hg_1 rfl rfl ?_
        refine go_skip rfl rfl rfl hg_1 rfl rfl ?_
        refine go_skip rfl rfl rfl hg_1 rfl rfl ?_
        refine go_skip rfl rfl rfl hg_1 rfl rfl ?_
        refine go_skip rfl rfl rfl hg_1 rfl rfl ?_
        refine go_skip rfl rfl rfl hg_1 rfl rfl ?_
        refine go_skip rfl rfl rfl hg_1 rfl rfl ?_
        refine go_skip rfl rfl rfl hg_1 rfl rfl ?_
        refine go_p rfl rfl rfl (o_pickF rfl hg_1 rfl) ?_
        exact go_meet hk1 (congrArg (fun b => some (D.bool b)) (some_eq hp_1)) ⟨rfl, rfl, rfl, rfl, trivial⟩
      refine go_nil ?_
      refine g_cond rfl (fun hc2 => ?_) (fun hc2 => ?_)
      · replace hj1 := cond_t hc2 hj1
        refine g_seq ?_
        refine g_region ?_
        refine go_p rfl rfl rfl (o_assign rfl) ?_
        refine go_nil ?_
        refine g_ret ?_
        obtain rfl := some_eq hj1
        replace hm1 := on_ret hm1
        exact retK (ret_one' rfl (ret_tmp rfl) (perm_drop _)) (congrArg (fun (p : Bool) => (.bool p : D)) (some_eq hm1))
      · replace hj1 := cond_f hc2 hj1
        refine g_skip ?_
        refine g_region ?_
        refine go_p rfl rfl rfl (o_move rfl) ?_
        obtain ⟨hg4, hj1⟩ := grd_some hj1
        refine go_p rfl rfl rfl (o_add rfl rfl (i64_id hg4)) ?_
        refine go_p rfl rfl rfl (o_assign rfl) ?_
        refine go_nil ?_
        exact ⟨_, (), hj1, ⟨rfl, trivial⟩, ⟨rfl, rfl, rfl, trivial⟩, [], rfl⟩
    · replace hj1 := cond_f hc1 hj1
      refine g_exit ?_
      exact ⟨_, (), some_eq hj1, trivial, trivial, [], rfl⟩
  · rintro _ _ hst
    subst hst
    replace hm1 := on_go hm1
    refine k_norm (L' := []) (ms' := []) rfl rfl ?_
    refine g_seq ?_
    refine g_region ?_
    refine go_p rfl rfl rfl (o_assign rfl) ?_
    refine go_nil ?_
    refine g_ret ?_
    exact retK (ret_one' rfl (ret_tmp rfl) (perm_drop _)) (congrArg (fun (p : Bool) => (.bool p : D)) (some_eq hm1))
def m_syntagmaref29_stands (a1 : AutoAuto) (v1 : Int) : Option Bool :=
  (m_syntagmaref28_On a1 v1 true).bind fun x1 =>
  (bif x1 then ((m_syntagmaref28_On a1 v1 false).bind fun x2 =>
  some x2) else (some false)).bind fun p1 =>
  some p1
theorem w_syntagmaref29_stands {a1 : AutoAuto} {v1 : Int} {r_1 : Bool} (hm : m_syntagmaref29_stands a1 v1 = some r_1) : Fn0 Tryz.prog 70 [AutoAuto.d a1, .i64 v1] (.bool r_1) := by
  unfold m_syntagmaref29_stands at hm
  refine fn_intro Tryz.func70 rfl Tryz.ntmps70 rfl fun H0 fr w0 => ?_
  refine g_seq ?_
  refine g_region ?_
  refine go_p rfl rfl rfl (o_box rfl rfl) ?_
  refine go_p rfl rfl rfl (o_assign rfl) ?_
  refine go_nil ?_
  refine g_seq ?_
  refine g_region ?_
  refine go_p rfl rfl rfl (o_load_agg Tryz.isAgg24 Tryz.sizeOf24 rfl rfl) ?_
  refine go_p rfl rfl rfl (o_move rfl) ?_
  obtain ⟨x1, hx1, hm⟩ := bind_some hm
  refine go_p rfl rfl rfl (o_call0 Tryz.call96 rfl (w_syntagmaref28_On hx1)) ?_
  refine go_p rfl rfl rfl (o_move rfl) ?_
  obtain ⟨p1, hp_1, hm⟩ := bind_some hm
  refine go_two [] 4 12 p1 (t := 8) trivial rfl (fun hg_1 hk1 => ?_) (fun hg_1 hk1 => ?_) ?_
  · replace hp_1 := cond_t hg_1 hp_1
    refine go_wantp rfl rfl rfl hg_1 rfl rfl (o_load_agg Tryz.isAgg24 Tryz.sizeOf24 rfl rfl) ?_
    refine go_wantp rfl rfl rfl hg_1 rfl rfl (o_move rfl) ?_
    obtain ⟨x2, hx2, hp_1⟩ := bind_some hp_1
    refine go_wantp rfl rfl rfl hg_1 rfl rfl (o_call0 Tryz.call96 rfl (w_syntagmaref28_On hx2)) ?_
    refine go_p rfl rfl rfl (o_pickT rfl hg_1 rfl) ?_
    exact go_meet hk1 (congrArg (fun b => some (D.bool b)) (some_eq hp_1)) trivial
  · replace hp_1 := cond_f hg_1 hp_1
    refine go_skip rfl rfl rfl hg_1 rfl rfl ?_
    refine go_skip rfl rfl rfl hg_1 rfl rfl ?_
    refine go_skip rfl rfl rfl hg_1 rfl rfl ?_
    refine go_p rfl rfl rfl (o_pickF rfl hg_1 rfl) ?_
    exact go_meet hk1 (congrArg (fun b => some (D.bool b)) (some_eq hp_1)) trivial
  refine go_p rfl rfl rfl (o_assign rfl) ?_
  refine go_nil ?_
  refine g_ret ?_
  exact retK (ret_one' rfl (ret_tmp rfl) (perm_drop _)) (congrArg (fun (p : Bool) => (.bool p : D)) (some_eq hm))
def m_syntagmaref29_one_l2 (a1 : AutoAuto) (x1 : (List Int)) (i1 : Int) : Nat → Int → Option (Out (Int × Int × Bool) Unit)
  | 0, _ => none
  | n + 1, k1 =>
    bif (decide (k1 < (x1.length : Int))) then
      (idx x1 i1).bind fun x2 =>
      (m_syntagmaref29_stands a1 x2).bind fun x3 =>
      bif x3 then ((idx x1 k1).bind fun x4 =>
      (m_syntagmaref29_stands a1 x4).bind fun x5 =>
      bif x5 then ((idx x1 i1).bind fun x6 =>
      (idx x1 k1).bind fun x7 =>
      (m_syntagmaref29_Together a1 x6 x7 true).bind fun x8 =>
      bif x8 then ((idx x1 i1).bind fun x9 =>
      (idx x1 k1).bind fun x10 =>
      some (Out.ret (x9, x10, true))) else ((idx x1 i1).bind fun x11 =>
      (idx x1 k1).bind fun x12 =>
      (m_syntagmaref29_Together a1 x11 x12 false).bind fun x13 =>
      bif x13 then
        (idx x1 i1).bind fun x14 =>
        (idx x1 k1).bind fun x15 =>
        some (Out.ret (x14, x15, true))
      else
        grd (InR (k1 + 1)) <|
        m_syntagmaref29_one_l2 a1 x1 i1 n (k1 + 1))) else (grd (InR (k1 + 1)) <|
      m_syntagmaref29_one_l2 a1 x1 i1 n (k1 + 1))) else (grd (InR (k1 + 1)) <|
      m_syntagmaref29_one_l2 a1 x1 i1 n (k1 + 1))
    else
      some (Out.go (()))
def m_syntagmaref29_one_l1 (a1 : AutoAuto) (x1 : (List Int)) : Nat → Int → Option (Out (Int × Int × Bool) Unit)
  | 0, _ => none
  | n + 1, i1 =>
    bif (decide (i1 < (x1.length : Int))) then
      grd (InR (i1 + 1)) <|
      ((m_syntagmaref29_one_l2 a1 x1 i1 FU (i1 + 1) : Option (Out (Int × Int × Bool) Unit))).bind (fun oo => oo.on (fun r1 => some (Out.ret r1)) (fun _ =>
      grd (InR (i1 + 1)) <|
      m_syntagmaref29_one_l1 a1 x1 n (i1 + 1)))
    else
      some (Out.go (()))
def m_syntagmaref29_one (a1 : AutoAuto) : Option (Int × Int × Bool) :=
  (m_syntagmaref28_All a1).bind fun x1 =>
  ((m_syntagmaref29_one_l1 a1 x1 FU 0 : Option (Out (Int × Int × Bool) Unit))).bind (fun oo => oo.on (fun r2 => some r2) (fun _ =>
  some (0, 0, false)))
def m_syntagmaref28_With_l3 (from1 : (List Int)) (to1 : (List Int)) (x1 : AutoState) (k1 : Int) : Nat → (Int × (List Int)) → Option (List Int)
  | 0, _ => none
  | n + 1, (j1, l6) =>
    bif (decide (j1 < (from1.length : Int))) then
      (idx from1 j1).bind fun x2 =>
      (idx x1.vars k1).bind fun x3 =>
      bif (decide (x2 = x3)) then ((idx to1 j1).bind fun x4 =>
      bif (decide (0 ≤ x4)) then
        (idx to1 j1).bind fun x5 =>
        grd ((l6.length + ([x5] : List _).length) * 8 ≤ 140737488355328) <|
        grd (InR (j1 + 1)) <|
        m_syntagmaref28_With_l3 from1 to1 x1 k1 n ((j1 + 1), (l6 ++ [x5]))
      else
        grd (InR (j1 + 1)) <|
        m_syntagmaref28_With_l3 from1 to1 x1 k1 n ((j1 + 1), l6)) else (grd (InR (j1 + 1)) <|
      m_syntagmaref28_With_l3 from1 to1 x1 k1 n ((j1 + 1), l6))
    else
      some l6
def m_syntagmaref28_With_l2 (from1 : (List Int)) (to1 : (List Int)) (x1 : AutoState) : Nat → (Int × (List Int)) → Option (List Int)
  | 0, _ => none
  | n + 1, (k1, l4) =>
    bif (decide (k1 < (x1.vars.length : Int))) then
      (m_syntagmaref28_With_l3 from1 to1 x1 k1 FU (0, l4) : Option (List Int)).bind fun l5 =>
      grd (InR (k1 + 1)) <|
      m_syntagmaref28_With_l2 from1 to1 x1 n ((k1 + 1), l5)
    else
      some l4
def m_syntagmaref28_With_l1 (a1 : AutoAuto) (from1 : (List Int)) (to1 : (List Int)) : Nat → (Int × (List AutoState) × Int) → Option ((List AutoState) × Int)
  | 0, _ => none
  | n + 1, (i1, l2, z2) =>
    bif (decide (i1 < (a1.l.length : Int))) then
      (idx a1.l i1).bind fun x1 =>
      (m_syntagmaref28_With_l2 from1 to1 x1 FU (0, []) : Option (List Int)).bind fun l3 =>
      (m_syntagmaref15_Set l3).bind fun x6 =>
      grd ((l2.length + ([(⟨x1.plus, x1.all, x1.int, x1.bool, x1.str, x1.arrow, x1.rec_, x1.tag, x6, x1.dom, x1.cod, x1.fields, x1.tags⟩ : AutoState)] : List _).length) * 96 ≤ 140737488355328) <|
      grd (InR (i1 + 1)) <|
      m_syntagmaref28_With_l1 a1 from1 to1 n ((i1 + 1), (l2 ++ [(⟨x1.plus, x1.all, x1.int, x1.bool, x1.str, x1.arrow, x1.rec_, x1.tag, x6, x1.dom, x1.cod, x1.fields, x1.tags⟩ : AutoState)]), z2)
    else
      some (l2, z2)
def m_syntagmaref28_With (a1 : AutoAuto) (from1 : (List Int)) (to1 : (List Int)) : Option AutoAuto :=
  (m_syntagmaref28_With_l1 a1 from1 to1 FU (0, ([] : List AutoState), a1.start) : Option ((List AutoState) × Int)).bind fun (l1, z1) =>
  some (⟨l1, z1⟩ : AutoAuto)
theorem w_syntagmaref28_With {a1 : AutoAuto} {from1 : (List Int)} {to1 : (List Int)} {r_1 : AutoAuto} (hm : m_syntagmaref28_With a1 from1 to1 = some r_1) : Fn0 Tryz.prog 41 [AutoAuto.d a1, .list 1 D.i64 from1, .list 1 D.i64 to1] (AutoAuto.d r_1) := by
  unfold m_syntagmaref28_With at hm
  refine fn_intro Tryz.func41 rfl Tryz.ntmps41 rfl fun H0 fr w0 => ?_
  refine g_seq ?_
  refine g_region ?_
  refine go_p rfl rfl rfl (o_box rfl rfl) ?_
  refine go_op rfl rfl rfl (o_alloc_own Tryz.zeroValue24 (cs := [.list 13 AutoState.d [], .i64 0]) rfl) ?_
  rintro _ _ ⟨b1, rfl, rfl⟩
  refine go_nil ?_
  refine g_seq ?_
  refine g_region ?_
  refine go_p rfl rfl rfl (o_fieldAddr fi_24_1 rfl rfl rfl) ?_
  refine go_p rfl rfl rfl (o_load Tryz.isAgg3 rfl rfl) ?_
  refine go_p rfl rfl rfl (o_build (zs := [.v (.slice none 0 0), .v (.int .i64 0)]) Tryz.runUnderlying24 Tryz.zeroValue24 (pl_24 _ Tryz.runUnderlying24) rfl rfl rfl rfl) ?_
  refine go_op rfl rfl rfl (o_alloc_own Tryz.zeroValue24 (cs := [.list 13 AutoState.d [], .i64 0]) rfl) ?_
  rintro _ _ ⟨b2, rfl, rfl⟩
  refine go_u rfl rfl (o_store_box 0 Tryz.sizeOf24 rfl rfl rfl rfl rfl rfl rfl rfl (Nat.le_of_ble_eq_true rfl)) ?_
  rintro _ _ rfl
  refine go_conv (refines_newrow (T := 52) (sz := 13) (f := AutoState.d)) ?_
  refine go_ms (ms' := [_, box b2 24 [_, _], box b1 24 [_, _]]) rfl ?_
  refine go_nil ?_
  refine g_seq ?_
  refine g_seq ?_
  refine g_region ?_
  refine go_p rfl rfl rfl (o_assign rfl) ?_
  refine go_nil ?_
  obtain ⟨o_1, hj1, hm1⟩ := bind_some hm
  refine g_cut_m [(6, _), (7, _)] [(2, _)] (fun (st : ((List AutoState) × Int)) (hid : (Option Addr × Nat)) => match st, hid with | (l1, z1), (a_r1, cap_r1) => []) (fun F (st : ((List AutoState) × Int)) (hid : (Option Addr × Nat)) => match st, hid with | (l1, z1), (a_r1, cap_r1) => [row a_r1 cap_r1 52 13 AutoState.d l1, box b2 24 [.v (.slice a_r1 l1.length cap_r1), .i64 z1], (nthF F 0)]) (fun st => st = o_1) ⟨rfl, rfl, trivial⟩ ⟨rfl, trivial⟩ ?_ ?_
  · skip
    refine g_block ?_
    refine g_loop_m [(1, _), (2, _), (3, _), (6, _), (7, _)] [(2, _)] (fun (st : (Int × (List AutoState) × Int)) (hid : (Option Addr × Nat)) => match st, hid with | (i1, l2, z2), (a_r1, cap_r1) => [(8, .i64 i1)]) (fun F (st : (Int × (List AutoState) × Int)) (hid : (Option Addr × Nat)) => match st, hid with | (i1, l2, z2), (a_r1, cap_r1) => [row a_r1 cap_r1 52 13 AutoState.d l2, box b2 24 [.v (.slice a_r1 l2.length cap_r1), .i64 z2], (nthF F 0)]) (_, _) hj1 (fun _ => rfl) ⟨rfl, rfl, rfl, rfl, rfl, trivial⟩ ⟨rfl, trivial⟩ ⟨rfl, trivial⟩ rfl ?_
    rintro n ⟨i1, l2, z2⟩ ⟨a_r1, cap_r1⟩ hj1
    rw [m_syntagmaref28_With_l1] at hj1
    refine g_norm (L' := [(8, .i64 i1), (1, _), (2, _), (3, _), (6, _), (7, _)]) (ms' := [row a_r1 cap_r1 52 13 AutoState.d l2, box b2 24 [.v (.slice a_r1 l2.length cap_r1), .i64 z2], _]) rfl rfl ?_
    refine g_seq ?_
    refine g_seq ?_
    refine g_region ?_
    refine go_p rfl rfl rfl (o_move rfl) ?_
    refine go_p rfl rfl rfl (o_fieldAddr fi_24_0 rfl rfl rfl) ?_
    refine go_p rfl rfl rfl (o_load Tryz.isAgg22 rfl rfl) ?_
    refine go_p rfl rfl rfl (o_len Tryz.runUnderlying22 rfl) ?_
    refine go_p rfl rfl rfl (o_cmp rfl rfl rfl) ?_
    refine go_nil ?_
    refine g_cond rfl (fun hc1 => ?_) (fun hc1 => ?_)
    · replace hj1 := cond_t hc1 hj1
      refine g_skip ?_
      refine g_seq ?_
      refine g_block ?_
      refine g_seq ?_
      refine g_region ?_
      refine go_p rfl rfl rfl (o_fieldAddr fi_24_0 rfl rfl rfl) ?_
      refine go_p rfl rfl rfl (o_load Tryz.isAgg22 rfl rfl) ?_
      refine go_p rfl rfl rfl (o_move rfl) ?_
      obtain ⟨x1, hx1, hj1⟩ := bind_some hj1
      refine go_p rfl rfl rfl (o_indexAddr_m Tryz.runUnderlying22 Tryz.sizeOf52 rfl rfl hx1) ?_
      refine go_p rfl rfl rfl (o_load_agg Tryz.isAgg52 Tryz.sizeOf52 rfl rfl) ?_
      refine go_op rfl rfl rfl (o_buildSlice_row (xs := []) (f := D.i64) (l := []) Tryz.runUnderlying49 Tryz.sizeOf3 Tryz.zeroValue3 rfl rfl rfl (fun _ => ⟨rfl, rfl, rfl⟩) rfl (by simp [maxLen])) ?_
      rintro _ _ ⟨a_r2, rfl, rfl⟩
      refine go_op rfl rfl rfl (o_alloc_own Tryz.zeroValue52 (cs := [.bool false, .bool false, .bool false, .bool false, .bool false, .bool false, .bool false, .bool false, .list 1 D.i64 [], .i64 0, .i64 0, .list 2 AutoEdge.d [], .list 2 AutoEdge.d []]) rfl) ?_
      rintro _ _ ⟨b3, rfl, rfl⟩
      refine go_u rfl rfl (o_store_box 0 Tryz.sizeOf52 rfl rfl rfl rfl rfl rfl rfl rfl (Nat.le_of_ble_eq_true rfl)) ?_
      rintro _ _ rfl
      refine go_ms (ms' := [box b3 52 [_, _, _, _, _, _, _, _, _, _, _, _, _], _, _, box b2 24 [_, _], box b1 24 [_, _]]) rfl ?_
      refine go_p rfl rfl rfl (o_assign rfl) ?_
      refine go_nil ?_
      refine g_seq ?_
      refine g_seq ?_
      refine g_region ?_
      refine go_p rfl rfl rfl (o_assign rfl) ?_
      refine go_nil ?_
      obtain ⟨o_2, hj2, hm2⟩ := bind_some hj1
      refine g_cut_m [(1, _), (2, _), (3, _), (6, _), (7, _), (8, _), (9, _)] [(0, _), (2, _), (3, _), (4, _)] (fun (st : (List Int)) (hid : (Option Addr × Nat)) => match st, hid with | l3, (a_r2, cap_r2) => [(10, .v (.slice a_r2 l3.length cap_r2))]) (fun F (st : (List Int)) (hid : (Option Addr × Nat)) => match st, hid with | l3, (a_r2, cap_r2) => [(nthF F 0), row a_r2 cap_r2 3 1 D.i64 l3, (nthF F 1), (nthF F 2), (nthF F 3)]) (fun st => st = o_2) ⟨rfl, rfl, rfl, rfl, rfl, rfl, rfl, trivial⟩ ⟨rfl, rfl, rfl, rfl, trivial⟩ ?_ ?_
      · skip
        refine g_block ?_
        refine g_loop_m [(1, _), (2, _), (3, _), (6, _), (7, _), (8, _), (9, _)] [(0, _), (2, _), (3, _), (4, _)] (fun (st : (Int × (List Int))) (hid : (Option Addr × Nat)) => match st, hid with | (k1, l4), (a_r2, cap_r2) => [(10, .v (.slice a_r2 l4.length cap_r2)), (11, .i64 k1)]) (fun F (st : (Int × (List Int))) (hid : (Option Addr × Nat)) => match st, hid with | (k1, l4), (a_r2, cap_r2) => [(nthF F 0), row a_r2 cap_r2 3 1 D.i64 l4, (nthF F 1), (nthF F 2), (nthF F 3)]) (_, _) hj2 (fun _ => rfl) ⟨rfl, rfl, rfl, rfl, rfl, rfl, rfl, trivial⟩ ⟨rfl, rfl, rfl, rfl, trivial⟩ ⟨rfl, rfl, trivial⟩ rfl ?_
        rintro n ⟨k1, l4⟩ ⟨a_r2, cap_r2⟩ hj2
        rw [m_syntagmaref28_With_l2] at hj2
        refine g_norm (L' := [(10, .v (.slice a_r2 l4.length cap_r2)), (11, .i64 k1), (1, _), (2, _), (3, _), (6, _), (7, _), (8, _), (9, _)]) (ms' := [_, row a_r2 cap_r2 3 1 D.i64 l4, _, _, _]) rfl rfl ?_
        refine g_seq ?_
        refine g_seq ?_
        refine g_region ?_
        refine go_p rfl rfl rfl (o_move rfl) ?_
        refine go_p rfl rfl rfl (o_fieldAddr_box fi_52_8 rfl) ?_
        refine go_p rfl rfl rfl (o_load_box 0 Tryz.isAgg49 rfl rfl rfl rfl) ?_
        refine go_p rfl rfl rfl (o_len Tryz.runUnderlying49 rfl) ?_
        refine go_p rfl rfl rfl (o_cmp rfl rfl rfl) ?_
        refine go_nil ?_
        refine g_cond rfl (fun hc2 => ?_) (fun hc2 => ?_)
        · replace hj2 := cond_t hc2 hj2
          refine g_skip ?_
          refine g_seq ?_
          refine g_block ?_
          refine g_seq ?_
          refine g_region ?_
          refine go_p rfl rfl rfl (o_assign rfl) ?_
          refine go_nil ?_
          obtain ⟨o_3, hj3, hm3⟩ := bind_some hj2
          refine g_cut_m [(1, _), (2, _), (3, _), (6, _), (7, _), (8, _), (9, _), (11, _)] [(0, _), (2, _), (3, _), (4, _)] (fun (st : (List Int)) (hid : (Option Addr × Nat)) => match st, hid with | l5, (a_r2, cap_r2) => [(10, .v (.slice a_r2 l5.length cap_r2))]) (fun F (st : (List Int)) (hid : (Option Addr × Nat)) => match st, hid with | l5, (a_r2, cap_r2) => [(nthF F 0), row a_r2 cap_r2 3 1 D.i64 l5, (nthF F 1), (nthF F 2), (nthF F 3)]) (fun st => st = o_3) ⟨rfl, rfl, rfl, rfl, rfl, rfl, rfl, rfl, trivial⟩ ⟨rfl, rfl, rfl, rfl, trivial⟩ ?_ ?_
          · skip
            refine g_block ?_
            refine g_loop_m [(1, _), (2, _), (3, _), (6, _), (7, _), (8, _), (9, _), (11, _)] [(0, _), (2, _), (3, _), (4, _)] (fun (st : (Int × (List Int))) (hid : (Option Addr × Nat)) => match st, hid with | (j1, l6), (a_r2, cap_r2) => [(10, .v (.slice a_r2 l6.length cap_r2)), (12, .i64 j1)]) (fun F (st : (Int × (List Int))) (hid : (Option Addr × Nat)) => match st, hid with | (j1, l6), (a_r2, cap_r2) => [(nthF F 0), row a_r2 cap_r2 3 1 D.i64 l6, (nthF F 1), (nthF F 2), (nthF F 3)]) (_, _) hj3 (fun _ => rfl) ⟨rfl, rfl, rfl, rfl, rfl, rfl, rfl, rfl, trivial⟩ ⟨rfl, rfl, rfl, rfl, trivial⟩ ⟨rfl, rfl, trivial⟩ rfl ?_
            rintro n ⟨j1, l6⟩ ⟨a_r2, cap_r2⟩ hj3
            rw [m_syntagmaref28_With_l3] at hj3
            refine g_norm (L' := [(10, .v (.slice a_r2 l6.length cap_r2)), (12, .i64 j1), (1, _), (2, _), (3, _), (6, _), (7, _), (8, _), (9, _), (11, _)]) (ms' := [_, row a_r2 cap_r2 3 1 D.i64 l6, _, _, _]) rfl rfl ?_
            refine g_seq ?_
            refine g_seq ?_
            refine g_region ?_
            refine go_p rfl rfl rfl (o_move rfl) ?_
            refine go_p rfl rfl rfl (o_move rfl) ?_
            refine go_p rfl rfl rfl (o_len Tryz.runUnderlying49 rfl) ?_
            refine go_p rfl rfl rfl (o_cmp rfl rfl rfl) ?_
            refine go_nil ?_
            refine g_cond rfl (fun hc3 => ?_) (fun hc3 => ?_)
            · replace hj3 := cond_t hc3 hj3
              refine g_skip ?_
              refine g_seq ?_
              refine g_block ?_
              refine g_seq ?_
              obtain ⟨x2, hx2, hj3⟩ := bind_some hj3
              obtain ⟨x3, hx3, hj3⟩ := bind_some hj3
              rcases cond_split hj3 with ⟨hg_1, hj3⟩ | ⟨hg_1, hj3⟩
              ·
                skip
                obtain ⟨x4, hx4, hj3⟩ := bind_some hj3
                refine g_draw 17 Tryz_mixed (by decide +kernel) ?_
                refine gd_p rfl rfl rfl (o_move rfl) ?_
                refine gd_p rfl rfl rfl (o_move rfl) ?_
                refine gd_p rfl rfl rfl (o_indexAddr_m Tryz.runUnderlying49 Tryz.sizeOf3 rfl rfl hx2) ?_
                refine gd_p rfl rfl rfl (o_load Tryz.isAgg3 rfl rfl) ?_
                refine gd_p rfl rfl rfl (o_fieldAddr_box fi_52_8 rfl) ?_
                refine gd_p rfl rfl rfl (o_load_box 0 Tryz.isAgg49 rfl rfl rfl rfl) ?_
                refine gd_p rfl rfl rfl (o_move rfl) ?_
                refine gd_p rfl rfl rfl (o_indexAddr_m Tryz.runUnderlying49 Tryz.sizeOf3 rfl rfl hx3) ?_
                refine gd_p rfl rfl rfl (o_load Tryz.isAgg3 rfl rfl) ?_
                refine gd_p rfl rfl rfl (o_cmp rfl rfl rfl) ?_
                refine gd_p rfl rfl rfl (o_move rfl) ?_
                refine gd_want rfl rfl rfl hg_1 rfl rfl (o_move rfl) ?_
                refine gd_want rfl rfl rfl hg_1 rfl rfl (o_move rfl) ?_
                refine gd_want rfl rfl rfl hg_1 rfl rfl (o_indexAddr_m Tryz.runUnderlying49 Tryz.sizeOf3 rfl rfl hx4) ?_
                refine gd_want rfl rfl rfl hg_1 rfl rfl (o_load Tryz.isAgg3 rfl rfl) ?_
                refine gd_want rfl rfl rfl hg_1 rfl rfl (o_cmp rfl rfl rfl) ?_
                refine gd_p rfl rfl rfl (o_pickT rfl hg_1 rfl) ?_
                refine gd_nil ?_
                refine go_nil ?_
                refine g_cond rfl (fun hc4 => ?_) (fun hc4 => ?_)
                · replace hj3 := cond_t hc4 hj3
                  refine g_region ?_
                  refine go_p rfl rfl rfl (o_move rfl) ?_
                  refine go_p rfl rfl rfl (o_move rfl) ?_
                  refine go_p rfl rfl rfl (o_move rfl) ?_
                  obtain ⟨x5, hx5, hj3⟩ := bind_some hj3
                  refine go_p rfl rfl rfl (o_indexAddr_m Tryz.runUnderlying49 Tryz.sizeOf3 rfl rfl hx5) ?_
                  refine go_p rfl rfl rfl (o_load Tryz.isAgg3 rfl rfl) ?_
                  refine go_p rfl rfl rfl (o_buildSlice (xs := [_]) (f := D.i64) (l := [_]) Tryz.runUnderlying49 Tryz.sizeOf3 Tryz.zeroValue3 rfl rfl rfl (fun _ => ⟨rfl, rfl, rfl⟩) rfl) ?_
                  obtain ⟨hg6, hj3⟩ := grd_some hj3
                  refine go_op rfl rfl rfl (o_append (a := _) 1 Tryz.underlying49 Tryz.type3 rfl rfl rfl rfl rfl rfl rfl (fun _ => rfl) (fun _ => rfl) hg6 (app_len hg6 rfl)) ?_
                  rintro _ _ ⟨a_r2, cap_r2, rfl, rfl⟩
                  refine go_ms (ms' := [box b3 52 [_, _, _, _, _, _, _, _, _, _, _, _, _], _, _, box b2 24 [_, _], box b1 24 [_, _]]) rfl ?_
                  refine go_p rfl rfl rfl (o_assign rfl) ?_
                  refine go_nil ?_
                  refine g_region ?_
                  refine go_p rfl rfl rfl (o_move rfl) ?_
                  obtain ⟨hg7, hj3⟩ := grd_some hj3
                  refine go_p rfl rfl rfl (o_add rfl rfl (i64_id hg7)) ?_
                  refine go_p rfl rfl rfl (o_assign rfl) ?_
                  refine go_nil ?_
                  exact ⟨_, (_, _), hj3, ⟨rfl, rfl, trivial⟩, ⟨rfl, rfl, rfl, rfl, rfl, rfl, rfl, rfl, trivial⟩, [], rfl⟩
                · replace hj3 := cond_f hc4 hj3
                  refine g_skip ?_
                  refine g_region ?_
                  refine go_p rfl rfl rfl (o_move rfl) ?_
                  obtain ⟨hg8, hj3⟩ := grd_some hj3
                  refine go_p rfl rfl rfl (o_add rfl rfl (i64_id hg8)) ?_
                  refine go_p rfl rfl rfl (o_assign rfl) ?_
                  refine go_nil ?_
                  exact ⟨_, (_, _), hj3, ⟨rfl, rfl, trivial⟩, ⟨rfl, rfl, rfl, rfl, rfl, rfl, rfl, rfl, trivial⟩, [], rfl⟩
              ·
                skip
                refine g_draw 17 Tryz_mixed (by decide +kernel) ?_
                refine gd_p rfl rfl rfl (o_move rfl) ?_
                refine gd_p rfl rfl rfl (o_move rfl) ?_
                refine gd_p rfl rfl rfl (o_indexAddr_m Tryz.runUnderlying49 Tryz.sizeOf3 rfl rfl hx2) ?_
                refine gd_p rfl rfl rfl (o_load Tryz.isAgg3 rfl rfl) ?_
                refine gd_p rfl rfl rfl (o_fieldAddr_box fi_52_8 rfl) ?_
                refine gd_p rfl rfl rfl (o_load_box 0 Tryz.isAgg49 rfl rfl rfl rfl) ?_
                refine gd_p rfl rfl rfl (o_move rfl) ?_
                refine gd_p rfl rfl rfl (o_indexAddr_m Tryz.runUnderlying49 Tryz.sizeOf3 rfl rfl hx3) ?_
                refine gd_p rfl rfl rfl (o_load Tryz.isAgg3 rfl rfl) ?_
                refine gd_p rfl rfl rfl (o_cmp rfl rfl rfl) ?_
                refine gd_p rfl rfl rfl (o_move rfl) ?_
                refine gd_skip rfl rfl rfl hg_1 rfl rfl ?_
                refine gd_skip rfl rfl rfl hg_1 rfl rfl ?_
                refine gd_skip rfl rfl rfl hg_1 rfl rfl ?_
                refine gd_skip rfl rfl rfl hg_1 rfl rfl ?_
                refine gd_skip rfl rfl rfl hg_1 rfl rfl ?_
                refine gd_p rfl rfl rfl (o_pickF rfl hg_1 rfl) ?_
                refine gd_nil ?_
                refine go_nil ?_
                refine g_cond_false rfl rfl ?_
                refine g_skip ?_
                refine g_region ?_
                refine go_p rfl rfl rfl (o_move rfl) ?_
                obtain ⟨hg9, hj3⟩ := grd_some hj3
                refine go_p rfl rfl rfl (o_add rfl rfl (i64_id hg9)) ?_
                refine go_p rfl rfl rfl (o_assign rfl) ?_
                refine go_nil ?_
                exact ⟨_, (_, _), hj3, ⟨rfl, rfl, trivial⟩, ⟨rfl, rfl, rfl, rfl, rfl, rfl, rfl, rfl, trivial⟩, [], rfl⟩
            · replace hj3 := cond_f hc3 hj3
              refine g_exit ?_
              exact ⟨_, (_, _), some_eq hj3, ⟨rfl, trivial⟩, ⟨rfl, rfl, rfl, rfl, rfl, rfl, rfl, rfl, trivial⟩, [], rfl⟩
          · rintro l5 ⟨a_r2, cap_r2⟩ hst
            subst hst
            refine k_norm (L' := [(10, .v (.slice a_r2 l5.length cap_r2)), (1, _), (2, _), (3, _), (6, _), (7, _), (8, _), (9, _), (11, _)]) (ms' := [_, row a_r2 cap_r2 3 1 D.i64 l5, _, _, _]) rfl rfl ?_
            refine g_region ?_
            refine go_p rfl rfl rfl (o_move rfl) ?_
            obtain ⟨hg10, hm3⟩ := grd_some hm3
            refine go_p rfl rfl rfl (o_add rfl rfl (i64_id hg10)) ?_
            refine go_p rfl rfl rfl (o_assign rfl) ?_
            refine go_nil ?_
            exact ⟨_, (_, _), hm3, ⟨rfl, rfl, trivial⟩, ⟨rfl, rfl, rfl, rfl, rfl, rfl, rfl, trivial⟩, [], rfl⟩
        · replace hj2 := cond_f hc2 hj2
          refine g_exit ?_
          exact ⟨_, (_, _), some_eq hj2, ⟨rfl, trivial⟩, ⟨rfl, rfl, rfl, rfl, rfl, rfl, rfl, trivial⟩, [], rfl⟩
      · rintro l3 ⟨a_r2, cap_r2⟩ hst
        subst hst
        refine k_norm (L' := [(10, .v (.slice a_r2 l3.length cap_r2)), (1, _), (2, _), (3, _), (6, _), (7, _), (8, _), (9, _)]) (ms' := [_, row a_r2 cap_r2 3 1 D.i64 l3, _, _, _]) rfl rfl ?_
        refine g_seq ?_
        refine g_region ?_
        refine go_p rfl rfl rfl (o_move rfl) ?_
        obtain ⟨x6, hx11, hm2⟩ := bind_some hm2
        refine go_p rfl rfl rfl (.view (peekE (i := 66) 1 rfl rfl rfl) (o_call0 Tryz.call71 rfl (w_syntagmaref15_Set hx11))) ?_
        refine go_p rfl rfl rfl (o_fieldAddr_box fi_52_8 rfl) ?_
        refine go_u rfl rfl (o_store_box 0 Tryz.sizeOf49 rfl rfl rfl rfl rfl rfl rfl rfl (Nat.le_of_ble_eq_true rfl)) ?_
        rintro _ _ rfl
        refine go_ms (ms' := [box b3 52 [_, _, _, _, _, _, _, _, _, _, _, _, _], _, _, box b2 24 [_, _], box b1 24 [_, _]]) rfl ?_
        refine go_nil ?_
        refine g_region ?_
        refine go_p rfl rfl rfl (o_fieldAddr_box fi_24_0 rfl) ?_
        refine go_p rfl rfl rfl (o_load_box 3 Tryz.isAgg22 rfl rfl rfl rfl) ?_
        refine go_p rfl rfl rfl (o_load_box_agg 0 Tryz.isAgg52 Tryz.sizeOf52 rfl rfl rfl rfl (Nat.le_of_ble_eq_true rfl)) ?_
        refine go_p rfl rfl rfl (o_buildSlice (xs := [_]) (f := AutoState.d) (l := [(⟨x1.plus, x1.all, x1.int, x1.bool, x1.str, x1.arrow, x1.rec_, x1.tag, x6, x1.dom, x1.cod, x1.fields, x1.tags⟩ : AutoState)]) Tryz.runUnderlying22 Tryz.sizeOf52 Tryz.zeroValue52 rfl rfl rfl (fun _ => ⟨rfl, rfl, rfl⟩) rfl) ?_
        obtain ⟨hg12, hm2⟩ := grd_some hm2
        refine go_op rfl rfl rfl (o_append (a := _) 2 Tryz.underlying22 Tryz.type52 rfl rfl rfl rfl rfl rfl rfl (fun _ => rfl) (fun _ => rfl) hg12 (app_len hg12 rfl)) ?_
        rintro _ _ ⟨a_r1, cap_r1, rfl, rfl⟩
        refine go_ms (ms' := [box b3 52 [_, _, _, _, _, _, _, _, _, _, _, _, _], _, _, box b2 24 [_, _], box b1 24 [_, _]]) rfl ?_
        refine go_p rfl rfl rfl (o_fieldAddr_box fi_24_0 rfl) ?_
        refine go_u rfl rfl (o_store_box 3 Tryz.sizeOf22 rfl rfl rfl rfl rfl rfl rfl rfl (Nat.le_of_ble_eq_true rfl)) ?_
        rintro _ _ rfl
        refine go_ms (ms' := [box b3 52 [_, _, _, _, _, _, _, _, _, _, _, _, _], _, _, box b2 24 [_, _], box b1 24 [_, _]]) rfl ?_
        refine go_nil ?_
        refine g_region ?_
        refine go_p rfl rfl rfl (o_move rfl) ?_
        obtain ⟨hg13, hm2⟩ := grd_some hm2
        refine go_p rfl rfl rfl (o_add rfl rfl (i64_id hg13)) ?_
        refine go_p rfl rfl rfl (o_assign rfl) ?_
        refine go_nil ?_
        exact ⟨_, (_, _), hm2, ⟨rfl, trivial⟩, ⟨rfl, rfl, rfl, rfl, rfl, trivial⟩, [_, _], rfl⟩
    · replace hj1 := cond_f hc1 hj1
      refine g_exit ?_
      exact ⟨_, (_, _), some_eq hj1, trivial, ⟨rfl, rfl, trivial⟩, [], rfl⟩
  · rintro ⟨l1, z1⟩ ⟨a_r1, cap_r1⟩ hst
    subst hst
    refine k_norm (L' := [(6, _), (7, _)]) (ms' := [row a_r1 cap_r1 52 13 AutoState.d l1, box b2 24 [.v (.slice a_r1 l1.length cap_r1), .i64 z1], _]) rfl rfl ?_
    refine g_seq ?_
    refine g_region ?_
    refine go_p rfl rfl rfl (o_load_box_agg 1 Tryz.isAgg24 Tryz.sizeOf24 rfl rfl rfl rfl (Nat.le_of_ble_eq_true rfl)) ?_
    refine go_conv (peekAggE (i := 75) (q := 0) 0 rfl rfl rfl rfl rfl).refines ?_
    refine go_u rfl rfl (o_store_box 2 Tryz.sizeOf24 rfl rfl rfl rfl rfl rfl rfl rfl (Nat.le_of_ble_eq_true rfl)) ?_
    rintro _ _ rfl
    refine go_ms (ms' := [_, box b2 24 [_, _], box b1 24 [_, _]]) rfl ?_
    refine go_nil ?_
    refine g_ret ?_
    exact retK (ret_one' rfl (ret_cell 2 rfl rfl rfl Tryz.isAgg24 Tryz.sizeOf24 rfl) (perm_drop _)) (congrArg (fun (p : AutoAuto) => (AutoAuto.d p : D)) (some_eq hm1))
def m_syntagmaref29_Merge_l2 (x2 : Int) (x3 : Int) (x5 : (List Int)) : Nat → (Int × (List Int)) → Option (List Int)
  | 0, _ => none
  | n + 1, (i1, l2) =>
    bif (decide (i1 < (x5.length : Int))) then
      (idx x5 i1).bind fun x6 =>
      bif (decide (x6 = x3)) then
        grd ((l2.length + ([x2] : List _).length) * 8 ≤ 140737488355328) <|
        grd (InR (i1 + 1)) <|
        m_syntagmaref29_Merge_l2 x2 x3 x5 n ((i1 + 1), (l2 ++ [x2]))
      else
        (idx x5 i1).bind fun x7 =>
        grd ((l2.length + ([x7] : List _).length) * 8 ≤ 140737488355328) <|
        grd (InR (i1 + 1)) <|
        m_syntagmaref29_Merge_l2 x2 x3 x5 n ((i1 + 1), (l2 ++ [x7]))
    else
      some l2
def m_syntagmaref29_Merge_l1  : Nat → ((List AutoState) × Int) → Option AutoAuto
  | 0, _ => none
  | n + 1, (z1, z2) =>
    (m_syntagmaref29_one (⟨z1, z2⟩ : AutoAuto)).bind fun (x2, x3, x4) =>
    bif (!x4) then
      some (⟨z1, z2⟩ : AutoAuto)
    else
      (m_syntagmaref28_All (⟨z1, z2⟩ : AutoAuto)).bind fun x5 =>
      (m_syntagmaref29_Merge_l2 x2 x3 x5 FU (0, []) : Option (List Int)).bind fun l1 =>
      (m_syntagmaref28_With (⟨z1, z2⟩ : AutoAuto) x5 l1).bind fun x8 =>
      m_syntagmaref29_Merge_l1 n (x8.l, x8.start)
def m_pair_between_1_43 (s1 : AutoState) (c1 : Int) : Option Bool :=
  (m_pair_has s1 c1).bind fun x1 =>
  (bif x1 then ((m_pair_Between_1 s1).bind fun x2 =>
  some (!x2)) else (some false)).bind fun p1 =>
  some p1
theorem w_pair_between_1_43 {s1 : AutoState} {c1 : Int} {r_1 : Bool} (hm : m_pair_between_1_43 s1 c1 = some r_1) : Fn0 Tryz.prog 73 [AutoState.d s1, .ref (.i64 c1), .ref (.v (.func (.func 43) #[] #[]))] (.bool r_1) := by
  unfold m_pair_between_1_43 at hm
  refine fn_intro Tryz.func73 rfl Tryz.ntmps73 rfl fun H0 fr w0 => ?_
  refine g_seq ?_
  refine g_region ?_
  refine go_p rfl rfl rfl (o_box rfl rfl) ?_
  refine go_p rfl rfl rfl (o_assign rfl) ?_
  refine go_nil ?_
  refine g_seq ?_
  refine g_region ?_
  refine go_p rfl rfl rfl (o_load_agg Tryz.isAgg60 Tryz.sizeOf60 rfl rfl) ?_
  refine go_p rfl rfl rfl (o_load Tryz.isAgg3 rfl rfl) ?_
  obtain ⟨x1, hx1, hm⟩ := bind_some hm
  refine go_p rfl rfl rfl (o_call0 Tryz.call64 rfl (w_pair_has hx1)) ?_
  refine go_p rfl rfl rfl (o_move rfl) ?_
  obtain ⟨p1, hp_1, hm⟩ := bind_some hm
  refine go_two [] 5 13 p1 (t := 8) trivial rfl (fun hg_1 hk1 => ?_) (fun hg_1 hk1 => ?_) ?_
  · replace hp_1 := cond_t hg_1 hp_1
    refine go_wantp rfl rfl rfl hg_1 rfl rfl (o_load Tryz.isAgg80 rfl rfl) ?_
    refine go_wantp rfl rfl rfl hg_1 rfl rfl (o_load_agg Tryz.isAgg60 Tryz.sizeOf60 rfl rfl) ?_
    obtain ⟨x2, hx2, hp_1⟩ := bind_some hp_1
    refine go_wantp rfl rfl rfl hg_1 rfl rfl (o_callv0 rfl rfl (fv_func Tryz.call43 (w_pair_Between_1 hx2))) ?_
    refine go_wantp rfl rfl rfl hg_1 rfl rfl (o_not rfl) ?_
    refine go_p rfl rfl rfl (o_pickT rfl hg_1 rfl) ?_
    exact go_meet hk1 (congrArg (fun b => some (D.bool b)) (some_eq hp_1)) trivial
  · replace hp_1 := cond_f hg_1 hp_1
    refine go_skip rfl rfl rfl hg_1 rfl rfl ?_
    refine go_skip rfl rfl rfl hg_1 rfl rfl ?_
    refine go_skip rfl rfl rfl hg_1 rfl rfl ?_
    refine go_skip rfl rfl rfl hg_1 rfl rfl ?_
    refine go_p rfl rfl rfl (o_pickF rfl hg_1 rfl) ?_
    exact go_meet hk1 (congrArg (fun b => some (D.bool b)) (some_eq hp_1)) trivial
  refine go_p rfl rfl rfl (o_assign rfl) ?_
  refine go_nil ?_
  refine g_ret ?_
  exact retK (ret_one' rfl (ret_tmp rfl) (perm_drop _)) (congrArg (fun (p : Bool) => (.bool p : D)) (some_eq hm))
def m_pair_between_1_44 (s1 : AutoState) (c1 : Int) : Option Bool :=
  (m_pair_has s1 c1).bind fun x1 =>
  (bif x1 then ((m_pair_Between_2 s1).bind fun x2 =>
  some (!x2)) else (some false)).bind fun p1 =>
  some p1
theorem w_pair_between_1_44 {s1 : AutoState} {c1 : Int} {r_1 : Bool} (hm : m_pair_between_1_44 s1 c1 = some r_1) : Fn0 Tryz.prog 73 [AutoState.d s1, .ref (.i64 c1), .ref (.v (.func (.func 44) #[] #[]))] (.bool r_1) := by
  unfold m_pair_between_1_44 at hm
  refine fn_intro Tryz.func73 rfl Tryz.ntmps73 rfl fun H0 fr w0 => ?_
  refine g_seq ?_
  refine g_region ?_
  refine go_p rfl rfl rfl (o_box rfl rfl) ?_
  refine go_p rfl rfl rfl (o_assign rfl) ?_
  refine go_nil ?_
  refine g_seq ?_
  refine g_region ?_
  refine go_p rfl rfl rfl (o_load_agg Tryz.isAgg60 Tryz.sizeOf60 rfl rfl) ?_
  refine go_p rfl rfl rfl (o_load Tryz.isAgg3 rfl rfl) ?_
  obtain ⟨x1, hx1, hm⟩ := bind_some hm
  refine go_p rfl rfl rfl (o_call0 Tryz.call64 rfl (w_pair_has hx1)) ?_
  refine go_p rfl rfl rfl (o_move rfl) ?_
  obtain ⟨p1, hp_1, hm⟩ := bind_some hm
  refine go_two [] 5 13 p1 (t := 8) trivial rfl (fun hg_1 hk1 => ?_) (fun hg_1 hk1 => ?_) ?_
  · replace hp_1 := cond_t hg_1 hp_1
    refine go_wantp rfl rfl rfl hg_1 rfl rfl (o_load Tryz.isAgg80 rfl rfl) ?_
    refine go_wantp rfl rfl rfl hg_1 rfl rfl (o_load_agg Tryz.isAgg60 Tryz.sizeOf60 rfl rfl) ?_
    obtain ⟨x2, hx2, hp_1⟩ := bind_some hp_1
    refine go_wantp rfl rfl rfl hg_1 rfl rfl (o_callv0 rfl rfl (fv_func Tryz.call44 (w_pair_Between_2 hx2))) ?_
    refine go_wantp rfl rfl rfl hg_1 rfl rfl (o_not rfl) ?_
    refine go_p rfl rfl rfl (o_pickT rfl hg_1 rfl) ?_
    exact go_meet hk1 (congrArg (fun b => some (D.bool b)) (some_eq hp_1)) trivial
  · replace hp_1 := cond_f hg_1 hp_1
    refine go_skip rfl rfl rfl hg_1 rfl rfl ?_
    refine go_skip rfl rfl rfl hg_1 rfl rfl ?_
    refine go_skip rfl rfl rfl hg_1 rfl rfl ?_
    refine go_skip rfl rfl rfl hg_1 rfl rfl ?_
    refine go_p rfl rfl rfl (o_pickF rfl hg_1 rfl) ?_
    exact go_meet hk1 (congrArg (fun b => some (D.bool b)) (some_eq hp_1)) trivial
  refine go_p rfl rfl rfl (o_assign rfl) ?_
  refine go_nil ?_
  refine g_ret ?_
  exact retK (ret_one' rfl (ret_tmp rfl) (perm_drop _)) (congrArg (fun (p : Bool) => (.bool p : D)) (some_eq hm))
def m_pair_between_1_45 (s1 : AutoState) (c1 : Int) : Option Bool :=
  (m_pair_has s1 c1).bind fun x1 =>
  (bif x1 then ((m_pair_Between_3 s1).bind fun x2 =>
  some (!x2)) else (some false)).bind fun p1 =>
  some p1
theorem w_pair_between_1_45 {s1 : AutoState} {c1 : Int} {r_1 : Bool} (hm : m_pair_between_1_45 s1 c1 = some r_1) : Fn0 Tryz.prog 73 [AutoState.d s1, .ref (.i64 c1), .ref (.v (.func (.func 45) #[] #[]))] (.bool r_1) := by
  unfold m_pair_between_1_45 at hm
  refine fn_intro Tryz.func73 rfl Tryz.ntmps73 rfl fun H0 fr w0 => ?_
  refine g_seq ?_
  refine g_region ?_
  refine go_p rfl rfl rfl (o_box rfl rfl) ?_
  refine go_p rfl rfl rfl (o_assign rfl) ?_
  refine go_nil ?_
  refine g_seq ?_
  refine g_region ?_
  refine go_p rfl rfl rfl (o_load_agg Tryz.isAgg60 Tryz.sizeOf60 rfl rfl) ?_
  refine go_p rfl rfl rfl (o_load Tryz.isAgg3 rfl rfl) ?_
  obtain ⟨x1, hx1, hm⟩ := bind_some hm
  refine go_p rfl rfl rfl (o_call0 Tryz.call64 rfl (w_pair_has hx1)) ?_
  refine go_p rfl rfl rfl (o_move rfl) ?_
  obtain ⟨p1, hp_1, hm⟩ := bind_some hm
  refine go_two [] 5 13 p1 (t := 8) trivial rfl (fun hg_1 hk1 => ?_) (fun hg_1 hk1 => ?_) ?_
  · replace hp_1 := cond_t hg_1 hp_1
    refine go_wantp rfl rfl rfl hg_1 rfl rfl (o_load Tryz.isAgg80 rfl rfl) ?_
    refine go_wantp rfl rfl rfl hg_1 rfl rfl (o_load_agg Tryz.isAgg60 Tryz.sizeOf60 rfl rfl) ?_
    obtain ⟨x2, hx2, hp_1⟩ := bind_some hp_1
    refine go_wantp rfl rfl rfl hg_1 rfl rfl (o_callv0 rfl rfl (fv_func Tryz.call45 (w_pair_Between_3 hx2))) ?_
    refine go_wantp rfl rfl rfl hg_1 rfl rfl (o_not rfl) ?_
    refine go_p rfl rfl rfl (o_pickT rfl hg_1 rfl) ?_
    exact go_meet hk1 (congrArg (fun b => some (D.bool b)) (some_eq hp_1)) trivial
  · replace hp_1 := cond_f hg_1 hp_1
    refine go_skip rfl rfl rfl hg_1 rfl rfl ?_
    refine go_skip rfl rfl rfl hg_1 rfl rfl ?_
    refine go_skip rfl rfl rfl hg_1 rfl rfl ?_
    refine go_skip rfl rfl rfl hg_1 rfl rfl ?_
    refine go_p rfl rfl rfl (o_pickF rfl hg_1 rfl) ?_
    exact go_meet hk1 (congrArg (fun b => some (D.bool b)) (some_eq hp_1)) trivial
  refine go_p rfl rfl rfl (o_assign rfl) ?_
  refine go_nil ?_
  refine g_ret ?_
  exact retK (ret_one' rfl (ret_tmp rfl) (perm_drop _)) (congrArg (fun (p : Bool) => (.bool p : D)) (some_eq hm))
def m_pair_between_43 (a1 : AutoAuto) (v1 : Int) : Option Bool :=
  (m_slices_ContainsFunc_auto_State_auto_State a1.l (fun y0 => m_pair_between_1_43 y0 v1)).bind fun x1 =>
  some (!x1)
theorem w_pair_between_43 {a1 : AutoAuto} {v1 : Int} {r_1 : Bool} (hm : m_pair_between_43 a1 v1 = some r_1) : Fn0 Tryz.prog 42 [AutoAuto.d a1, .i64 v1, .v (.func (.func 43) #[] #[])] (.bool r_1) := by
  unfold m_pair_between_43 at hm
  refine fn_intro Tryz.func42 rfl Tryz.ntmps42 rfl fun H0 fr w0 => ?_
  refine g_seq ?_
  refine g_region ?_
  refine go_p rfl rfl rfl (o_box rfl rfl) ?_
  refine go_p rfl rfl rfl (o_box rfl rfl) ?_
  refine go_p rfl rfl rfl (o_box rfl rfl) ?_
  refine go_p rfl rfl rfl (o_assign rfl) ?_
  refine go_nil ?_
  refine g_seq ?_
  refine g_region ?_
  refine go_p rfl rfl rfl (o_fieldAddr fi_27_0 rfl rfl rfl) ?_
  refine go_p rfl rfl rfl (o_load Tryz.isAgg25 rfl rfl) ?_
  refine go_p rfl rfl rfl (o_makeFunc rfl rfl) ?_
  obtain ⟨x1, hx1, hm⟩ := bind_some hm
  refine go_p rfl rfl rfl (o_call0 Tryz.call72 rfl (w_slices_ContainsFunc_auto_State_auto_State (fun _ _ h => fv_clo Tryz.call73 (w_pair_between_1_43 h)) hx1)) ?_
  refine go_p rfl rfl rfl (o_not rfl) ?_
  refine go_p rfl rfl rfl (o_assign rfl) ?_
  refine go_nil ?_
  refine g_ret ?_
  exact retK (ret_one' rfl (ret_tmp rfl) (perm_drop _)) (congrArg (fun (p : Bool) => (.bool p : D)) (some_eq hm))
def m_pair_between_44 (a1 : AutoAuto) (v1 : Int) : Option Bool :=
  (m_slices_ContainsFunc_auto_State_auto_State a1.l (fun y0 => m_pair_between_1_44 y0 v1)).bind fun x1 =>
  some (!x1)
theorem w_pair_between_44 {a1 : AutoAuto} {v1 : Int} {r_1 : Bool} (hm : m_pair_between_44 a1 v1 = some r_1) : Fn0 Tryz.prog 42 [AutoAuto.d a1, .i64 v1, .v (.func (.func 44) #[] #[])] (.bool r_1) := by
  unfold m_pair_between_44 at hm
  refine fn_intro Tryz.func42 rfl Tryz.ntmps42 rfl fun H0 fr w0 => ?_
  refine g_seq ?_
  refine g_region ?_
  refine go_p rfl rfl rfl (o_box rfl rfl) ?_
  refine go_p rfl rfl rfl (o_box rfl rfl) ?_
  refine go_p rfl rfl rfl (o_box rfl rfl) ?_
  refine go_p rfl rfl rfl (o_assign rfl) ?_
  refine go_nil ?_
  refine g_seq ?_
  refine g_region ?_
  refine go_p rfl rfl rfl (o_fieldAddr fi_27_0 rfl rfl rfl) ?_
  refine go_p rfl rfl rfl (o_load Tryz.isAgg25 rfl rfl) ?_
  refine go_p rfl rfl rfl (o_makeFunc rfl rfl) ?_
  obtain ⟨x1, hx1, hm⟩ := bind_some hm
  refine go_p rfl rfl rfl (o_call0 Tryz.call72 rfl (w_slices_ContainsFunc_auto_State_auto_State (fun _ _ h => fv_clo Tryz.call73 (w_pair_between_1_44 h)) hx1)) ?_
  refine go_p rfl rfl rfl (o_not rfl) ?_
  refine go_p rfl rfl rfl (o_assign rfl) ?_
  refine go_nil ?_
  refine g_ret ?_
  exact retK (ret_one' rfl (ret_tmp rfl) (perm_drop _)) (congrArg (fun (p : Bool) => (.bool p : D)) (some_eq hm))
def m_pair_between_45 (a1 : AutoAuto) (v1 : Int) : Option Bool :=
  (m_slices_ContainsFunc_auto_State_auto_State a1.l (fun y0 => m_pair_between_1_45 y0 v1)).bind fun x1 =>
  some (!x1)
theorem w_pair_between_45 {a1 : AutoAuto} {v1 : Int} {r_1 : Bool} (hm : m_pair_between_45 a1 v1 = some r_1) : Fn0 Tryz.prog 42 [AutoAuto.d a1, .i64 v1, .v (.func (.func 45) #[] #[])] (.bool r_1) := by
  unfold m_pair_between_45 at hm
  refine fn_intro Tryz.func42 rfl Tryz.ntmps42 rfl fun H0 fr w0 => ?_
  refine g_seq ?_
  refine g_region ?_
  refine go_p rfl rfl rfl (o_box rfl rfl) ?_
  refine go_p rfl rfl rfl (o_box rfl rfl) ?_
  refine go_p rfl rfl rfl (o_box rfl rfl) ?_
  refine go_p rfl rfl rfl (o_assign rfl) ?_
  refine go_nil ?_
  refine g_seq ?_
  refine g_region ?_
  refine go_p rfl rfl rfl (o_fieldAddr fi_27_0 rfl rfl rfl) ?_
  refine go_p rfl rfl rfl (o_load Tryz.isAgg25 rfl rfl) ?_
  refine go_p rfl rfl rfl (o_makeFunc rfl rfl) ?_
  obtain ⟨x1, hx1, hm⟩ := bind_some hm
  refine go_p rfl rfl rfl (o_call0 Tryz.call72 rfl (w_slices_ContainsFunc_auto_State_auto_State (fun _ _ h => fv_clo Tryz.call73 (w_pair_between_1_45 h)) hx1)) ?_
  refine go_p rfl rfl rfl (o_not rfl) ?_
  refine go_p rfl rfl rfl (o_assign rfl) ?_
  refine go_nil ?_
  refine g_ret ?_
  exact retK (ret_one' rfl (ret_tmp rfl) (perm_drop _)) (congrArg (fun (p : Bool) => (.bool p : D)) (some_eq hm))
def m_syntagmaref29_between_l1 (a1 : AutoAuto) (v1 : Int) (which1 : Int) : Nat → Int → Option (Out Bool Unit)
  | 0, _ => none
  | n + 1, i1 =>
    bif (decide (i1 < (a1.l.length : Int))) then
      (idx a1.l i1).bind fun x1 =>
      (m_syntagmabase_HasInt x1.vars v1).bind fun x2 =>
      (bif x2 then ((idx [x1.int, x1.bool, x1.str] which1).bind fun x3 =>
      some (!x3)) else (some false)).bind fun p1 =>
      bif p1 then
        some (Out.ret false)
      else
        grd (InR (i1 + 1)) <|
        m_syntagmaref29_between_l1 a1 v1 which1 n (i1 + 1)
    else
      some (Out.go (()))
def m_syntagmaref29_between (a1 : AutoAuto) (v1 : Int) (which1 : Int) : Option Bool :=
  ((m_syntagmaref29_between_l1 a1 v1 which1 FU 0 : Option (Out Bool Unit))).bind (fun oo => oo.on (fun r1 => some r1) (fun _ =>
  (m_syntagmaref29_stands a1 v1).bind fun x4 =>
  some x4))
theorem w_syntagmaref29_between {a1 : AutoAuto} {v1 : Int} {which1 : Int} {r_1 : Bool} (hm : m_syntagmaref29_between a1 v1 which1 = some r_1) : Fn0 Tryz.prog 49 [AutoAuto.d a1, .i64 v1, .i64 which1] (.bool r_1) := by
  unfold m_syntagmaref29_between at hm
  refine fn_intro Tryz.func49 rfl Tryz.ntmps49 rfl fun H0 fr w0 => ?_
  refine g_seq ?_
  refine g_region ?_
  refine go_p rfl rfl rfl (o_box rfl rfl) ?_
  refine go_p rfl rfl rfl (o_assign rfl) ?_
  refine go_nil ?_
  refine g_seq ?_
  refine g_seq ?_
  refine g_region ?_
  refine go_p rfl rfl rfl (o_assign rfl) ?_
  refine go_nil ?_
  obtain ⟨o_1, hj1, hm1⟩ := bind_some hm
  refine g_cut_m [(1, _), (3, _)] [] (fun (st : Unit) (hid : Unit) => match st, hid with | _, _ => []) (fun F (st : Unit) (hid : Unit) => match st, hid with | _, _ => []) (fun st => Out.go (st) = o_1) ⟨rfl, rfl, trivial⟩ trivial ?_ ?_
  · skip
    refine g_block ?_
    refine g_loop_m [(1, _), (2, _), (3, _)] [] (fun (st : Int) (hid : Unit) => match st, hid with | i1, _ => [(7, .i64 i1)]) (fun F (st : Int) (hid : Unit) => match st, hid with | i1, _ => []) () hj1 (fun _ => rfl) ⟨rfl, rfl, rfl, trivial⟩ trivial ⟨rfl, trivial⟩ rfl ?_
    rintro n i1 _ hj1
    rw [m_syntagmaref29_between_l1] at hj1
    refine g_norm (L' := [(7, .i64 i1), (1, _), (2, _), (3, _)]) (ms' := []) rfl rfl ?_
    refine g_seq ?_
    refine g_seq ?_
    refine g_region ?_
    refine go_p rfl rfl rfl (o_move rfl) ?_
    refine go_p rfl rfl rfl (o_fieldAddr fi_24_0 rfl rfl rfl) ?_
    refine go_p rfl rfl rfl (o_load Tryz.isAgg22 rfl rfl) ?_
    refine go_p rfl rfl rfl (o_len Tryz.runUnderlying22 rfl) ?_
    refine go_p rfl rfl rfl (o_cmp rfl rfl rfl) ?_
    refine go_nil ?_
    refine g_cond rfl (fun hc1 => ?_) (fun hc1 => ?_)
    · replace hj1 := cond_t hc1 hj1
      refine g_skip ?_
      refine g_seq ?_
      refine g_block ?_
      refine g_seq ?_
      refine g_region ?_
      refine go_p rfl rfl rfl (o_fieldAddr fi_24_0 rfl rfl rfl) ?_
      refine go_p rfl rfl rfl (o_load Tryz.isAgg22 rfl rfl) ?_
      refine go_p rfl rfl rfl (o_move rfl) ?_
      obtain ⟨x1, hx1, hj1⟩ := bind_some hj1
      refine go_p rfl rfl rfl (o_indexAddr_m Tryz.runUnderlying22 Tryz.sizeOf52 rfl rfl hx1) ?_
      refine go_p rfl rfl rfl (o_load_agg Tryz.isAgg52 Tryz.sizeOf52 rfl rfl) ?_
      refine go_op rfl rfl rfl (o_alloc_own Tryz.zeroValue52 (cs := [.bool false, .bool false, .bool false, .bool false, .bool false, .bool false, .bool false, .bool false, .list 1 D.i64 [], .i64 0, .i64 0, .list 2 AutoEdge.d [], .list 2 AutoEdge.d []]) rfl) ?_
      rintro _ _ ⟨b1, rfl, rfl⟩
      refine go_u rfl rfl (o_store_box 0 Tryz.sizeOf52 rfl rfl rfl rfl rfl rfl rfl rfl (Nat.le_of_ble_eq_true rfl)) ?_
      rintro _ _ rfl
      refine go_ms (ms' := [box b1 52 [_, _, _, _, _, _, _, _, _, _, _, _, _]]) rfl ?_
      refine go_nil ?_
      refine g_seq ?_
      refine g_region ?_
      refine go_p rfl rfl rfl (o_fieldAddr_box fi_52_2 rfl) ?_
      refine go_p rfl rfl rfl (o_load_box 0 Tryz.isAgg4 rfl rfl rfl rfl) ?_
      refine go_p rfl rfl rfl (o_fieldAddr_box fi_52_3 rfl) ?_
      refine go_p rfl rfl rfl (o_load_box 0 Tryz.isAgg4 rfl rfl rfl rfl) ?_
      refine go_p rfl rfl rfl (o_fieldAddr_box fi_52_4 rfl) ?_
      refine go_p rfl rfl rfl (o_load_box 0 Tryz.isAgg4 rfl rfl rfl rfl) ?_
      refine go_p rfl rfl rfl (o_buildSlice (xs := [_, _, _]) (f := D.bool) (l := [_, _, _]) Tryz.runUnderlying95 Tryz.sizeOf4 Tryz.zeroValue4 rfl rfl rfl (fun _ => ⟨rfl, rfl, rfl⟩) rfl) ?_
      refine go_p rfl rfl rfl (o_assign rfl) ?_
      refine go_nil ?_
      refine g_seq ?_
      refine g_region ?_
      refine go_p rfl rfl rfl (o_fieldAddr_box fi_52_8 rfl) ?_
      refine go_p rfl rfl rfl (o_load_box 0 Tryz.isAgg49 rfl rfl rfl rfl) ?_
      refine go_p rfl rfl rfl (o_move rfl) ?_
      obtain ⟨x2, hx2, hj1⟩ := bind_some hj1
      refine go_p rfl rfl rfl (o_call0 Tryz.call35 rfl (w_syntagmabase_HasInt hx2)) ?_
      refine go_p rfl rfl rfl (o_move rfl) ?_
      obtain ⟨p1, hp_1, hj1⟩ := bind_some hj1
      refine go_two [(1, _), (2, _), (3, _), (7, _)] 6 39 p1 (t := 33) ⟨rfl, rfl, rfl, rfl, trivial⟩ rfl (fun hg_1 hk1 => ?_) (fun hg_1 hk1 => ?_) ?_
      · replace hp_1 := cond_t hg_1 hp_1
        refine go_wantp rfl rfl rfl hg_1 rfl rfl (o_move rfl) ?_
        refine go_wantp rfl rfl rfl hg_1 rfl rfl (o_move rfl) ?_
        obtain ⟨x3, hx3, hp_1⟩ := bind_some hp_1
        refine go_wantp rfl rfl rfl hg_1 rfl rfl (o_indexAddr_m Tryz.runUnderlying95 Tryz.sizeOf4 rfl rfl hx3) ?_
        refine go_wantp rfl rfl rfl hg_1 rfl rfl (o_load Tryz.isAgg4 rfl rfl) ?_
        refine go_wantp rfl rfl rfl hg_1 rfl rfl (o_not rfl) ?_
        refine go_p rfl rfl rfl (o_pickT rfl hg_1 rfl) ?_
        exact go_meet hk1 (congrArg (fun b => some (D.bool b)) (some_eq hp_1)) ⟨rfl, rfl, rfl, rfl, trivial⟩
      · replace hp_1 := cond_f hg_1 hp_1
        refine go_skip rfl rfl rfl hg_1 rfl rfl ?_
        refine go_skip rfl rfl rfl hg_1 rfl rfl ?_
        refine go_skip rfl rfl rfl hg_1 rfl rfl ?_
        refine go_skip rfl rfl rfl hg_1 rfl rfl ?_
        refine go_skip rfl rfl rfl hg_1 rfl rfl ?_
        refine go_p rfl rfl rfl (o_pickF rfl hg_1 rfl) ?_
        exact go_meet hk1 (congrArg (fun b => some (D.bool b)) (some_eq hp_1)) ⟨rfl, rfl, rfl, rfl, trivial⟩
      refine go_nil ?_
      refine g_cond rfl (fun hc2 => ?_) (fun hc2 => ?_)
      · replace hj1 := cond_t hc2 hj1
        refine g_seq ?_
        refine g_region ?_
        refine go_p rfl rfl rfl (o_assign rfl) ?_
        refine go_nil ?_
        refine g_ret ?_
        obtain rfl := some_eq hj1
        replace hm1 := on_ret hm1
        exact retK (ret_one' rfl (ret_tmp rfl) (perm_drop _)) (congrArg (fun (p : Bool) => (.bool p : D)) (some_eq hm1))
      · replace hj1 := cond_f hc2 hj1
        refine g_skip ?_
        refine g_region ?_
        refine go_p rfl rfl rfl (o_move rfl) ?_
        obtain ⟨hg4, hj1⟩ := grd_some hj1
        refine go_p rfl rfl rfl (o_add rfl rfl (i64_id hg4)) ?_
        refine go_p rfl rfl rfl (o_assign rfl) ?_
        refine go_nil ?_
        exact ⟨_, (), hj1, ⟨rfl, trivial⟩, ⟨rfl, rfl, rfl, trivial⟩, [_], rfl⟩
    · replace hj1 := cond_f hc1 hj1
      refine g_exit ?_
      exact ⟨_, (), some_eq hj1, trivial, ⟨rfl, rfl, trivial⟩, [], rfl⟩
  · rintro _ _ hst
    subst hst
    replace hm1 := on_go hm1
    refine k_norm (L' := [(1, _), (3, _)]) (ms' := []) rfl rfl ?_
    refine g_seq ?_
    refine g_region ?_
    refine go_p rfl rfl rfl (o_load_agg Tryz.isAgg24 Tryz.sizeOf24 rfl rfl) ?_
    refine go_p rfl rfl rfl (o_move rfl) ?_
    obtain ⟨x4, hx5, hm1⟩ := bind_some hm1
    refine go_p rfl rfl rfl (o_call0 Tryz.call70 rfl (w_syntagmaref29_stands hx5)) ?_
    refine go_p rfl rfl rfl (o_assign rfl) ?_
    refine go_nil ?_
    refine g_ret ?_
    exact retK (ret_one' rfl (ret_tmp rfl) (perm_drop _)) (congrArg (fun (p : Bool) => (.bool p : D)) (some_eq hm1))
def m_syntagmaref29_Between_l1 (x1 : AutoAuto) (x2 : (List Int)) : Nat → (Int × (List Int)) → Option (List Int)
  | 0, _ => none
  | n + 1, (i1, l2) =>
    bif (decide (i1 < (x2.length : Int))) then
      (idx x2 i1).bind fun x3 =>
      (m_syntagmaref29_between (⟨x1.l, x1.start⟩ : AutoAuto) x3 0).bind fun x4 =>
      bif x4 then (grd ((l2.length + ([(-1)] : List _).length) * 8 ≤ 140737488355328) <|
      grd (InR (i1 + 1)) <|
      m_syntagmaref29_Between_l1 x1 x2 n ((i1 + 1), (l2 ++ [(-1)]))) else ((idx x2 i1).bind fun x5 =>
      (m_syntagmaref29_between (⟨x1.l, x1.start⟩ : AutoAuto) x5 1).bind fun x6 =>
      bif x6 then (grd ((l2.length + ([(-1)] : List _).length) * 8 ≤ 140737488355328) <|
      grd (InR (i1 + 1)) <|
      m_syntagmaref29_Between_l1 x1 x2 n ((i1 + 1), (l2 ++ [(-1)]))) else ((idx x2 i1).bind fun x7 =>
      (m_syntagmaref29_between (⟨x1.l, x1.start⟩ : AutoAuto) x7 2).bind fun x8 =>
      bif x8 then
        grd ((l2.length + ([(-1)] : List _).length) * 8 ≤ 140737488355328) <|
        grd (InR (i1 + 1)) <|
        m_syntagmaref29_Between_l1 x1 x2 n ((i1 + 1), (l2 ++ [(-1)]))
      else
        (idx x2 i1).bind fun x9 =>
        grd ((l2.length + ([x9] : List _).length) * 8 ≤ 140737488355328) <|
        grd (InR (i1 + 1)) <|
        m_syntagmaref29_Between_l1 x1 x2 n ((i1 + 1), (l2 ++ [x9]))))
    else
      some l2
def m_syntagmaref29_Between (a1 : AutoAuto) : Option AutoAuto :=
  (m_syntagmaref24_Norm a1).bind fun x1 =>
  (m_syntagmaref28_All (⟨x1.l, x1.start⟩ : AutoAuto)).bind fun x2 =>
  (m_syntagmaref29_Between_l1 x1 x2 FU (0, []) : Option (List Int)).bind fun l1 =>
  (m_syntagmaref28_With (⟨x1.l, x1.start⟩ : AutoAuto) x2 l1).bind fun x10 =>
  some (⟨x10.l, x10.start⟩ : AutoAuto)
theorem w_syntagmaref29_Between {a1 : AutoAuto} {r_1 : AutoAuto} (hm : m_syntagmaref29_Between a1 = some r_1) : Fn0 Tryz.prog 17 [AutoAuto.d a1] (AutoAuto.d r_1) := by
  unfold m_syntagmaref29_Between at hm
  refine fn_intro Tryz.func17 rfl Tryz.ntmps17 rfl fun H0 fr w0 => ?_
  refine g_seq ?_
  refine g_region ?_
  refine go_p rfl rfl rfl (o_box rfl rfl) ?_
  refine go_op rfl rfl rfl (o_alloc_own Tryz.zeroValue24 (cs := [.list 13 AutoState.d [], .i64 0]) rfl) ?_
  rintro _ _ ⟨b1, rfl, rfl⟩
  refine go_nil ?_
  refine g_seq ?_
  refine g_region ?_
  refine go_p rfl rfl rfl (o_load_agg Tryz.isAgg24 Tryz.sizeOf24 rfl rfl) ?_
  obtain ⟨x1, hx1, hm⟩ := bind_some hm
  refine go_p rfl rfl rfl (o_call0 Tryz.call13 rfl (w_syntagmaref24_Norm hx1)) ?_
  refine go_op rfl rfl rfl (o_alloc_own Tryz.zeroValue24 (cs := [.list 13 AutoState.d [], .i64 0]) rfl) ?_
  rintro _ _ ⟨b2, rfl, rfl⟩
  refine go_u rfl rfl (o_store_box 0 Tryz.sizeOf24 rfl rfl rfl rfl rfl rfl rfl rfl (Nat.le_of_ble_eq_true rfl)) ?_
  rintro _ _ rfl
  refine go_ms (ms' := [box b2 24 [_, _], box b1 24 [_, _]]) rfl ?_
  refine go_nil ?_
  refine g_seq ?_
  refine g_region ?_
  refine go_p rfl rfl rfl (o_load_box_agg 0 Tryz.isAgg24 Tryz.sizeOf24 rfl rfl rfl rfl (Nat.le_of_ble_eq_true rfl)) ?_
  obtain ⟨x2, hx2, hm⟩ := bind_some hm
  refine go_p rfl rfl rfl (o_call0 Tryz.call40 rfl (w_syntagmaref28_All hx2)) ?_
  refine go_op rfl rfl rfl (o_buildSlice_row (xs := []) (f := D.i64) (l := []) Tryz.runUnderlying49 Tryz.sizeOf3 Tryz.zeroValue3 rfl rfl rfl (fun _ => ⟨rfl, rfl, rfl⟩) rfl (by simp [maxLen])) ?_
  rintro _ _ ⟨a_r1, rfl, rfl⟩
  refine go_p rfl rfl rfl (o_assign rfl) ?_
  refine go_p rfl rfl rfl (o_assign rfl) ?_
  refine go_nil ?_
  refine g_seq ?_
  refine g_seq ?_
  refine g_region ?_
  refine go_p rfl rfl rfl (o_assign rfl) ?_
  refine go_nil ?_
  obtain ⟨o_1, hj1, hm1⟩ := bind_some hm
  refine g_cut_m [(2, _), (3, _), (4, _)] [(1, _), (2, _)] (fun (st : (List Int)) (hid : (Option Addr × Nat)) => match st, hid with | l1, (a_r1, cap_r1) => [(5, .v (.slice a_r1 l1.length cap_r1))]) (fun F (st : (List Int)) (hid : (Option Addr × Nat)) => match st, hid with | l1, (a_r1, cap_r1) => [row a_r1 cap_r1 3 1 D.i64 l1, (nthF F 0), (nthF F 1)]) (fun st => st = o_1) ⟨rfl, rfl, rfl, trivial⟩ ⟨rfl, rfl, trivial⟩ ?_ ?_
  · skip
    refine g_block ?_
    refine g_loop_m [(2, _), (3, _), (4, _)] [(1, _), (2, _)] (fun (st : (Int × (List Int))) (hid : (Option Addr × Nat)) => match st, hid with | (i1, l2), (a_r1, cap_r1) => [(5, .v (.slice a_r1 l2.length cap_r1)), (6, .i64 i1)]) (fun F (st : (Int × (List Int))) (hid : (Option Addr × Nat)) => match st, hid with | (i1, l2), (a_r1, cap_r1) => [row a_r1 cap_r1 3 1 D.i64 l2, (nthF F 0), (nthF F 1)]) (_, _) hj1 (fun _ => rfl) ⟨rfl, rfl, rfl, trivial⟩ ⟨rfl, rfl, trivial⟩ ⟨rfl, rfl, trivial⟩ rfl ?_
    rintro n ⟨i1, l2⟩ ⟨a_r1, cap_r1⟩ hj1
    rw [m_syntagmaref29_Between_l1] at hj1
    refine g_norm (L' := [(5, .v (.slice a_r1 l2.length cap_r1)), (6, .i64 i1), (2, _), (3, _), (4, _)]) (ms' := [row a_r1 cap_r1 3 1 D.i64 l2, _, _]) rfl rfl ?_
    refine g_seq ?_
    refine g_seq ?_
    refine g_region ?_
    refine go_p rfl rfl rfl (o_move rfl) ?_
    refine go_p rfl rfl rfl (o_move rfl) ?_
    refine go_p rfl rfl rfl (o_len Tryz.runUnderlying49 rfl) ?_
    refine go_p rfl rfl rfl (o_cmp rfl rfl rfl) ?_
    refine go_nil ?_
    refine g_cond rfl (fun hc1 => ?_) (fun hc1 => ?_)
    · replace hj1 := cond_t hc1 hj1
      refine g_skip ?_
      refine g_seq ?_
      refine g_block ?_
      refine g_seq ?_
      obtain ⟨x3, hx3, hj1⟩ := bind_some hj1
      obtain ⟨x4, hx4, hj1⟩ := bind_some hj1
      rcases cond_split hj1 with ⟨hg_1, hj1⟩ | ⟨hg_1, hj1⟩
      ·
        skip
        refine g_draw 22 Tryz_mixed (by decide +kernel) ?_
        refine gd_p rfl rfl rfl (o_load_box_agg 1 Tryz.isAgg24 Tryz.sizeOf24 rfl rfl rfl rfl (Nat.le_of_ble_eq_true rfl)) ?_
        refine gd_p rfl rfl rfl (o_move rfl) ?_
        refine gd_p rfl rfl rfl (o_move rfl) ?_
        refine gd_p rfl rfl rfl (o_indexAddr_m Tryz.runUnderlying49 Tryz.sizeOf3 rfl rfl hx3) ?_
        refine gd_p rfl rfl rfl (o_load Tryz.isAgg3 rfl rfl) ?_
        refine gd_p rfl rfl rfl (o_call0 Tryz.call49 rfl (w_syntagmaref29_between hx4)) ?_
        refine gd_p rfl rfl rfl (o_move rfl) ?_
        refine gd_skip rfl rfl rfl hg_1 rfl rfl ?_
        refine gd_skip rfl rfl rfl hg_1 rfl rfl ?_
        refine gd_skip rfl rfl rfl hg_1 rfl rfl ?_
        refine gd_skip rfl rfl rfl hg_1 rfl rfl ?_
        refine gd_skip rfl rfl rfl hg_1 rfl rfl ?_
        refine gd_skip rfl rfl rfl hg_1 rfl rfl ?_
        refine gd_p rfl rfl rfl (o_pickT rfl hg_1 rfl) ?_
        refine gd_p rfl rfl rfl (o_move rfl) ?_
        refine gd_skip rfl rfl rfl rfl rfl rfl ?_
        refine gd_skip rfl rfl rfl rfl rfl rfl ?_
        refine gd_skip rfl rfl rfl rfl rfl rfl ?_
        refine gd_skip rfl rfl rfl rfl rfl rfl ?_
        refine gd_skip rfl rfl rfl rfl rfl rfl ?_
        refine gd_skip rfl rfl rfl rfl rfl rfl ?_
        refine gd_p rfl rfl rfl (o_pickT rfl rfl rfl) ?_
        refine gd_nil ?_
        refine go_nil ?_
        refine g_cond_true rfl rfl ?_
        refine g_region ?_
        refine go_p rfl rfl rfl (o_move rfl) ?_
        refine go_p rfl rfl rfl (o_buildSlice (xs := [_]) (f := D.i64) (l := [_]) Tryz.runUnderlying49 Tryz.sizeOf3 Tryz.zeroValue3 rfl rfl rfl (fun _ => ⟨rfl, rfl, rfl⟩) rfl) ?_
        obtain ⟨hg5, hj1⟩ := grd_some hj1
        refine go_op rfl rfl rfl (o_append (a := _) 0 Tryz.underlying49 Tryz.type3 rfl rfl rfl rfl rfl rfl rfl (fun _ => rfl) (fun _ => rfl) hg5 (app_len hg5 rfl)) ?_
        rintro _ _ ⟨a_r1, cap_r1, rfl, rfl⟩
        refine go_ms (ms' := [_, box b2 24 [_, _], box b1 24 [_, _]]) rfl ?_
        refine go_p rfl rfl rfl (o_assign rfl) ?_
        refine go_nil ?_
        refine g_region ?_
        refine go_p rfl rfl rfl (o_move rfl) ?_
        obtain ⟨hg6, hj1⟩ := grd_some hj1
        refine go_p rfl rfl rfl (o_add rfl rfl (i64_id hg6)) ?_
        refine go_p rfl rfl rfl (o_assign rfl) ?_
        refine go_nil ?_
        exact ⟨_, (_, _), hj1, ⟨rfl, rfl, trivial⟩, ⟨rfl, rfl, rfl, trivial⟩, [], rfl⟩
      ·
        skip
        obtain ⟨x5, hx7, hj1⟩ := bind_some hj1
        obtain ⟨x6, hx8, hj1⟩ := bind_some hj1
        rcases cond_split hj1 with ⟨hg_2, hj1⟩ | ⟨hg_2, hj1⟩
        ·
          skip
          refine g_draw 22 Tryz_mixed (by decide +kernel) ?_
          refine gd_p rfl rfl rfl (o_load_box_agg 1 Tryz.isAgg24 Tryz.sizeOf24 rfl rfl rfl rfl (Nat.le_of_ble_eq_true rfl)) ?_
          refine gd_p rfl rfl rfl (o_move rfl) ?_
          refine gd_p rfl rfl rfl (o_move rfl) ?_
          refine gd_p rfl rfl rfl (o_indexAddr_m Tryz.runUnderlying49 Tryz.sizeOf3 rfl rfl hx3) ?_
          refine gd_p rfl rfl rfl (o_load Tryz.isAgg3 rfl rfl) ?_
          refine gd_p rfl rfl rfl (o_call0 Tryz.call49 rfl (w_syntagmaref29_between hx4)) ?_
          refine gd_p rfl rfl rfl (o_move rfl) ?_
          refine gd_want rfl rfl rfl hg_1 rfl rfl (o_load_box_agg 1 Tryz.isAgg24 Tryz.sizeOf24 rfl rfl rfl rfl (Nat.le_of_ble_eq_true rfl)) ?_
          refine gd_want rfl rfl rfl hg_1 rfl rfl (o_move rfl) ?_
          refine gd_want rfl rfl rfl hg_1 rfl rfl (o_move rfl) ?_
          refine gd_want rfl rfl rfl hg_1 rfl rfl (o_indexAddr_m Tryz.runUnderlying49 Tryz.sizeOf3 rfl rfl hx7) ?_
          refine gd_want rfl rfl rfl hg_1 rfl rfl (o_load Tryz.isAgg3 rfl rfl) ?_
          refine gd_want rfl rfl rfl hg_1 rfl rfl (o_call0 Tryz.call49 rfl (w_syntagmaref29_between hx8)) ?_
          refine gd_p rfl rfl rfl (o_pickF rfl hg_1 rfl) ?_
          refine gd_p rfl rfl rfl (o_move rfl) ?_
          refine gd_skip rfl rfl rfl hg_2 rfl rfl ?_
          refine gd_skip rfl rfl rfl hg_2 rfl rfl ?_
          refine gd_skip rfl rfl rfl hg_2 rfl rfl ?_
          refine gd_skip rfl rfl rfl hg_2 rfl rfl ?_
          refine gd_skip rfl rfl rfl hg_2 rfl rfl ?_
          refine gd_skip rfl rfl rfl hg_2 rfl rfl ?_
          refine gd_p rfl rfl rfl (o_pickT rfl hg_2 rfl) ?_
          refine gd_nil ?_
          refine go_nil ?_
          refine g_cond_true rfl rfl ?_
          refine g_region ?_
          refine go_p rfl rfl rfl (o_move rfl) ?_
          refine go_p rfl rfl rfl (o_buildSlice (xs := [_]) (f := D.i64) (l := [_]) Tryz.runUnderlying49 Tryz.sizeOf3 Tryz.zeroValue3 rfl rfl rfl (fun _ => ⟨rfl, rfl, rfl⟩) rfl) ?_
          obtain ⟨hg9, hj1⟩ := grd_some hj1
          refine go_op rfl rfl rfl (o_append (a := _) 0 Tryz.underlying49 Tryz.type3 rfl rfl rfl rfl rfl rfl rfl (fun _ => rfl) (fun _ => rfl) hg9 (app_len hg9 rfl)) ?_
          rintro _ _ ⟨a_r1, cap_r1, rfl, rfl⟩
          refine go_ms (ms' := [_, box b2 24 [_, _], box b1 24 [_, _]]) rfl ?_
          refine go_p rfl rfl rfl (o_assign rfl) ?_
          refine go_nil ?_
          refine g_region ?_
          refine go_p rfl rfl rfl (o_move rfl) ?_
          obtain ⟨hg10, hj1⟩ := grd_some hj1
          refine go_p rfl rfl rfl (o_add rfl rfl (i64_id hg10)) ?_
          refine go_p rfl rfl rfl (o_assign rfl) ?_
          refine go_nil ?_
          exact ⟨_, (_, _), hj1, ⟨rfl, rfl, trivial⟩, ⟨rfl, rfl, rfl, trivial⟩, [], rfl⟩
        ·
          skip
          obtain ⟨x7, hx11, hj1⟩ := bind_some hj1
          obtain ⟨x8, hx12, hj1⟩ := bind_some hj1
          refine g_draw 22 Tryz_mixed (by decide +kernel) ?_
          refine gd_p rfl rfl rfl (o_load_box_agg 1 Tryz.isAgg24 Tryz.sizeOf24 rfl rfl rfl rfl (Nat.le_of_ble_eq_true rfl)) ?_
          refine gd_p rfl rfl rfl (o_move rfl) ?_
          refine gd_p rfl rfl rfl (o_move rfl) ?_
          refine gd_p rfl rfl rfl (o_indexAddr_m Tryz.runUnderlying49 Tryz.sizeOf3 rfl rfl hx3) ?_
          refine gd_p rfl rfl rfl (o_load Tryz.isAgg3 rfl rfl) ?_
          refine gd_p rfl rfl rfl (o_call0 Tryz.call49 rfl (w_syntagmaref29_between hx4)) ?_
          refine gd_p rfl rfl rfl (o_move rfl) ?_
          refine gd_want rfl rfl rfl hg_1 rfl rfl (o_load_box_agg 1 Tryz.isAgg24 Tryz.sizeOf24 rfl rfl rfl rfl (Nat.le_of_ble_eq_true rfl)) ?_
          refine gd_want rfl rfl rfl hg_1 rfl rfl (o_move rfl) ?_
          refine gd_want rfl rfl rfl hg_1 rfl rfl (o_move rfl) ?_
          refine gd_want rfl rfl rfl hg_1 rfl rfl (o_indexAddr_m Tryz.runUnderlying49 Tryz.sizeOf3 rfl rfl hx7) ?_
          refine gd_want rfl rfl rfl hg_1 rfl rfl (o_load Tryz.isAgg3 rfl rfl) ?_
          refine gd_want rfl rfl rfl hg_1 rfl rfl (o_call0 Tryz.call49 rfl (w_syntagmaref29_between hx8)) ?_
          refine gd_p rfl rfl rfl (o_pickF rfl hg_1 rfl) ?_
          refine gd_p rfl rfl rfl (o_move rfl) ?_
          refine gd_want rfl rfl rfl hg_2 rfl rfl (o_load_box_agg 1 Tryz.isAgg24 Tryz.sizeOf24 rfl rfl rfl rfl (Nat.le_of_ble_eq_true rfl)) ?_
          refine gd_want rfl rfl rfl hg_2 rfl rfl (o_move rfl) ?_
          refine gd_want rfl rfl rfl hg_2 rfl rfl (o_move rfl) ?_
          refine gd_want rfl rfl rfl hg_2 rfl rfl (o_indexAddr_m Tryz.runUnderlying49 Tryz.sizeOf3 rfl rfl hx11) ?_
          refine gd_want rfl rfl rfl hg_2 rfl rfl (o_load Tryz.isAgg3 rfl rfl) ?_
          refine gd_want rfl rfl rfl hg_2 rfl rfl (o_call0 Tryz.call49 rfl (w_syntagmaref29_between hx12)) ?_
          refine gd_p rfl rfl rfl (o_pickF rfl hg_2 rfl) ?_
          refine gd_nil ?_
          refine go_nil ?_
          refine g_cond rfl (fun hc2 => ?_) (fun hc2 => ?_)
          · replace hj1 := cond_t hc2 hj1
            refine g_region ?_
            refine go_p rfl rfl rfl (o_move rfl) ?_
            refine go_p rfl rfl rfl (o_buildSlice (xs := [_]) (f := D.i64) (l := [_]) Tryz.runUnderlying49 Tryz.sizeOf3 Tryz.zeroValue3 rfl rfl rfl (fun _ => ⟨rfl, rfl, rfl⟩) rfl) ?_
            obtain ⟨hg13, hj1⟩ := grd_some hj1
            refine go_op rfl rfl rfl (o_append (a := _) 0 Tryz.underlying49 Tryz.type3 rfl rfl rfl rfl rfl rfl rfl (fun _ => rfl) (fun _ => rfl) hg13 (app_len hg13 rfl)) ?_
            rintro _ _ ⟨a_r1, cap_r1, rfl, rfl⟩
            refine go_ms (ms' := [_, box b2 24 [_, _], box b1 24 [_, _]]) rfl ?_
            refine go_p rfl rfl rfl (o_assign rfl) ?_
            refine go_nil ?_
            refine g_region ?_
            refine go_p rfl rfl rfl (o_move rfl) ?_
            obtain ⟨hg14, hj1⟩ := grd_some hj1
            refine go_p rfl rfl rfl (o_add rfl rfl (i64_id hg14)) ?_
            refine go_p rfl rfl rfl (o_assign rfl) ?_
            refine go_nil ?_
            exact ⟨_, (_, _), hj1, ⟨rfl, rfl, trivial⟩, ⟨rfl, rfl, rfl, trivial⟩, [], rfl⟩
          · replace hj1 := cond_f hc2 hj1
            refine g_region ?_
            refine go_p rfl rfl rfl (o_move rfl) ?_
            refine go_p rfl rfl rfl (o_move rfl) ?_
            refine go_p rfl rfl rfl (o_move rfl) ?_
            obtain ⟨x9, hx15, hj1⟩ := bind_some hj1
            refine go_p rfl rfl rfl (o_indexAddr_m Tryz.runUnderlying49 Tryz.sizeOf3 rfl rfl hx15) ?_
            refine go_p rfl rfl rfl (o_load Tryz.isAgg3 rfl rfl) ?_
            refine go_p rfl rfl rfl (o_buildSlice (xs := [_]) (f := D.i64) (l := [_]) Tryz.runUnderlying49 Tryz.sizeOf3 Tryz.zeroValue3 rfl rfl rfl (fun _ => ⟨rfl, rfl, rfl⟩) rfl) ?_
            obtain ⟨hg16, hj1⟩ := grd_some hj1
            refine go_op rfl rfl rfl (o_append (a := _) 0 Tryz.underlying49 Tryz.type3 rfl rfl rfl rfl rfl rfl rfl (fun _ => rfl) (fun _ => rfl) hg16 (app_len hg16 rfl)) ?_
            rintro _ _ ⟨a_r1, cap_r1, rfl, rfl⟩
            refine go_ms (ms' := [_, box b2 24 [_, _], box b1 24 [_, _]]) rfl ?_
            refine go_p rfl rfl rfl (o_assign rfl) ?_
            refine go_nil ?_
            refine g_region ?_
            refine go_p rfl rfl rfl (o_move rfl) ?_
            obtain ⟨hg17, hj1⟩ := grd_some hj1
            refine go_p rfl rfl rfl (o_add rfl rfl (i64_id hg17)) ?_
            refine go_p rfl rfl rfl (o_assign rfl) ?_
            refine go_nil ?_
            exact ⟨_, (_, _), hj1, ⟨rfl, rfl, trivial⟩, ⟨rfl, rfl, rfl, trivial⟩, [], rfl⟩
    · replace hj1 := cond_f hc1 hj1
      refine g_exit ?_
      exact ⟨_, (_, _), some_eq hj1, ⟨rfl, trivial⟩, ⟨rfl, rfl, rfl, trivial⟩, [], rfl⟩
  · rintro l1 ⟨a_r1, cap_r1⟩ hst
    subst hst
    refine k_norm (L' := [(5, .v (.slice a_r1 l1.length cap_r1)), (2, _), (3, _), (4, _)]) (ms' := [row a_r1 cap_r1 3 1 D.i64 l1, _, _]) rfl rfl ?_
    refine g_seq ?_
    refine g_region ?_
    refine go_p rfl rfl rfl (o_load_box_agg 1 Tryz.isAgg24 Tryz.sizeOf24 rfl rfl rfl rfl (Nat.le_of_ble_eq_true rfl)) ?_
    refine go_p rfl rfl rfl (o_move rfl) ?_
    refine go_p rfl rfl rfl (o_move rfl) ?_
    obtain ⟨x10, hx18, hm1⟩ := bind_some hm1
    refine go_p rfl rfl rfl (.view (peekE (i := 52) 0 rfl rfl rfl) (o_call0 Tryz.call41 rfl (w_syntagmaref28_With hx18))) ?_
    refine go_u rfl rfl (o_store_box 2 Tryz.sizeOf24 rfl rfl rfl rfl rfl rfl rfl rfl (Nat.le_of_ble_eq_true rfl)) ?_
    rintro _ _ rfl
    refine go_ms (ms' := [_, box b2 24 [_, _], box b1 24 [_, _]]) rfl ?_
    refine go_nil ?_
    refine g_ret ?_
    exact retK (ret_one' rfl (ret_cell 2 rfl rfl rfl Tryz.isAgg24 Tryz.sizeOf24 rfl) (perm_drop _)) (congrArg (fun (p : AutoAuto) => (AutoAuto.d p : D)) (some_eq hm1))
end Go.Proofs.YtafphfokopkhdaaGreat
set_option linter.unusedVariables false
set_option linter.unusedSimpArgs false
set_option maxRecDepth 100000
set_option maxHeartbeats 2000000
namespace Go.Proofs.YtafphfokopkhdaaGreat
open Go.V
section
open Go.Proofs Go.Shelf
theorem Tryz_mixed2 : Tryz.prog.follows .mixedOrders = true := by kernel_rfl
def del_ren : Go.Shelf.Ren := ⟨fun | 6 => 74 | 10 => 46 | n => n, fun | 22 => 49 | 23 => 3 | 25 => 82 | 3 => 3 | 4 => 4 | 0 => 0 | n => n, fun | n => n⟩
theorem del_lays : Go.Proofs.SlLaysH.n10 Tryz.prog del_ren := {
  mixed := by kernel_rfl
  f6 := ⟨Tryz.f74.name, by decide, Tryz.func74.trans (congrArg some (by kernel_rfl))⟩
  f10 := ⟨Tryz.f46.name, by decide, Tryz.func46.trans (congrArg some (by kernel_rfl))⟩
  t0 := Tryz.underlying0
  a0 := Tryz.isAgg0
  z0 := Tryz.sizeOf0
  v0 := Tryz.zeroValue0
  t3 := Tryz.underlying3
  a3 := Tryz.isAgg3
  z3 := Tryz.sizeOf3
  v3 := Tryz.zeroValue3
  t4 := Tryz.underlying4
  a4 := Tryz.isAgg4
  z4 := Tryz.sizeOf4
  v4 := Tryz.zeroValue4
  t22 := Tryz.underlying49
  a22 := Tryz.isAgg49
  z22 := Tryz.sizeOf49
  v22 := Tryz.zeroValue49
  a23 := Tryz.isAgg3
  z23 := Tryz.sizeOf3
  t25 := Tryz.underlying82
  a25 := Tryz.isAgg82
  z25 := Tryz.sizeOf82
  v25 := Tryz.zeroValue82 }
theorem idx_lays : Go.Proofs.SlLaysH.n6 Tryz.prog del_ren := { del_lays with }
theorem del_empty (a : Option Addr) (cap : Nat) (fv : Value) (w : World) : Calls Tryz.prog 46 #[.slice a 0 cap, fv] w fun e w' => e = .returned (.slice a 0 cap) ∧ w' = w := by
  have mixed := Tryz_mixed2
  go_enter Tryz.func46, Tryz.ntmps46
  have hI : ∀ (a : Option Addr) (c : Nat) (fv : Value) (w : World), Calls Tryz.prog 74 #[.slice a 0 c, fv] w fun e w' => e = .returned (.int .i64 (-1)) ∧ w' = w := fun a c fv w => AnyE.slices_IndexFunc_empty idx_lays a c fv w
  go_wp2_with (refine (hI _ _ _ _).mono ?_; rintro e w' ⟨rfl, rfl⟩)
  go_ret
  exact ⟨rfl, rfl⟩
theorem close48 (x : Int) (pb po mb clock : Nat) (es : Array MapEntry) (H : PH) (mm : List (Int × Bool)) (W : World) (hp : W.cell? ⟨pb, po, none⟩ = some (.map (some mb))) (h1 : W.heap[mb]? = some (.map es clock)) (h2 : MapOk kI64 D.bool H mm es.toList) : FnGives Tryz.prog 48 #[.pointer (some ⟨pb, po, none⟩)] #[.int .i64 x] (.bool ((mget mm x).getD false)) W := by
  have mixed := Tryz_mixed2
  have hl := lookup_run (P := Tryz.prog) (t := 78) x Tryz.runUnderlying78 (keyI64 Tryz.underlying3) Tryz.zeroValue4 h1 h2
  have hl : Sem.run Tryz.prog (Instr.lookup 78 (.map (some mb)) (.int .i64 x) false) W = _ := hl
  unfold FnGives
  show Calls Tryz.prog 48 #[.int .i64 x, .pointer (some ⟨pb, po, none⟩)] W _
  go_enter Tryz.func48, Tryz.ntmps48
  go_wp2
  go_ret
  exact ⟨rfl, 0, rfl⟩
theorem fn_del {a : Option Addr} {m cap mb : Nat} {l : List Int} {mm : List (Int × Bool)} :
    Go.V.Fn Tryz.prog 46 [.v (.slice a m cap), .clo (.func 48) [] [.ref (.v (.map (some mb)))]] [arr a m cap 3 1 D.i64 l, mp mb kI64 D.bool mm] (fun d ms' => ∃ m', d = .v (.slice a m' cap) ∧ ms' = [arr a m' cap 3 1 D.i64 (l.filter fun x => !(mget mm x).getD false), mp mb kI64 D.bool mm]) :=
  fn_delete Tryz.call48 (fun lb p blk off cap d w hp hpo hH hsz hcap => AnyE.slices_DeleteFunc del_lays (Value.int .i64) (fun _ => rfl) p 48 lb Tryz.call48 0 Tryz.zeroValue3 blk off cap d w hp hpo hH hsz hcap) del_empty close48
end
def m_pair_Between_l1 (s1 : AutoAuto) (l1 : (List Int)) : Nat → (Int × (List (Int × Bool))) → Option (List (Int × Bool))
  | 0, _ => none
  | n + 1, (x2, mm2) =>
    bif (decide (x2 < (l1.length : Int))) then
      (idx l1 x2).bind fun x3 =>
      (m_pair_between_43 (⟨s1.l, s1.start⟩ : AutoAuto) x3).bind fun x4 =>
      bif x4 then (grd (InR (x2 + 1)) <|
      m_pair_Between_l1 s1 l1 n ((x2 + 1), (mset mm2 x3 true))) else ((m_pair_between_44 (⟨s1.l, s1.start⟩ : AutoAuto) x3).bind fun x5 =>
      bif x5 then (grd (InR (x2 + 1)) <|
      m_pair_Between_l1 s1 l1 n ((x2 + 1), (mset mm2 x3 true))) else ((m_pair_between_45 (⟨s1.l, s1.start⟩ : AutoAuto) x3).bind fun x6 =>
      grd (InR (x2 + 1)) <|
      m_pair_Between_l1 s1 l1 n ((x2 + 1), (mset mm2 x3 x6))))
    else
      some mm2
def m_pair_Between_l2 (s1 : AutoAuto) (mm1 : (List (Int × Bool))) : Nat → (Int × Int × (List AutoState)) → Option (Int × (List AutoState))
  | 0, _ => none
  | n + 1, (x7, z2, l3) =>
    bif (decide (x7 < (s1.l.length : Int))) then
      (idx l3 x7).bind fun x8 =>
      grd (x8.vars.length * 8 ≤ 140737488355328) <|
      (idx l3 x7).bind fun x9 =>
      grd (InR (x7 + 1)) <|
      m_pair_Between_l2 s1 mm1 n ((x7 + 1), z2, (l3.set (x7).toNat (⟨x9.plus, x9.all, x9.int, x9.bool, x9.str, x9.arrow, x9.rec_, x9.tag, (x8.vars.filter fun x => !(mget mm1 x).getD false), x9.dom, x9.cod, x9.fields, x9.tags⟩ : AutoState)))
    else
      some (z2, l3)
def m_pair_Between (a1 : AutoAuto) : Option (AutoAuto × Int) :=
  (m_auto_NormO a1).bind fun (x1, s1) =>
  bif (!decide (x1 = 0)) then
    some ((⟨([] : List AutoState), 0⟩ : AutoAuto), x1)
  else
    (m_pair_doubles (⟨s1.l, s1.start⟩ : AutoAuto)).bind fun l1 =>
    (m_pair_Between_l1 s1 l1 FU (0, ([] : List (Int × Bool))) : Option (List (Int × Bool))).bind fun mm1 =>
    (m_pair_Between_l2 s1 mm1 FU (0, s1.start, s1.l) : Option (Int × (List AutoState))).bind fun (z1, l2) =>
    some ((⟨l2, z1⟩ : AutoAuto), x1)
theorem w_pair_Between {a1 : AutoAuto} {r_1 : AutoAuto} {r_2 : Int} (hm : m_pair_Between a1 = some (r_1, r_2)) : Fn0 Tryz.prog 16 [AutoAuto.d a1] (.tup [AutoAuto.d r_1, .i64 r_2]) := by
  unfold m_pair_Between at hm
  refine fn_intro Tryz.func16 rfl Tryz.ntmps16 rfl fun H0 fr w0 => ?_
  refine g_seq ?_
  refine g_region ?_
  refine go_p rfl rfl rfl (o_box rfl rfl) ?_
  refine go_op rfl rfl rfl (o_alloc_own Tryz.zeroValue27 (cs := [.list 13 AutoState.d [], .i64 0]) rfl) ?_
  rintro _ _ ⟨b1, rfl, rfl⟩
  refine go_p rfl rfl rfl (o_assign rfl) ?_
  refine go_nil ?_
  refine g_seq ?_
  refine g_region ?_
  refine go_p rfl rfl rfl (o_load_agg Tryz.isAgg27 Tryz.sizeOf27 rfl rfl) ?_
  obtain ⟨⟨x1, s1⟩, hx1, hm⟩ := bind_some hm
  refine go_op rfl rfl rfl (o_call (ms₁ := []) Tryz.call27 rfl (List.Perm.refl _) (w_auto_NormO hx1)) ?_
  rintro _ _ ⟨_, ⟨a_r1, m_r1, cap_r1, rfl, rfl⟩, rfl⟩
  refine go_p rfl rfl rfl (o_move rfl) ?_
  refine go_p rfl rfl rfl (o_extract rfl rfl) ?_
  refine go_p rfl rfl rfl (o_extract rfl rfl) ?_
  refine go_op rfl rfl rfl (o_alloc_own Tryz.zeroValue27 (cs := [.list 13 AutoState.d [], .i64 0]) rfl) ?_
  rintro _ _ ⟨b2, rfl, rfl⟩
  refine go_u rfl rfl (o_store_box 0 Tryz.sizeOf27 rfl rfl rfl rfl rfl rfl rfl rfl (Nat.le_of_ble_eq_true rfl)) ?_
  rintro _ _ rfl
  refine go_ms (ms' := [box b2 27 [_, _], _, box b1 27 [_, _]]) rfl ?_
  refine go_p rfl rfl rfl (o_assign rfl) ?_
  refine go_nil ?_
  refine g_seq ?_
  refine g_seq ?_
  refine g_region ?_
  refine go_p rfl rfl rfl (o_move rfl) ?_
  refine go_p rfl rfl rfl (o_cmp rfl rfl rfl) ?_
  refine go_nil ?_
  refine g_cond rfl (fun hc1 => ?_) (fun hc1 => ?_)
  · replace hm := cond_t hc1 hm
    refine g_seq ?_
    refine g_region ?_
    refine go_p rfl rfl rfl (o_build (zs := [.list 13 AutoState.d [], .v (.int .i64 0)]) Tryz.runUnderlying27 Tryz.zeroValue27 (pl_27 _ Tryz.runUnderlying27) rfl rfl rfl rfl) ?_
    refine go_p rfl rfl rfl (o_move rfl) ?_
    refine go_u rfl rfl (o_store_box 2 Tryz.sizeOf27 rfl rfl rfl rfl rfl rfl rfl rfl (Nat.le_of_ble_eq_true rfl)) ?_
    rintro _ _ rfl
    refine go_ms (ms' := [box b2 27 [_, _], _, box b1 27 [_, _]]) rfl ?_
    refine go_p rfl rfl rfl (o_assign rfl) ?_
    refine go_nil ?_
    refine g_ret ?_
    exact retK (ret_many (ds := [_, _]) rfl (by decide) ⟨ret_cell 2 rfl rfl rfl Tryz.isAgg27 Tryz.sizeOf27 rfl, ⟨ret_tmp rfl, rfl⟩⟩ (perm_drop _)) (congrArg (fun (p : (AutoAuto × Int)) => D.tup [AutoAuto.d p.1, .i64 p.2]) (some_eq hm))
  · replace hm := cond_f hc1 hm
    refine g_skip ?_
    refine g_seq ?_
    refine g_region ?_
    refine go_op rfl rfl rfl (o_makeMap (fk := kI64) (fv := D.bool)) ?_
    rintro _ _ ⟨b3, rfl, rfl⟩
    refine go_op rfl rfl rfl (o_alloc_own Tryz.zeroValue78 (cs := [.v (.map none)]) rfl) ?_
    rintro _ _ ⟨b4, rfl, rfl⟩
    refine go_u rfl rfl (o_store_box 0 Tryz.sizeOf78 rfl rfl rfl rfl rfl rfl rfl rfl (Nat.le_of_ble_eq_true rfl)) ?_
    rintro _ _ rfl
    refine go_ms (ms' := [box b4 78 [_], _, box b2 27 [_, _], _, box b1 27 [_, _]]) rfl ?_
    refine go_conv (refines_freeze (d := .v (.map (some b3))) 0 6 rfl rfl rfl rfl) ?_
    refine go_nil ?_
    refine g_seq ?_
    refine g_seq ?_
    refine g_region ?_
    refine go_p rfl rfl rfl (o_load_box_agg 1 Tryz.isAgg27 Tryz.sizeOf27 rfl rfl rfl rfl (Nat.le_of_ble_eq_true rfl)) ?_
    obtain ⟨l1, hx2, hm⟩ := bind_some hm
    refine go_op rfl rfl rfl (o_lend_row Tryz.call29 rfl (w_pair_doubles hx2) (sees_c (sees_agg (sees_c (sees_arr 2 rfl) (sees_c sees_rfl sees_nil))) sees_nil) still_i64) ?_
    rintro _ _ ⟨a_r2, cap_r2, rfl, rfl⟩
    refine go_p rfl rfl rfl (.view (peekE (i := 21) 0 rfl rfl rfl) (o_len Tryz.runUnderlying49 rfl)) ?_
    refine go_p rfl rfl rfl (o_move rfl) ?_
    refine go_nil ?_
    obtain ⟨o_1, hj1, hm1⟩ := bind_some hm
    refine g_cut_m [(2, _), (4, _), (5, _), (6, _)] [(0, _), (2, _), (3, _), (4, _)] (fun (st : (List (Int × Bool))) (hid : Unit) => match st, hid with | mm1, _ => []) (fun F (st : (List (Int × Bool))) (hid : Unit) => match st, hid with | mm1, _ => [(nthF F 0), mp b3 kI64 D.bool mm1, (nthF F 1), (nthF F 2), (nthF F 3)]) (fun st => st = o_1) ⟨rfl, rfl, rfl, rfl, trivial⟩ ⟨rfl, rfl, rfl, rfl, trivial⟩ ?_ ?_
    · skip
      refine g_block ?_
      refine g_loop_m [(2, _), (4, _), (5, _), (6, _), (21, _), (22, _)] [(0, _), (2, _), (3, _), (4, _)] (fun (st : (Int × (List (Int × Bool)))) (hid : Unit) => match st, hid with | (x2, mm2), _ => [(23, .i64 x2)]) (fun F (st : (Int × (List (Int × Bool)))) (hid : Unit) => match st, hid with | (x2, mm2), _ => [(nthF F 0), mp b3 kI64 D.bool mm2, (nthF F 1), (nthF F 2), (nthF F 3)]) () hj1 (fun _ => rfl) ⟨rfl, rfl, rfl, rfl, rfl, rfl, trivial⟩ ⟨rfl, rfl, rfl, rfl, trivial⟩ ⟨rfl, trivial⟩ rfl ?_
      rintro n ⟨x2, mm2⟩ _ hj1
      rw [m_pair_Between_l1] at hj1
      refine g_norm (L' := [(23, .i64 x2), (2, _), (4, _), (5, _), (6, _), (21, _), (22, _)]) (ms' := [_, mp b3 kI64 D.bool mm2, _, _, _]) rfl rfl ?_
      refine g_seq ?_
      refine g_region ?_
      refine go_p rfl rfl rfl (o_cmp rfl rfl rfl) ?_
      refine go_nil ?_
      refine g_seq ?_
      refine g_cond rfl (fun hc2 => ?_) (fun hc2 => ?_)
      · replace hj1 := cond_t hc2 hj1
        refine g_skip ?_
        refine g_seq ?_
        refine g_block ?_
        refine g_seq ?_
        refine g_region ?_
        obtain ⟨x3, hx3, hj1⟩ := bind_some hj1
        refine go_p rfl rfl rfl (.view (peekE (i := 21) 0 rfl rfl rfl) (o_indexAddr_m Tryz.runUnderlying49 Tryz.sizeOf3 rfl rfl hx3)) ?_
        refine go_p rfl rfl rfl (o_load Tryz.isAgg3 rfl rfl) ?_
        refine go_p rfl rfl rfl (o_assign rfl) ?_
        refine go_nil ?_
        obtain ⟨x4, hx4, hj1⟩ := bind_some hj1
        rcases cond_split hj1 with ⟨hg_1, hj1⟩ | ⟨hg_1, hj1⟩
        ·
          skip
          refine g_draw 15 Tryz_mixed (by decide +kernel) ?_
          refine gd_p rfl rfl rfl (o_load Tryz.isAgg78 rfl rfl) ?_
          refine gd_p rfl rfl rfl (o_move rfl) ?_
          refine gd_p rfl rfl rfl (o_load_box_agg 2 Tryz.isAgg27 Tryz.sizeOf27 rfl rfl rfl rfl (Nat.le_of_ble_eq_true rfl)) ?_
          refine gd_p rfl rfl rfl (o_move rfl) ?_
          refine gd_p rfl rfl rfl (o_lend Tryz.call42 rfl (w_pair_between_43 hx4) (sees_c (sees_agg (sees_c (sees_arr 3 rfl) (sees_c sees_rfl sees_nil))) (sees_c sees_rfl (sees_c sees_rfl sees_nil))) still_v) ?_
          refine gd_p rfl rfl rfl (o_move rfl) ?_
          refine gd_skip rfl rfl rfl hg_1 rfl rfl ?_
          refine gd_skip rfl rfl rfl hg_1 rfl rfl ?_
          refine gd_skip rfl rfl rfl hg_1 rfl rfl ?_
          refine gd_p rfl rfl rfl (o_pickT rfl hg_1 rfl) ?_
          refine gd_p rfl rfl rfl (o_move rfl) ?_
          refine gd_skip rfl rfl rfl rfl rfl rfl ?_
          refine gd_skip rfl rfl rfl rfl rfl rfl ?_
          refine gd_skip rfl rfl rfl rfl rfl rfl ?_
          refine gd_p rfl rfl rfl (o_pickT rfl rfl rfl) ?_
          refine gd_nil ?_
          refine go_u rfl rfl (o_mapUpdate (v := true) 1 Tryz.runUnderlying78 (keyI64 Tryz.underlying3) rfl rfl rfl rfl) ?_
          rintro _ _ rfl
          refine go_nil ?_
          refine g_region ?_
          obtain ⟨hg5, hj1⟩ := grd_some hj1
          refine go_p rfl rfl rfl (o_add rfl rfl (i64_id hg5)) ?_
          refine go_p rfl rfl rfl (o_move rfl) ?_
          refine go_nil ?_
          exact ⟨_, (), hj1, ⟨rfl, trivial⟩, ⟨rfl, rfl, rfl, rfl, rfl, rfl, trivial⟩, [], rfl⟩
        ·
          skip
          obtain ⟨x5, hx6, hj1⟩ := bind_some hj1
          rcases cond_split hj1 with ⟨hg_2, hj1⟩ | ⟨hg_2, hj1⟩
          ·
            skip
            refine g_draw 15 Tryz_mixed (by decide +kernel) ?_
            refine gd_p rfl rfl rfl (o_load Tryz.isAgg78 rfl rfl) ?_
            refine gd_p rfl rfl rfl (o_move rfl) ?_
            refine gd_p rfl rfl rfl (o_load_box_agg 2 Tryz.isAgg27 Tryz.sizeOf27 rfl rfl rfl rfl (Nat.le_of_ble_eq_true rfl)) ?_
            refine gd_p rfl rfl rfl (o_move rfl) ?_
            refine gd_p rfl rfl rfl (o_lend Tryz.call42 rfl (w_pair_between_43 hx4) (sees_c (sees_agg (sees_c (sees_arr 3 rfl) (sees_c sees_rfl sees_nil))) (sees_c sees_rfl (sees_c sees_rfl sees_nil))) still_v) ?_
            refine gd_p rfl rfl rfl (o_move rfl) ?_
            refine gd_want rfl rfl rfl hg_1 rfl rfl (o_load_box_agg 2 Tryz.isAgg27 Tryz.sizeOf27 rfl rfl rfl rfl (Nat.le_of_ble_eq_true rfl)) ?_
            refine gd_want rfl rfl rfl hg_1 rfl rfl (o_move rfl) ?_
            refine gd_want rfl rfl rfl hg_1 rfl rfl (o_lend Tryz.call42 rfl (w_pair_between_44 hx6) (sees_c (sees_agg (sees_c (sees_arr 3 rfl) (sees_c sees_rfl sees_nil))) (sees_c sees_rfl (sees_c sees_rfl sees_nil))) still_v) ?_
            refine gd_p rfl rfl rfl (o_pickF rfl hg_1 rfl) ?_
            refine gd_p rfl rfl rfl (o_move rfl) ?_
            refine gd_skip rfl rfl rfl hg_2 rfl rfl ?_
            refine gd_skip rfl rfl rfl hg_2 rfl rfl ?_
            refine gd_skip rfl rfl rfl hg_2 rfl rfl ?_
            refine gd_p rfl rfl rfl (o_pickT rfl hg_2 rfl) ?_
            refine gd_nil ?_
            refine go_u rfl rfl (o_mapUpdate (v := true) 1 Tryz.runUnderlying78 (keyI64 Tryz.underlying3) rfl rfl rfl rfl) ?_
            rintro _ _ rfl
            refine go_nil ?_
            refine g_region ?_
            obtain ⟨hg7, hj1⟩ := grd_some hj1
            refine go_p rfl rfl rfl (o_add rfl rfl (i64_id hg7)) ?_
            refine go_p rfl rfl rfl (o_move rfl) ?_
            refine go_nil ?_
            exact ⟨_, (), hj1, ⟨rfl, trivial⟩, ⟨rfl, rfl, rfl, rfl, rfl, rfl, trivial⟩, [], rfl⟩
          ·
            skip
            obtain ⟨x6, hx8, hj1⟩ := bind_some hj1
            refine g_draw 15 Tryz_mixed (by decide +kernel) ?_
            refine gd_p rfl rfl rfl (o_load Tryz.isAgg78 rfl rfl) ?_
            refine gd_p rfl rfl rfl (o_move rfl) ?_
            refine gd_p rfl rfl rfl (o_load_box_agg 2 Tryz.isAgg27 Tryz.sizeOf27 rfl rfl rfl rfl (Nat.le_of_ble_eq_true rfl)) ?_
            refine gd_p rfl rfl rfl (o_move rfl) ?_
            refine gd_p rfl rfl rfl (o_lend Tryz.call42 rfl (w_pair_between_43 hx4) (sees_c (sees_agg (sees_c (sees_arr 3 rfl) (sees_c sees_rfl sees_nil))) (sees_c sees_rfl (sees_c sees_rfl sees_nil))) still_v) ?_
            refine gd_p rfl rfl rfl (o_move rfl) ?_
            refine gd_want rfl rfl rfl hg_1 rfl rfl (o_load_box_agg 2 Tryz.isAgg27 Tryz.sizeOf27 rfl rfl rfl rfl (Nat.le_of_ble_eq_true rfl)) ?_
            refine gd_want rfl rfl rfl hg_1 rfl rfl (o_move rfl) ?_
            refine gd_want rfl rfl rfl hg_1 rfl rfl (o_lend Tryz.call42 rfl (w_pair_between_44 hx6) (sees_c (sees_agg (sees_c (sees_arr 3 rfl) (sees_c sees_rfl sees_nil))) (sees_c sees_rfl (sees_c sees_rfl sees_nil))) still_v) ?_
            refine gd_p rfl rfl rfl (o_pickF rfl hg_1 rfl) ?_
            refine gd_p rfl rfl rfl (o_move rfl) ?_
            refine gd_want rfl rfl rfl hg_2 rfl rfl (o_load_box_agg 2 Tryz.isAgg27 Tryz.sizeOf27 rfl rfl rfl rfl (Nat.le_of_ble_eq_true rfl)) ?_
            refine gd_want rfl rfl rfl hg_2 rfl rfl (o_move rfl) ?_
            refine gd_want rfl rfl rfl hg_2 rfl rfl (o_lend Tryz.call42 rfl (w_pair_between_45 hx8) (sees_c (sees_agg (sees_c (sees_arr 3 rfl) (sees_c sees_rfl sees_nil))) (sees_c sees_rfl (sees_c sees_rfl sees_nil))) still_v) ?_
            refine gd_p rfl rfl rfl (o_pickF rfl hg_2 rfl) ?_
            refine gd_nil ?_
            refine go_u rfl rfl (o_mapUpdate (v := x6) 1 Tryz.runUnderlying78 (keyI64 Tryz.underlying3) rfl rfl rfl rfl) ?_
            rintro _ _ rfl
            refine go_nil ?_
            refine g_region ?_
            obtain ⟨hg9, hj1⟩ := grd_some hj1
            refine go_p rfl rfl rfl (o_add rfl rfl (i64_id hg9)) ?_
            refine go_p rfl rfl rfl (o_move rfl) ?_
            refine go_nil ?_
            exact ⟨_, (), hj1, ⟨rfl, trivial⟩, ⟨rfl, rfl, rfl, rfl, rfl, rfl, trivial⟩, [], rfl⟩
      · replace hj1 := cond_f hc2 hj1
        refine g_exit ?_
        exact ⟨_, (), some_eq hj1, trivial, ⟨rfl, rfl, rfl, rfl, trivial⟩, [], rfl⟩
    · rintro mm1 _ hst
      subst hst
      refine k_norm (L' := [(2, _), (4, _), (5, _), (6, _)]) (ms' := [_, mp b3 kI64 D.bool mm1, _, _, _]) rfl rfl ?_
      refine g_seq ?_
      refine g_seq ?_
      refine g_region ?_
      refine go_p rfl rfl rfl (o_fieldAddr_box fi_27_0 rfl) ?_
      refine go_p rfl rfl rfl (o_load_box 2 Tryz.isAgg25 rfl rfl rfl rfl) ?_
      refine go_p rfl rfl rfl (o_len_arr 3 Tryz.runUnderlying25 rfl rfl) ?_
      refine go_p rfl rfl rfl (o_move rfl) ?_
      refine go_nil ?_
      obtain ⟨o_2, hj2, hm2⟩ := bind_some hm1
      refine g_cut_m [(2, _), (4, _), (5, _)] [(0, _), (1, _), (4, _)] (fun (st : (Int × (List AutoState))) (hid : Unit) => match st, hid with | (z1, l2), _ => []) (fun F (st : (Int × (List AutoState))) (hid : Unit) => match st, hid with | (z1, l2), _ => [(nthF F 0), (nthF F 1), box b2 27 [.v (.slice a_r1 m_r1 cap_r1), .i64 z1], arr a_r1 m_r1 cap_r1 60 13 AutoState.d l2, (nthF F 2)]) (fun st => st = o_2) ⟨rfl, rfl, rfl, trivial⟩ ⟨rfl, rfl, rfl, trivial⟩ ?_ ?_
      · skip
        refine g_block ?_
        refine g_loop_m [(2, _), (4, _), (5, _), (6, _), (45, _)] [(0, _), (1, _), (4, _)] (fun (st : (Int × Int × (List AutoState))) (hid : Unit) => match st, hid with | (x7, z2, l3), _ => [(46, .i64 x7)]) (fun F (st : (Int × Int × (List AutoState))) (hid : Unit) => match st, hid with | (x7, z2, l3), _ => [(nthF F 0), (nthF F 1), box b2 27 [.v (.slice a_r1 m_r1 cap_r1), .i64 z2], arr a_r1 m_r1 cap_r1 60 13 AutoState.d l3, (nthF F 2)]) () hj2 (fun _ => rfl) ⟨rfl, rfl, rfl, rfl, rfl, trivial⟩ ⟨rfl, rfl, rfl, trivial⟩ ⟨rfl, trivial⟩ rfl ?_
        rintro n ⟨x7, z2, l3⟩ ⟨⟩ hj2
        rw [m_pair_Between_l2] at hj2
        refine g_norm (L' := [(46, .i64 x7), (2, _), (4, _), (5, _), (6, _), (45, _)]) (ms' := [_, _, box b2 27 [.v (.slice a_r1 m_r1 cap_r1), .i64 z2], arr a_r1 m_r1 cap_r1 60 13 AutoState.d l3, _]) rfl rfl ?_
        refine g_seq ?_
        refine g_region ?_
        refine go_p rfl rfl rfl (o_cmp rfl rfl rfl) ?_
        refine go_nil ?_
        refine g_seq ?_
        refine g_cond rfl (fun hc3 => ?_) (fun hc3 => ?_)
        · replace hj2 := cond_t hc3 hj2
          refine g_skip ?_
          refine g_seq ?_
          refine g_block ?_
          refine g_seq ?_
          refine g_region ?_
          refine go_p rfl rfl rfl (o_move rfl) ?_
          refine go_p rfl rfl rfl (o_assign rfl) ?_
          refine go_nil ?_
          obtain ⟨x8, hx10, hj2⟩ := bind_some hj2
          obtain ⟨hg11, hj2⟩ := grd_some hj2
          obtain ⟨x9, hx12, hj2⟩ := bind_some hj2
          refine g_draw_c [9, 11, 14] [0, 1, 2, 10, 12, 13] [1, 12, 13] Tryz_mixed (by decide +kernel) (by decide +kernel) rfl ?_
          refine gde_p rfl rfl rfl rfl rfl rfl (o_fieldAddr_box fi_27_0 rfl) ?_
          refine gde_f rfl rfl rfl rfl rfl (o_load_box 2 Tryz.isAgg25 rfl rfl rfl rfl) ?_
          refine gde_p rfl rfl rfl rfl rfl rfl (o_move rfl) ?_
          refine gde_p rfl rfl rfl rfl rfl rfl (o_fieldAddr_box fi_27_0 rfl) ?_
          refine gde_p rfl rfl rfl rfl rfl rfl (o_load_box 2 Tryz.isAgg25 rfl rfl rfl rfl) ?_
          refine gde_p rfl rfl rfl rfl rfl rfl (o_move rfl) ?_
          refine gde_p rfl rfl rfl rfl rfl rfl (o_indexAddr_arr 3 Tryz.runUnderlying25 Tryz.sizeOf60 rfl rfl rfl hx10) ?_
          refine gde_p rfl rfl rfl rfl rfl rfl (o_fieldAddr_apt (b := 0) 3 fi_60_8 rfl rfl (idx_some hx10).2) ?_
          refine gde_p rfl rfl rfl rfl rfl rfl (o_load_arr (off := 8) 3 Tryz.isAgg49 rfl rfl (idx_some hx10).2 rfl rfl rfl) ?_
          refine gde_e rfl ?_
          refine gde_p rfl rfl rfl rfl rfl rfl (o_makeFunc rfl rfl) ?_
          refine gde_e rfl ?_
          refine gde_f rfl rfl rfl rfl rfl (o_indexAddr_arr2 3 Tryz.runUnderlying25 Tryz.sizeOf60 rfl rfl rfl (by first | exact idx_ex hx12 | exact idx_ex_set (idx_ex hx12) | exact idx_ex_set (idx_ex_set (idx_ex hx12)))) ?_
          refine gde_f rfl rfl rfl rfl rfl (o_fieldAddr_apt (b := 0) 3 fi_60_8 rfl rfl (by first | exact (idx_some hx12).2 | exact set_idx hx12)) ?_
          refine gde_e rfl ?_
          refine gde_nil ?_
          refine gde2_t rfl rfl rfl rfl (o_call (ms₁ := []) Tryz.call47 rfl (List.Perm.refl _) (w_Clone_47 hg11)) ?_
          rintro _ _ ⟨_, ⟨a_r3, cap_r3, rfl, rfl⟩, rfl⟩
          generalize hm_r3 : x8.vars.length = m_r3
          clear hm_r3
          refine ⟨⟨⟨⟨trivial, o_load_box 3 Tryz.isAgg25 rfl rfl rfl rfl⟩, o_indexAddr_arr2 4 Tryz.runUnderlying25 Tryz.sizeOf60 rfl rfl rfl (by first | exact idx_ex hx12 | exact idx_ex_set (idx_ex hx12) | exact idx_ex_set (idx_ex_set (idx_ex hx12)))⟩, o_fieldAddr_apt (b := 0) 4 fi_60_8 rfl rfl (by first | exact (idx_some hx12).2 | exact set_idx hx12)⟩, ?_⟩
          refine gde2_t rfl rfl rfl rfl (o_call_own [0, 2] Tryz.call46 rfl rfl (getL_c rfl (getL_c rfl getL_n)) fn_del (by rintro _ _ ⟨_, _, rfl⟩; rfl)) ?_
          rintro _ _ ⟨_, ⟨m_r3, rfl, rfl⟩, rfl⟩
          show _ ∧ GDE2 _ _ _ _ _ _ _ _ ([_, _, _, box b2 27 [_, _], _, box b1 27 [_, _]])
          refine ⟨⟨⟨⟨trivial, o_load_box 3 Tryz.isAgg25 rfl rfl rfl rfl⟩, o_indexAddr_arr2 4 Tryz.runUnderlying25 Tryz.sizeOf60 rfl rfl rfl (by first | exact idx_ex hx12 | exact idx_ex_set (idx_ex hx12) | exact idx_ex_set (idx_ex_set (idx_ex hx12)))⟩, o_fieldAddr_apt (b := 0) 4 fi_60_8 rfl rfl (by first | exact (idx_some hx12).2 | exact set_idx hx12)⟩, ?_⟩
          refine gde2_u rfl rfl rfl (OpT.thaw 0 rfl rfl (fun hl => .view (peekE (i := 60) 0 rfl rfl hl) (o_store_arr (off := 8) (z' := (⟨x9.plus, x9.all, x9.int, x9.bool, x9.str, x9.arrow, x9.rec_, x9.tag, (x8.vars.filter fun x => !(mget mm1 x).getD false), x9.dom, x9.cod, x9.fields, x9.tags⟩ : AutoState)) 4 Tryz.sizeOf49 rfl rfl (idx_some hx12).2 rfl rfl rfl rfl rfl rfl (Nat.le_of_ble_eq_true rfl) rfl rfl))) ?_
          rintro _ _ rfl
          refine ⟨⟨⟨⟨trivial, o_load_box 3 Tryz.isAgg25 rfl rfl rfl rfl⟩, o_indexAddr_arr2 4 Tryz.runUnderlying25 Tryz.sizeOf60 rfl rfl rfl (by first | exact idx_ex hx12 | exact idx_ex_set (idx_ex hx12) | exact idx_ex_set (idx_ex_set (idx_ex hx12)))⟩, o_fieldAddr_apt (b := 0) 4 fi_60_8 rfl rfl (by first | exact (idx_some hx12).2 | exact set_idx hx12)⟩, ?_⟩
          refine gde2_nil ?_
          refine g_region ?_
          obtain ⟨hg13, hj2⟩ := grd_some hj2
          refine go_p rfl rfl rfl (o_add rfl rfl (i64_id hg13)) ?_
          refine go_p rfl rfl rfl (o_move rfl) ?_
          refine go_nil ?_
          exact ⟨_, (), hj2, ⟨rfl, trivial⟩, ⟨rfl, rfl, rfl, rfl, rfl, trivial⟩, [_], rfl⟩
        · replace hj2 := cond_f hc3 hj2
          refine g_exit ?_
          exact ⟨_, (), some_eq hj2, trivial, ⟨rfl, rfl, rfl, trivial⟩, [], rfl⟩
      · rintro ⟨z1, l2⟩ ⟨⟩ hst
        subst hst
        refine k_norm (L' := [(2, _), (4, _), (5, _)]) (ms' := [_, _, box b2 27 [.v (.slice a_r1 m_r1 cap_r1), .i64 z1], arr a_r1 m_r1 cap_r1 60 13 AutoState.d l2, _]) rfl rfl ?_
        refine g_seq ?_
        refine g_region ?_
        refine go_thaw 3 rfl rfl ?_
        rintro rfl
        refine go_p rfl rfl rfl (o_load_box_agg 2 Tryz.isAgg27 Tryz.sizeOf27 rfl rfl rfl rfl (Nat.le_of_ble_eq_true rfl)) ?_
        refine go_conv (peekAggE (i := 64) (q := 0) 3 rfl rfl rfl rfl rfl).refines ?_
        refine go_p rfl rfl rfl (o_move rfl) ?_
        refine go_u rfl rfl (o_store_box 4 Tryz.sizeOf27 rfl rfl rfl rfl rfl rfl rfl rfl (Nat.le_of_ble_eq_true rfl)) ?_
        rintro _ _ rfl
        refine go_ms (ms' := [_, _, box b2 27 [_, _], _, box b1 27 [_, _]]) rfl ?_
        refine go_p rfl rfl rfl (o_assign rfl) ?_
        refine go_nil ?_
        refine g_ret ?_
        exact retK (ret_many (ds := [_, _]) rfl (by decide) ⟨ret_cell 4 rfl rfl rfl Tryz.isAgg27 Tryz.sizeOf27 rfl, ⟨ret_tmp rfl, rfl⟩⟩ (perm_drop _)) (congrArg (fun (p : (AutoAuto × Int)) => D.tup [AutoAuto.d p.1, .i64 p.2]) (some_eq hm2))
def m_syntagmalaw29_PairBetween (a1 : AutoAuto) : Option Bool :=
  (m_syntagmalaw24_Give a1 14).bind fun x1 =>
  (m_syntagmalaw24_Give a1 14).bind fun x2 =>
  (m_pair_Between x2).bind fun (x3, x4) =>
  (m_syntagmalaw24_Of (⟨x1.l, x1.start⟩ : AutoAuto)).bind fun x5 =>
  (m_syntagmaref24_May (⟨x5.l, x5.start⟩ : AutoAuto)).bind fun x6 =>
  bif (!decide (x6 = 0)) then
    (bif ((decide (x4 = x6)) && (decide ((x3.l.length : Int) = 0))) then ((m_syntagmalaw29_works).bind fun x7 =>
    some x7) else (some false)).bind fun p1 =>
    some p1
  else
    bif (decide (x4 = 0)) then ((m_syntagmalaw24_Of (⟨x3.l, x3.start⟩ : AutoAuto)).bind fun x8 =>
    (m_syntagmaref29_Between (⟨x5.l, x5.start⟩ : AutoAuto)).bind fun x9 =>
    (m_syntagmaref24_SameList x8 x9).bind fun x10 =>
    bif x10 then ((m_syntagmalaw29_works).bind fun x11 =>
    some x11) else (some false)) else (some false)
theorem w_syntagmalaw29_PairBetween {a1 : AutoAuto} {r_1 : Bool} (hm : m_syntagmalaw29_PairBetween a1 = some r_1) : Fn0 Tryz.prog 4 [AutoAuto.d a1] (.bool r_1) := by
  unfold m_syntagmalaw29_PairBetween at hm
  refine fn_intro Tryz.func4 rfl Tryz.ntmps4 rfl fun H0 fr w0 => ?_
  refine g_seq ?_
  refine g_region ?_
  refine go_p rfl rfl rfl (o_box rfl rfl) ?_
  refine go_p rfl rfl rfl (o_assign rfl) ?_
  refine go_nil ?_
  refine g_seq ?_
  refine g_region ?_
  refine go_p rfl rfl rfl (o_load_agg Tryz.isAgg24 Tryz.sizeOf24 rfl rfl) ?_
  obtain ⟨x1, hx1, hm⟩ := bind_some hm
  refine go_p rfl rfl rfl (o_call0 Tryz.call6 rfl (w_syntagmalaw24_Give hx1)) ?_
  refine go_op rfl rfl rfl (o_alloc_own Tryz.zeroValue27 (cs := [.list 13 AutoState.d [], .i64 0]) rfl) ?_
  rintro _ _ ⟨b1, rfl, rfl⟩
  refine go_u rfl rfl (o_store_box 0 Tryz.sizeOf27 rfl rfl rfl rfl rfl rfl rfl rfl (Nat.le_of_ble_eq_true rfl)) ?_
  rintro _ _ rfl
  refine go_ms (ms' := [box b1 27 [_, _]]) rfl ?_
  refine go_nil ?_
  refine g_seq ?_
  refine g_region ?_
  refine go_p rfl rfl rfl (o_load_agg Tryz.isAgg24 Tryz.sizeOf24 rfl rfl) ?_
  obtain ⟨x2, hx2, hm⟩ := bind_some hm
  refine go_p rfl rfl rfl (o_call0 Tryz.call6 rfl (w_syntagmalaw24_Give hx2)) ?_
  obtain ⟨⟨x3, x4⟩, hx3, hm⟩ := bind_some hm
  refine go_p rfl rfl rfl (o_call0 Tryz.call16 rfl (w_pair_Between hx3)) ?_
  refine go_p rfl rfl rfl (o_move rfl) ?_
  refine go_p rfl rfl rfl (o_extract rfl rfl) ?_
  refine go_p rfl rfl rfl (o_extract rfl rfl) ?_
  refine go_op rfl rfl rfl (o_alloc_own Tryz.zeroValue27 (cs := [.list 13 AutoState.d [], .i64 0]) rfl) ?_
  rintro _ _ ⟨b2, rfl, rfl⟩
  refine go_u rfl rfl (o_store_box 0 Tryz.sizeOf27 rfl rfl rfl rfl rfl rfl rfl rfl (Nat.le_of_ble_eq_true rfl)) ?_
  rintro _ _ rfl
  refine go_ms (ms' := [box b2 27 [_, _], box b1 27 [_, _]]) rfl ?_
  refine go_p rfl rfl rfl (o_assign rfl) ?_
  refine go_nil ?_
  refine g_seq ?_
  refine g_region ?_
  refine go_p rfl rfl rfl (o_load_box_agg 1 Tryz.isAgg27 Tryz.sizeOf27 rfl rfl rfl rfl (Nat.le_of_ble_eq_true rfl)) ?_
  obtain ⟨x5, hx4, hm⟩ := bind_some hm
  refine go_p rfl rfl rfl (o_call0 Tryz.call8 rfl (w_syntagmalaw24_Of hx4)) ?_
  refine go_op rfl rfl rfl (o_alloc_own Tryz.zeroValue24 (cs := [.list 13 AutoState.d [], .i64 0]) rfl) ?_
  rintro _ _ ⟨b3, rfl, rfl⟩
  refine go_u rfl rfl (o_store_box 0 Tryz.sizeOf24 rfl rfl rfl rfl rfl rfl rfl rfl (Nat.le_of_ble_eq_true rfl)) ?_
  rintro _ _ rfl
  refine go_ms (ms' := [box b3 24 [_, _], box b2 27 [_, _], box b1 27 [_, _]]) rfl ?_
  refine go_nil ?_
  refine g_seq ?_
  refine g_seq ?_
  refine g_region ?_
  refine go_p rfl rfl rfl (o_load_box_agg 0 Tryz.isAgg24 Tryz.sizeOf24 rfl rfl rfl rfl (Nat.le_of_ble_eq_true rfl)) ?_
  obtain ⟨x6, hx5, hm⟩ := bind_some hm
  refine go_p rfl rfl rfl (o_call0 Tryz.call9 rfl (w_syntagmaref24_May hx5)) ?_
  refine go_p rfl rfl rfl (o_assign rfl) ?_
  refine go_nil ?_
  refine g_seq ?_
  refine g_region ?_
  refine go_p rfl rfl rfl (o_move rfl) ?_
  refine go_p rfl rfl rfl (o_cmp rfl rfl rfl) ?_
  refine go_nil ?_
  refine g_cond rfl (fun hc1 => ?_) (fun hc1 => ?_)
  · replace hm := cond_t hc1 hm
    refine g_seq ?_
    refine g_region ?_
    refine go_p rfl rfl rfl (o_move rfl) ?_
    refine go_p rfl rfl rfl (o_move rfl) ?_
    refine go_p rfl rfl rfl (o_cmp rfl rfl rfl) ?_
    refine go_p rfl rfl rfl (o_move rfl) ?_
    apply go_and [] 5 30 (t := 25) trivial rfl
    · intro hg_1 hk1
      refine go_wantp rfl rfl rfl hg_1 rfl rfl (o_fieldAddr_box fi_27_0 rfl) ?_
      refine go_wantp rfl rfl rfl hg_1 rfl rfl (o_load_box 1 Tryz.isAgg25 rfl rfl rfl rfl) ?_
      refine go_wantp rfl rfl rfl hg_1 rfl rfl (o_len Tryz.runUnderlying25 rfl) ?_
      refine go_wantp rfl rfl rfl hg_1 rfl rfl (o_cmp rfl rfl rfl) ?_
      refine go_p rfl rfl rfl (o_pickT rfl hg_1 rfl) ?_
      exact go_meet hk1 (rfl) trivial
    · intro hg_1 hk1
      refine go_skip rfl rfl rfl hg_1 rfl rfl ?_
      refine go_skip rfl rfl rfl hg_1 rfl rfl ?_
      refine go_skip rfl rfl rfl hg_1 rfl rfl ?_
      refine go_skip rfl rfl rfl hg_1 rfl rfl ?_
      refine go_p rfl rfl rfl (o_pickF rfl hg_1 rfl) ?_
      exact go_meet hk1 (rfl) trivial
    refine go_p rfl rfl rfl (o_move rfl) ?_
    obtain ⟨p1, hp_2, hm⟩ := bind_some hm
    refine go_two [] 2 33 p1 (t := 31) trivial rfl (fun hg_2 hk2 => ?_) (fun hg_2 hk2 => ?_) ?_
    · replace hp_2 := cond_t hg_2 hp_2
      obtain ⟨x7, hx6, hp_2⟩ := bind_some hp_2
      refine go_wantp rfl rfl rfl hg_2 rfl rfl (o_call0 Tryz.call11 rfl (w_syntagmalaw29_works hx6)) ?_
      refine go_p rfl rfl rfl (o_pickT rfl hg_2 rfl) ?_
      exact go_meet hk2 (congrArg (fun b => some (D.bool b)) (some_eq hp_2)) trivial
    · replace hp_2 := cond_f hg_2 hp_2
      refine go_skip rfl rfl rfl hg_2 rfl rfl ?_
      refine go_p rfl rfl rfl (o_pickF rfl hg_2 rfl) ?_
      exact go_meet hk2 (congrArg (fun b => some (D.bool b)) (some_eq hp_2)) trivial
    refine go_p rfl rfl rfl (o_assign rfl) ?_
    refine go_nil ?_
    refine g_ret ?_
    exact retK (ret_one' rfl (ret_tmp rfl) (perm_drop _)) (congrArg (fun (p : Bool) => (.bool p : D)) (some_eq hm))
  · replace hm := cond_f hc1 hm
    refine g_skip ?_
    refine g_seq ?_
    rcases cond_split hm with ⟨hg_3, hm⟩ | ⟨hg_3, hm⟩
    ·
      skip
      obtain ⟨x8, hx7, hm⟩ := bind_some hm
      obtain ⟨x9, hx8, hm⟩ := bind_some hm
      obtain ⟨x10, hx9, hm⟩ := bind_some hm
      rcases cond_split hm with ⟨hg_4, hm⟩ | ⟨hg_4, hm⟩
      ·
        skip
        obtain ⟨x11, hx10, hm⟩ := bind_some hm
        refine g_draw 13 Tryz_mixed (by decide +kernel) ?_
        refine gd_p rfl rfl rfl (o_move rfl) ?_
        refine gd_p rfl rfl rfl (o_cmp rfl rfl rfl) ?_
        refine gd_p rfl rfl rfl (o_move rfl) ?_
        refine gd_want rfl rfl rfl hg_3 rfl rfl (o_load_box_agg 1 Tryz.isAgg27 Tryz.sizeOf27 rfl rfl rfl rfl (Nat.le_of_ble_eq_true rfl)) ?_
        refine gd_want rfl rfl rfl hg_3 rfl rfl (o_call0 Tryz.call8 rfl (w_syntagmalaw24_Of hx7)) ?_
        refine gd_want rfl rfl rfl hg_3 rfl rfl (o_load_box_agg 0 Tryz.isAgg24 Tryz.sizeOf24 rfl rfl rfl rfl (Nat.le_of_ble_eq_true rfl)) ?_
        refine gd_want rfl rfl rfl hg_3 rfl rfl (o_call0 Tryz.call17 rfl (w_syntagmaref29_Between hx8)) ?_
        refine gd_want rfl rfl rfl hg_3 rfl rfl (o_call0 Tryz.call14 rfl (w_syntagmaref24_SameList hx9)) ?_
        refine gd_p rfl rfl rfl (o_pickT rfl hg_3 rfl) ?_
        refine gd_p rfl rfl rfl (o_move rfl) ?_
        refine gd_want rfl rfl rfl hg_4 rfl rfl (o_call0 Tryz.call11 rfl (w_syntagmalaw29_works hx10)) ?_
        refine gd_p rfl rfl rfl (o_pickT rfl hg_4 rfl) ?_
        refine gd_p rfl rfl rfl (o_assign rfl) ?_
        refine gd_nil ?_
        refine go_nil ?_
        refine g_ret ?_
        exact retK (ret_one' rfl (ret_tmp rfl) (perm_drop _)) (congrArg (fun (p : Bool) => (.bool p : D)) (some_eq hm))
      ·
        skip
        refine g_draw 13 Tryz_mixed (by decide +kernel) ?_
        refine gd_p rfl rfl rfl (o_move rfl) ?_
        refine gd_p rfl rfl rfl (o_cmp rfl rfl rfl) ?_
        refine gd_p rfl rfl rfl (o_move rfl) ?_
        refine gd_want rfl rfl rfl hg_3 rfl rfl (o_load_box_agg 1 Tryz.isAgg27 Tryz.sizeOf27 rfl rfl rfl rfl (Nat.le_of_ble_eq_true rfl)) ?_
        refine gd_want rfl rfl rfl hg_3 rfl rfl (o_call0 Tryz.call8 rfl (w_syntagmalaw24_Of hx7)) ?_
        refine gd_want rfl rfl rfl hg_3 rfl rfl (o_load_box_agg 0 Tryz.isAgg24 Tryz.sizeOf24 rfl rfl rfl rfl (Nat.le_of_ble_eq_true rfl)) ?_
        refine gd_want rfl rfl rfl hg_3 rfl rfl (o_call0 Tryz.call17 rfl (w_syntagmaref29_Between hx8)) ?_
        refine gd_want rfl rfl rfl hg_3 rfl rfl (o_call0 Tryz.call14 rfl (w_syntagmaref24_SameList hx9)) ?_
        refine gd_p rfl rfl rfl (o_pickT rfl hg_3 rfl) ?_
        refine gd_p rfl rfl rfl (o_move rfl) ?_
        refine gd_skip rfl rfl rfl hg_4 rfl rfl ?_
        refine gd_p rfl rfl rfl (o_pickF rfl hg_4 rfl) ?_
        refine gd_p rfl rfl rfl (o_assign rfl) ?_
        refine gd_nil ?_
        refine go_nil ?_
        refine g_ret ?_
        exact retK (ret_one' rfl (ret_tmp rfl) (perm_drop _)) (congrArg (fun (p : Bool) => (.bool p : D)) (some_eq hm))
    ·
      skip
      refine g_draw 13 Tryz_mixed (by decide +kernel) ?_
      refine gd_p rfl rfl rfl (o_move rfl) ?_
      refine gd_p rfl rfl rfl (o_cmp rfl rfl rfl) ?_
      refine gd_p rfl rfl rfl (o_move rfl) ?_
      refine gd_skip rfl rfl rfl hg_3 rfl rfl ?_
      refine gd_skip rfl rfl rfl hg_3 rfl rfl ?_
      refine gd_skip rfl rfl rfl hg_3 rfl rfl ?_
      refine gd_skip rfl rfl rfl hg_3 rfl rfl ?_
      refine gd_skip rfl rfl rfl hg_3 rfl rfl ?_
      refine gd_p rfl rfl rfl (o_pickF rfl hg_3 rfl) ?_
      refine gd_p rfl rfl rfl (o_move rfl) ?_
      refine gd_skip rfl rfl rfl rfl rfl rfl ?_
      refine gd_p rfl rfl rfl (o_pickF rfl rfl rfl) ?_
      refine gd_p rfl rfl rfl (o_assign rfl) ?_
      refine gd_nil ?_
      refine go_nil ?_
      refine g_ret ?_
      exact retK (ret_one' rfl (ret_tmp rfl) (perm_drop _)) (congrArg (fun (p : Bool) => (.bool p : D)) (some_eq hm))
end Go.Proofs.YtafphfokopkhdaaGreat
set_option linter.unusedVariables false
set_option linter.unusedSimpArgs false
set_option maxRecDepth 100000
namespace Go.Proofs.YtafphfokopkhdaaGreat
open Go.V
open Classical
/-- Small enough: a state. -/
def SB (s : AutoState) : Prop := s.vars.length ≤ 40 ∧ s.fields.length ≤ 40 ∧ s.tags.length ≤ 40
/-- Small enough: an automaton. -/
def AB (a : AutoAuto) : Prop := a.l.length ≤ 2001 ∧ ∀ s ∈ a.l, SB s
theorem FUv : FU = 18446744073709551616 := rfl
def nextP (s : AutoState) : List Int := (if s.arrow = true then [s.dom, s.cod] else []) ++ s.fields.map (·.to_) ++ s.tags.map (·.to_)
theorem nextP_len (s : AutoState) (h : SB s) : (nextP s).length ≤ 82 := by
  obtain ⟨h1, h2, h3⟩ := h
  unfold nextP
  split <;> simp <;> omega
theorem tos_eq (l : List AutoEdge) (h : l.length ≤ 40) : m_auto_tos l = some (l.map (·.to_)) := by
  unfold m_auto_tos
  refine bnd (loop_map (φ := fun n i s => m_auto_tos_l1 l n (i, s)) (l := l) (fun x => x.to_) id 0 ?_ ?_ (by rw [FUv]; omega) [] rfl) rfl
  · intro n i x s hx hi hs
    simp only [m_auto_tos_l1]
    rw [decide_eq_true (by omega), cond_true, getI hx, Option.bind_some, grd_pos (by simp; omega), grd_pos (by omega)]
  · intro n s hs
    simp only [m_auto_tos_l1]
    rw [decide_eq_false (by omega), cond_false]; rfl
theorem concat_eq (ls : List (List Int)) (h : ls.length ≤ 3) (h2 : ∀ l ∈ ls, l.length ≤ 40) : m_slices_Concat_int_int ls = some ls.flatten := by
  have hm : ∀ {i : Nat} {x : List Int}, ls[i]? = some x → x.length ≤ 40 := fun hx => h2 _ (List.mem_of_getElem? hx)
  unfold m_slices_Concat_int_int
  have e1 := loop_fold (φ := fun n i s => m_slices_Concat_int_int_l1 ls n (s, i)) (l := ls) (fun i s => 0 ≤ s ∧ s ≤ 40 * i) (fun _ s x => s + (x.length : Int)) id (by
    intro n i x s hx hi hI
    have hm := hm hx
    simp only [m_slices_Concat_int_int_l1]
    rw [decide_eq_true (by omega), cond_true, getI hx, Option.bind_some, grd_pos (by omega), decide_eq_false (by omega), cond_false, grd_pos (by omega)]
    exact ⟨rfl, by omega⟩) (by
    intro n s hI
    simp only [m_slices_Concat_int_int_l1]
    rw [decide_eq_false (by omega), cond_false]; rfl) (by rw [FUv]; omega) (fun _ t s => t.foldl (fun s x => s + (x.length : Int)) s) (fun _ _ => rfl) (fun _ _ _ _ => rfl) 0 (by omega)
  have e2 := loop_fold (φ := fun n i s => m_slices_Concat_int_int_l2 ls n (i, s)) (l := ls) (fun i s => s.length ≤ 40 * i) (fun _ s x => s ++ x) id (by
    intro n i x s hx hi hI
    have hm := hm hx
    simp only [m_slices_Concat_int_int_l2]
    rw [decide_eq_true (by omega), cond_true, getI hx, Option.bind_some, grd_pos (by omega), grd_pos (by omega)]
    exact ⟨rfl, by simp; omega⟩) (by
    intro n s hI
    simp only [m_slices_Concat_int_int_l2]
    rw [decide_eq_false (by omega), cond_false]; rfl) (by rw [FUv]; omega) (fun _ t s => s ++ t.flatten) (by simp) (by simp) [] (by simp)
  refine bnd e1.1 ?_
  have e3 := e1.2
  rw [id, grd_pos (by omega), grd_pos (by omega)]
  exact bnd e2.1 rfl
theorem next_eq (s : AutoState) (h : SB s) : m_auto_Next s = some (nextP s) := by
  obtain ⟨h1, h2, h3⟩ := h
  unfold m_auto_Next
  refine bnd (x := if s.arrow = true then [s.dom, s.cod] else []) ?_ ?_
  · cases s.arrow with
    | true => rw [cond_true, grd_pos (by simp)]; rfl
    | false => rfl
  rw [tos_eq _ h2, Option.bind_some, tos_eq _ h3, Option.bind_some, concat_eq]
  · simp [nextP]
  · simp
  · intro l hl
    simp only [List.mem_cons, List.not_mem_nil, or_false] at hl
    rcases hl with rfl | rfl | rfl
    · split <;> simp
    · simpa using h2
    · simpa using h3
theorem rnext_eq (s : AutoState) (h : SB s) : m_syntagmaref24_Next s = some (nextP s) := by
  obtain ⟨h1, h2, h3⟩ := h
  unfold m_syntagmaref24_Next
  have hl : (if s.arrow = true then [s.dom, s.cod] else []).length ≤ 2 := by split <;> simp
  refine bnd (x := if s.arrow = true then [s.dom, s.cod] else []) ?_ ?_
  · cases s.arrow <;> rfl
  refine bnd (loop_map (φ := fun n i s2 => m_syntagmaref24_Next_l1 s n (i, s2)) (l := s.fields) (fun x => x.to_) id _ ?_ ?_ (by rw [FUv]; omega) _ rfl) ?_
  · intro n i x s2 hx hi hs
    simp only [m_syntagmaref24_Next_l1]
    rw [decide_eq_true (by omega), cond_true, getI hx, Option.bind_some, grd_pos (by simp; omega), grd_pos (by omega)]
  · intro n s2 hs
    simp only [m_syntagmaref24_Next_l1]
    rw [decide_eq_false (by omega), cond_false]; rfl
  refine bnd (loop_map (φ := fun n i s2 => m_syntagmaref24_Next_l2 s n (i, s2)) (l := s.tags) (fun x => x.to_) id _ ?_ ?_ (by rw [FUv]; omega) _ rfl) ?_
  · intro n i x s2 hx hi hs
    simp only [id, List.length_append, List.length_map] at hs
    simp only [m_syntagmaref24_Next_l2]
    rw [decide_eq_true (by omega), cond_true, getI hx, Option.bind_some, grd_pos (by simp; omega), grd_pos (by omega)]
  · intro n s2 hs
    simp only [m_syntagmaref24_Next_l2]
    rw [decide_eq_false (by omega), cond_false]; rfl
  · rfl
theorem ints_eq (l : List Int) (h : l.length ≤ 100) : m_syntagmabase_Ints l = some l := by
  unfold m_syntagmabase_Ints
  rw [grd_pos (by omega)]; rfl
theorem sameInts_eq (a b : List Int) (h : a.length ≤ 3000) : m_syntagmabase_SameInts a b = some (decide (a = b)) := by
  unfold m_syntagmabase_SameInts
  simp only [Bool.cond_eq_ite, Bool.not_eq_true', decide_eq_false_iff_not]
  by_cases hl : a.length = b.length
  · rw [if_neg (by omega)]
    refine bnd (loop_all (φ := m_syntagmabase_SameInts_l1 a b) (l := a) false (fun i x => b[i]? = some x) ?_ ?_ (by rw [FUv]; omega)) ?_
    · intro n i x hx hi
      simp only [m_syntagmabase_SameInts_l1]
      have hy : b[i]? = some b[i] := List.getElem?_eq_getElem (by omega)
      rw [decide_eq_true (by omega), cond_true, getI hx, Option.bind_some, getI hy, Option.bind_some, hy]
      simp only [Bool.cond_eq_ite, Bool.not_eq_true', decide_eq_false_iff_not]
      constructor
      · intro h; rw [if_neg (by simpa using (Option.some.inj h).symm), grd_pos (by omega)]
      · intro h; rw [if_pos (by intro h2; exact h (by rw [h2]))]
    · intro n
      simp only [m_syntagmabase_SameInts_l1]
      rw [decide_eq_false (by omega), cond_false]
    · by_cases h3 : a = b
      · subst h3
        rw [if_pos (fun i x h => h), decide_eq_true rfl]; rfl
      · rw [if_neg, decide_eq_false h3]; rfl
        intro h4
        refine h3 (List.ext_getElem? fun i => ?_)
        by_cases hi : i < a.length
        · rw [h4 i a[i] (List.getElem?_eq_getElem hi), List.getElem?_eq_getElem hi]
        · rw [List.getElem?_eq_none (by omega), List.getElem?_eq_none (by omega)]
  · rw [if_pos (by omega), decide_eq_false (fun h => hl (by rw [h]))]
def smallB (c : UInt8) : Bool := (decide (97 ≤ (c.toNat : Int)) && decide ((c.toNat : Int) ≤ 122)) || decide ((c.toNat : Int) = 95)
def greatB (c : UInt8) : Bool := decide (65 ≤ (c.toNat : Int)) && decide ((c.toNat : Int) ≤ 90)
def moreB (c : UInt8) : Bool := (smallB c || greatB c) || (decide (48 ≤ (c.toNat : Int)) && decide ((c.toNat : Int) ≤ 57))
def wordP : List UInt8 → Nat
  | [] => 0
  | c :: r => if smallB c = true ∨ greatB c = true then 1 + (r.takeWhile moreB).length else 0
theorem word_c (c : UInt8) (r : List UInt8) : wordP (c :: r) = if smallB c = true ∨ greatB c = true then 1 + (r.takeWhile moreB).length else 0 := rfl
theorem bt (b c : Bool) : (bif b then some true else some c : Option Bool) = some (b || c) := by cases b <;> rfl
theorem bf (b c : Bool) : (bif b then some c else some false : Option Bool) = some (b && c) := by cases b <;> rfl
theorem tw_le {α : Type} (p : α → Bool) (l : List α) : (l.takeWhile p).length ≤ l.length := (List.takeWhile_prefix p).length_le
theorem word_eq (s : List UInt8) (h : s.length ≤ 1000000000000) : m_name_Word s = some (wordP s : Int) := by
  unfold m_name_Word
  rcases s with _ | ⟨c, r⟩
  · rfl
  · rw [decide_eq_false (by simp), cond_false, idx_c0, Option.bind_some]
    simp only [m_name_small, m_name_great, Option.bind_some, bf]
    rw [show (((decide (97 ≤ (c.toNat : Int))) && (decide ((c.toNat : Int) ≤ 122))) || (decide ((c.toNat : Int) = 95))) = smallB c from rfl, show ((decide (65 ≤ (c.toNat : Int))) && (decide ((c.toNat : Int) ≤ 90))) = greatB c from rfl]
    rw [word_c]
    cases h1 : smallB c || greatB c with
    | false =>
      simp only [Bool.or_eq_false_iff] at h1
      rw [h1.1, h1.2]; simp
    | true =>
      rw [if_pos (by simpa using h1)]
      have : (!smallB c && !greatB c) = false := by cases hs : smallB c <;> cases hg : greatB c <;> simp_all
      rw [this, cond_false]
      simp only [List.length_cons] at h
      refine bnd (loop_while (φ := m_name_Word_l1 (c :: r)) (l := c :: r) moreB (fun i => (i : Int)) ?_ ?_ FU 1 (by simp) (by rw [FUv]; simp; omega)) rfl
      · intro n i x hx hi
        simp only [List.length_cons] at hi
        simp only [m_name_Word_l1]
        rw [decide_eq_true (by simp only [List.length_cons]; omega), cond_true, getI hx, Option.bind_some]
        simp only [m_name_more, m_name_small, m_name_great, Option.bind_some, bt]
        constructor
        · intro hq
          simp only [moreB, smallB, greatB] at hq
          rw [hq, cond_true, grd_pos (by omega)]
        · intro hq
          simp only [moreB, smallB, greatB] at hq
          rw [hq, cond_false]
      · intro n
        simp only [m_name_Word_l1]
        rw [decide_eq_false (by omega), cond_false, Option.bind_some, cond_false]
theorem rword_eq (s : List UInt8) (h : s.length ≤ 1000000000000) : m_syntagmaref03_Word s = some (wordP s : Int) := by
  unfold m_syntagmaref03_Word
  rcases s with _ | ⟨c, r⟩
  · rfl
  · rw [decide_eq_false (by simp; omega), cond_false, idx_c0, Option.bind_some]
    simp only [m_syntagmaref03_small, m_syntagmaref03_great, Option.bind_some, bf]
    rw [show (((decide (97 ≤ (c.toNat : Int))) && (decide ((c.toNat : Int) ≤ 122))) || (decide ((c.toNat : Int) = 95))) = smallB c from rfl, show ((decide (65 ≤ (c.toNat : Int))) && (decide ((c.toNat : Int) ≤ 90))) = greatB c from rfl]
    rw [word_c]
    cases h1 : smallB c || greatB c with
    | false =>
      simp only [Bool.or_eq_false_iff] at h1
      rw [h1.1, h1.2]; simp
    | true =>
      rw [if_pos (by simpa using h1)]
      have : (!smallB c && !greatB c) = false := by cases hs : smallB c <;> cases hg : greatB c <;> simp_all
      rw [this, cond_false]
      simp only [List.length_cons] at h
      refine bnd (loop_while (φ := m_syntagmaref03_Word_l1 (c :: r)) (l := c :: r) moreB (fun i => (i : Int)) ?_ ?_ FU 1 (by simp) (by rw [FUv]; simp; omega)) rfl
      · intro n i x hx hi
        simp only [List.length_cons] at hi
        simp only [m_syntagmaref03_Word_l1]
        rw [decide_eq_true (by simp only [List.length_cons]; omega), cond_true, getI hx, Option.bind_some]
        simp only [m_syntagmaref03_small, m_syntagmaref03_great, Option.bind_some, bt, bf]
        constructor
        · intro hq
          simp only [moreB, smallB, greatB] at hq
          rw [hq, cond_true, grd_pos (by omega)]
        · intro hq
          simp only [moreB, smallB, greatB] at hq
          rw [hq, cond_false]
      · intro n
        simp only [m_syntagmaref03_Word_l1]
        rw [decide_eq_false (by omega), cond_false, Option.bind_some, cond_false]
def keysL : List (List UInt8) := match m_name_Keywords with | some l => l | none => []
theorem keys_eq : m_name_Keywords = some keysL := rfl
theorem rkeys_eq : m_syntagmaref03_Keywords = some keysL := rfl
theorem isKey_eq (l : List (List UInt8)) (s : List UInt8) (h : l.length ≤ 1000) : m_slices_Contains_string_string l s = some (decide (s ∈ l)) := by
  unfold m_slices_Contains_string_string m_slices_Index_string_string
  have e := loop_find (φ := m_slices_Index_string_string_l1 l s) (l := l) (fun i => (i : Int)) (fun x => decide (s = x)) (by
    intro n i x hx hi
    simp only [m_slices_Index_string_string_l1]
    rw [decide_eq_true (show (i : Int) < l.length by omega), cond_true, getI hx, Option.bind_some]
    constructor
    · intro hq; rw [show decide (s = x) = false from by simpa using hq, cond_false, grd_pos (by omega)]
    · intro hq; rw [show decide (s = x) = true from by simpa using hq, cond_true]) (by
    intro n
    simp only [m_slices_Index_string_string_l1]
    rw [decide_eq_false (by omega), cond_false]) (by rw [FUv]; omega)
  rw [bind_of e]
  cases hf : l.findIdx? (fun x => decide (s = x)) with
  | none =>
    rw [List.findIdx?_eq_none_iff] at hf
    show some (decide _) = _
    congr 1
    rw [decide_eq_false (by omega), decide_eq_false]
    intro hs
    have := hf s hs
    simp at this
  | some k =>
    rw [List.findIdx?_eq_some_iff_getElem] at hf
    obtain ⟨hk, h1, _⟩ := hf
    show some (decide _) = _
    congr 1
    rw [decide_eq_true (by omega), decide_eq_true]
    simp only [decide_eq_true_eq] at h1
    rw [h1]
    exact List.getElem_mem hk
theorem rIsKey_eq (l : List (List UInt8)) (s : List UInt8) (h : l.length ≤ 1000) : m_syntagmaref03_In s l = some (decide (s ∈ l)) := by
  unfold m_syntagmaref03_In
  refine bnd (loop_any (φ := m_syntagmaref03_In_l1 s l) (l := l) true (fun _ x => x = s) ?_ ?_ (by rw [FUv]; omega)) ?_
  · intro n i x hx hi
    simp only [m_syntagmaref03_In_l1]
    rw [decide_eq_true (by omega), cond_true, getI hx, Option.bind_some]
    constructor
    · intro hq; rw [decide_eq_false hq, cond_false, grd_pos (by omega)]
    · intro hq; rw [decide_eq_true hq, cond_true]
  · intro n
    simp only [m_syntagmaref03_In_l1]
    rw [decide_eq_false (by omega), cond_false]
  · by_cases hs : s ∈ l
    · obtain ⟨i, hi, h2⟩ := List.getElem_of_mem hs
      rw [if_pos ⟨i, s, by rw [← h2]; exact List.getElem?_eq_getElem hi, rfl⟩, decide_eq_true hs]; rfl
    · rw [if_neg, decide_eq_false hs]; rfl
      rintro ⟨i, x, h1, rfl⟩
      exact hs (List.mem_of_getElem? h1)
def wholeP (s : List UInt8) : Bool := decide (s ≠ []) && decide (s.length ≤ 20) && decide (wordP s = s.length)
def headP (p : UInt8 → Bool) : List UInt8 → Bool
  | [] => false
  | c :: _ => p c
def nameP (s : List UInt8) : Bool := wholeP s && headP smallB s && !decide (s ∈ keysL)
def tagP (s : List UInt8) : Bool := wholeP s && headP greatB s
theorem whole_eq (s : List UInt8) : m_name_whole s = some (wholeP s) := by
  unfold m_name_whole wholeP
  by_cases h1 : s = []
  · subst h1; rfl
  by_cases h2 : s.length ≤ 20
  · rw [decide_eq_false h1, decide_eq_true (show (s.length : Int) ≤ 20 by omega), word_eq s (by omega)]
    simp only [Bool.not_false, Bool.true_and, cond_true, Option.bind_some, decide_eq_true (show s ≠ [] from h1), decide_eq_true h2]
    congr 1
    exact decide_eq_decide.2 (by omega)
  · rw [decide_eq_false (show ¬ (s.length : Int) ≤ 20 by omega), decide_eq_false h2]; simp
theorem name_eq (s : List UInt8) : m_name_Name s = some (nameP s) := by
  unfold m_name_Name nameP
  rw [whole_eq, Option.bind_some]
  cases hw : wholeP s with
  | false => rfl
  | true =>
    rcases s with _ | ⟨c, r⟩
    · simp [wholeP] at hw
    · rw [cond_true, idx_c0, Option.bind_some]
      simp only [m_name_small, Option.bind_some, m_name_Keyword, keys_eq, Bool.true_and]
      rw [isKey_eq _ _ (by decide), Option.bind_some, Option.bind_some, bf, Option.bind_some]; rfl
theorem tag_eq (s : List UInt8) : m_name_Tag s = some (tagP s) := by
  unfold m_name_Tag tagP
  rw [whole_eq, Option.bind_some]
  cases hw : wholeP s with
  | false => rfl
  | true =>
    rcases s with _ | ⟨c, r⟩
    · simp [wholeP] at hw
    · rw [cond_true, idx_c0, Option.bind_some]; rfl
theorem rwhole_eq (s : List UInt8) : (bif ((decide (0 < (s.length : Int))) && (decide ((s.length : Int) ≤ 20))) then ((m_syntagmaref03_Word s).bind fun x1 => some (decide (x1 = (s.length : Int)))) else (some false)) = some (wholeP s) := by
  unfold wholeP
  by_cases h1 : s = []
  · subst h1; rfl
  have h0 : 0 < s.length := List.length_pos_iff.2 h1
  by_cases h2 : s.length ≤ 20
  · rw [decide_eq_true (show 0 < (s.length : Int) by omega), decide_eq_true (show (s.length : Int) ≤ 20 by omega), rword_eq s (by omega)]
    simp only [Bool.true_and, cond_true, Option.bind_some, decide_eq_true (show s ≠ [] from h1), decide_eq_true h2]
    congr 1
    exact decide_eq_decide.2 (by omega)
  · rw [decide_eq_false (show ¬ (s.length : Int) ≤ 20 by omega), decide_eq_false h2]; simp
theorem rname_eq (s : List UInt8) : m_syntagmaref03_Name s = some (nameP s) := by
  unfold m_syntagmaref03_Name nameP
  refine bnd (rwhole_eq s) ?_
  cases hw : wholeP s with
  | false => rfl
  | true =>
    rcases s with _ | ⟨c, r⟩
    · simp [wholeP] at hw
    · rw [cond_true, idx_c0, Option.bind_some]
      simp only [m_syntagmaref03_small, Option.bind_some, m_syntagmaref03_Keyword, rkeys_eq, Bool.true_and]
      rw [rIsKey_eq _ _ (by decide), Option.bind_some, Option.bind_some, bf, Option.bind_some]; rfl
theorem rtag_eq (s : List UInt8) : m_syntagmaref03_Tag s = some (tagP s) := by
  unfold m_syntagmaref03_Tag tagP
  refine bnd (rwhole_eq s) ?_
  cases hw : wholeP s with
  | false => rfl
  | true =>
    rcases s with _ | ⟨c, r⟩
    · simp [wholeP] at hw
    · rw [cond_true, idx_c0, Option.bind_some]; rfl
end Go.Proofs.YtafphfokopkhdaaGreat
set_option linter.unusedVariables false
set_option linter.unusedSimpArgs false
set_option maxRecDepth 100000
namespace Go.Proofs.YtafphfokopkhdaaGreat
open Go.V
open Classical
def onP (a : AutoAuto) (k : Int) (p : Bool) : Bool := match idx a.l k with | some s => s.plus == p | none => false
theorem on_eq (a : AutoAuto) (k : Int) (p : Bool) : m_auto_Auto_on a k p = some (onP a k p) := by
  unfold m_auto_Auto_on onP
  by_cases h : 0 ≤ k ∧ k < (a.l.length : Int)
  · rw [decide_eq_true h.1, decide_eq_true h.2]
    have hx : idx a.l k = some a.l[k.toNat] := by
      unfold idx
      rw [if_pos h.1]
      exact List.getElem?_eq_getElem (by omega)
    rw [hx]; rfl
  · have hx : idx a.l k = none := by
      unfold idx
      split
      · exact List.getElem?_eq_none (by omega)
      · rfl
    rw [hx]
    have : (decide (0 ≤ k) && decide (k < (a.l.length : Int))) = false := by
      rw [Bool.and_eq_false_iff, decide_eq_false_iff_not, decide_eq_false_iff_not]; omega
    rw [this]; rfl
def bareP (s : AutoState) : Bool := !(s.all && ((((((s.int || s.bool) || s.str) || s.arrow) || s.rec_) || s.tag) || (decide (0 < (s.vars.length : Int))))) && !((!s.arrow) && ((!decide (s.dom = 0)) || (!decide (s.cod = 0)))) && ((s.rec_ || (decide ((s.fields.length : Int) = 0))) && (s.tag || (decide ((s.tags.length : Int) = 0))))
theorem bare_eq (s : AutoState) : m_auto_bare s = some (bareP s) := by
  unfold m_auto_bare bareP
  cases (s.all && ((((((s.int || s.bool) || s.str) || s.arrow) || s.rec_) || s.tag) || (decide (0 < (s.vars.length : Int))))) with
  | true => rfl
  | false =>
    cases ((!s.arrow) && ((!decide (s.dom = 0)) || (!decide (s.cod = 0)))) <;> rfl
theorem rbare_eq (s : AutoState) : ((((s.all && ((((((s.int || s.bool) || s.str) || s.arrow) || s.rec_) || s.tag) || (decide (0 < (s.vars.length : Int))))) || ((!s.arrow) && ((!decide (s.dom = 0)) || (!decide (s.cod = 0))))) || ((!s.rec_) && (decide (0 < (s.fields.length : Int))))) || ((!s.tag) && (decide (0 < (s.tags.length : Int))))) = !bareP s := by
  unfold bareP
  have e1 : decide (0 < (s.fields.length : Int)) = !decide ((s.fields.length : Int) = 0) := by
    by_cases h : (s.fields.length : Int) = 0
    · rw [decide_eq_true h, decide_eq_false (by omega)]; rfl
    · rw [decide_eq_false h, decide_eq_true (by omega)]; rfl
  have e2 : decide (0 < (s.tags.length : Int)) = !decide ((s.tags.length : Int) = 0) := by
    by_cases h : (s.tags.length : Int) = 0
    · rw [decide_eq_true h, decide_eq_false (by omega)]; rfl
    · rw [decide_eq_false h, decide_eq_true (by omega)]; rfl
  rw [e1, e2]
  cases (s.all && ((((((s.int || s.bool) || s.str) || s.arrow) || s.rec_) || s.tag) || (decide (0 < (s.vars.length : Int))))) <;> cases ((!s.arrow) && ((!decide (s.dom = 0)) || (!decide (s.cod = 0)))) <;> cases s.rec_ <;> cases s.tag <;> cases decide ((s.fields.length : Int) = 0) <;> cases decide ((s.tags.length : Int) = 0) <;> rfl
def numP (l : List Int) (i : Nat) (x : Int) : Prop := 0 ≤ x ∧ x ≤ 999 ∧ (0 < i → ∀ y, l[i - 1]? = some y → y < x)
theorem prev {α : Type} {l : List α} {i : Nat} {x : α} (hx : l[i]? = some x) (h0 : 0 < i) : ∃ y, l[i - 1]? = some y ∧ idx l ((i : Int) - 1) = some y := by
  have := getLt hx
  refine ⟨l[i - 1], List.getElem?_eq_getElem (by omega), ?_⟩
  rw [show (i : Int) - 1 = ((i - 1 : Nat) : Int) by omega, idx_nat]
  exact List.getElem?_eq_getElem (by omega)
theorem numbered_eq (l : List Int) (h : l.length ≤ 40) : m_auto_numbered l = some (decide (∀ i x, l[i]? = some x → numP l i x)) := by
  unfold m_auto_numbered
  refine bnd (loop_all (φ := m_auto_numbered_l1 l) (l := l) false (numP l) ?_ ?_ (by rw [FUv]; omega)) ?_
  · intro n i x hx hi
    simp only [m_auto_numbered_l1]
    rw [decide_eq_true (show (i : Int) < l.length by omega), cond_true, getI hx, Option.bind_some]
    by_cases h1 : x < 0 ∨ 999 < x
    · rw [show (decide (x < 0) || decide (999 < x)) = true by simpa using h1, cond_true, Option.bind_some, cond_true]
      exact ⟨fun hq => by obtain ⟨h2, h3, _⟩ := hq; omega, fun _ => rfl⟩
    · rw [show (decide (x < 0) || decide (999 < x)) = false by simpa using h1, cond_false]
      by_cases h0 : 0 < i
      · obtain ⟨y, hy, hy2⟩ := prev hx h0
        rw [decide_eq_true (show 0 < (i : Int) by omega), cond_true, grd_pos (by omega), hy2]
        simp only [Option.bind_some]
        by_cases h2 : x ≤ y
        · rw [decide_eq_true h2, cond_true]
          exact ⟨fun hq => by have := hq.2.2 h0 y hy; omega, fun _ => rfl⟩
        · rw [decide_eq_false h2, cond_false, grd_pos (by omega)]
          refine ⟨fun _ => rfl, fun hq => absurd ⟨by omega, by omega, fun _ z hz => ?_⟩ hq⟩
          rw [hy] at hz
          have := Option.some.inj hz
          omega
      · rw [decide_eq_false (show ¬ 0 < (i : Int) by omega), cond_false]
        rw [Option.bind_some, Option.bind_some, cond_false, grd_pos (by omega)]
        exact ⟨fun _ => rfl, fun hq => absurd ⟨by omega, by omega, fun h3 => absurd h3 h0⟩ hq⟩
  · intro n
    simp only [m_auto_numbered_l1]
    rw [decide_eq_false (by omega), cond_false]
  · by_cases hp : ∀ i x, l[i]? = some x → numP l i x
    · rw [if_pos hp, decide_eq_true hp]; rfl
    · rw [if_neg hp, decide_eq_false hp]; rfl
def edgeP (isN : List UInt8 → Bool) (l : List AutoEdge) (i : Nat) (x : AutoEdge) : Prop := isN x.name = true ∧ (0 < i → ∀ y, l[i - 1]? = some y → Op.bytesLess y.name x.name = true)
def edgesP (isN : List UInt8 → Bool) (l : List AutoEdge) : Prop := (∀ i x, l[i]? = some x → edgeP isN l i x) ∧ l.length ≤ 30
theorem named_eq (l : List AutoEdge) (f : List UInt8 → Option Bool) (isN : List UInt8 → Bool) (hf : ∀ s, f s = some (isN s)) (h : l.length ≤ 40) : m_auto_named l f = some (decide (edgesP isN l)) := by
  unfold m_auto_named
  refine bnd (loop_all (φ := m_auto_named_l1 l f) (l := l) false (edgeP isN l) ?_ ?_ (by rw [FUv]; omega)) ?_
  · intro n i x hx hi
    simp only [m_auto_named_l1]
    rw [decide_eq_true (show (i : Int) < l.length by omega), cond_true, getI hx, Option.bind_some, hf, Option.bind_some]
    cases h1 : isN x.name with
    | false => exact ⟨fun hq => absurd hq.1 (by rw [h1]; simp), fun _ => rfl⟩
    | true =>
      rw [Bool.not_true, cond_false]
      by_cases h0 : 0 < i
      · obtain ⟨y, hy, hy2⟩ := prev hx h0
        rw [decide_eq_true (show 0 < (i : Int) by omega), cond_true, grd_pos (by omega), hy2]
        simp only [Option.bind_some]
        cases h2 : Op.bytesLess y.name x.name with
        | false =>
          rw [Bool.not_false, cond_true]
          exact ⟨fun hq => absurd (hq.2 h0 y hy) (by rw [h2]; simp), fun _ => rfl⟩
        | true =>
          rw [Bool.not_true, cond_false, grd_pos (by omega)]
          refine ⟨fun _ => rfl, fun hq => absurd ⟨h1, fun _ z hz => ?_⟩ hq⟩
          rw [hy] at hz
          rw [← Option.some.inj hz]; exact h2
      · rw [decide_eq_false (show ¬ 0 < (i : Int) by omega), cond_false, grd_pos (by omega)]
        exact ⟨fun _ => rfl, fun hq => absurd ⟨h1, fun h3 => absurd h3 h0⟩ hq⟩
  · intro n
    simp only [m_auto_named_l1]
    rw [decide_eq_false (by omega), cond_false]
  · by_cases hp : ∀ i x, l[i]? = some x → edgeP isN l i x
    · rw [if_pos hp]
      show some (decide _) = _
      congr 1
      exact decide_eq_decide.2 ⟨fun h2 => ⟨hp, by omega⟩, fun h2 => by have := h2.2; omega⟩
    · rw [if_neg hp, decide_eq_false (p := edgesP isN l) (fun h2 => hp h2.1)]; rfl
def isNT (t : Bool) (s : List UInt8) : Bool := bif t then tagP s else nameP s
theorem redges_eq (l : List AutoEdge) (t : Bool) (h : l.length ≤ 40) : m_syntagmaref24_edges l t = some (decide (edgesP (isNT t) l)) := by
  unfold m_syntagmaref24_edges
  refine bnd (loop_all (φ := m_syntagmaref24_edges_l1 l t) (l := l) false (edgeP (isNT t) l) ?_ ?_ (by rw [FUv]; omega)) ?_
  · intro n i x hx hi
    simp only [m_syntagmaref24_edges_l1]
    rw [decide_eq_true (show (i : Int) < l.length by omega), cond_true, getI hx, Option.bind_some]
    have e1 : ((bif (!t) then ((m_syntagmaref03_Name x.name).bind fun x2 => some (!x2)) else (some false)).bind fun p1 => (bif p1 then (some true) else ((bif t then ((m_syntagmaref03_Tag x.name).bind fun x3 => some (!x3)) else (some false)).bind fun p3 => some p3))) = some (!isNT t x.name) := by
      rw [rname_eq, rtag_eq]
      unfold isNT
      cases t <;> cases nameP x.name <;> cases tagP x.name <;> rfl
    rw [← Option.bind_assoc, e1, Option.bind_some]
    cases h1 : isNT t x.name with
    | false => exact ⟨fun hq => absurd hq.1 (by rw [h1]; simp), fun _ => rfl⟩
    | true =>
      rw [Bool.not_true, cond_false]
      by_cases h0 : 0 < i
      · obtain ⟨y, hy, hy2⟩ := prev hx h0
        rw [decide_eq_true (show 0 < (i : Int) by omega), cond_true, grd_pos (by omega), hy2]
        simp only [Option.bind_some]
        cases h2 : Op.bytesLess y.name x.name with
        | false =>
          rw [Bool.not_false, cond_true]
          exact ⟨fun hq => absurd (hq.2 h0 y hy) (by rw [h2]; simp), fun _ => rfl⟩
        | true =>
          rw [Bool.not_true, cond_false, grd_pos (by omega)]
          refine ⟨fun _ => rfl, fun hq => absurd ⟨h1, fun _ z hz => ?_⟩ hq⟩
          rw [hy] at hz
          rw [← Option.some.inj hz]; exact h2
      · rw [decide_eq_false (show ¬ 0 < (i : Int) by omega), cond_false]
        rw [Option.bind_some, Option.bind_some, cond_false, grd_pos (by omega)]
        exact ⟨fun _ => rfl, fun hq => absurd ⟨h1, fun h3 => absurd h3 h0⟩ hq⟩
  · intro n
    simp only [m_syntagmaref24_edges_l1]
    rw [decide_eq_false (by omega), cond_false]
  · by_cases hp : ∀ i x, l[i]? = some x → edgeP (isNT t) l i x
    · rw [if_pos hp]
      show some (decide _) = _
      congr 1
      exact decide_eq_decide.2 ⟨fun h2 => ⟨hp, by omega⟩, fun h2 => by have := h2.2; omega⟩
    · rw [if_neg hp, decide_eq_false (p := edgesP (isNT t) l) (fun h2 => hp h2.1)]; rfl
end Go.Proofs.YtafphfokopkhdaaGreat
set_option linter.unusedVariables false
set_option linter.unusedSimpArgs false
set_option maxRecDepth 100000
namespace Go.Proofs.YtafphfokopkhdaaGreat
open Go.V
open Classical
theorem find_any {α : Type} (l : List α) (p : α → Bool) : (decide ((0 : Int) ≤ (match l.findIdx? p with | some i => (i : Int) | none => -1))) = l.any p := by
  cases hf : l.findIdx? p with
  | none =>
    rw [List.findIdx?_eq_none_iff] at hf
    rw [decide_eq_false (by simp)]
    symm
    rw [List.any_eq_false]
    intro x hx
    rw [hf x hx]; simp
  | some k =>
    rw [List.findIdx?_eq_some_iff_getElem] at hf
    obtain ⟨hk, h1, _⟩ := hf
    rw [decide_eq_true (by simp)]
    symm
    rw [List.any_eq_true]
    exact ⟨_, List.getElem_mem hk, h1⟩
theorem hasInt_eq (l : List Int) (f : Int → Option Bool) (p : Int → Bool) (hf : ∀ x, f x = some (p x)) (h : l.length ≤ 100000) : m_slices_ContainsFunc_int_int l f = some (l.any p) := by
  unfold m_slices_ContainsFunc_int_int m_slices_IndexFunc_int_int
  have e := loop_find (φ := m_slices_IndexFunc_int_int_l1 l f) (l := l) (fun i => (i : Int)) p (by
    intro n i x hx hi
    simp only [m_slices_IndexFunc_int_int_l1]
    rw [decide_eq_true (show (i : Int) < l.length by omega), cond_true, getI hx, Option.bind_some, hf, Option.bind_some]
    constructor
    · intro hq; rw [hq, cond_false, grd_pos (by omega)]
    · intro hq; rw [hq, cond_true]) (by
    intro n
    simp only [m_slices_IndexFunc_int_int_l1]
    rw [decide_eq_false (by omega), cond_false]) (by rw [FUv]; omega)
  rw [bind_of e, ← find_any]
  cases l.findIdx? p <;> rfl
theorem hasState_eq (l : List AutoState) (f : AutoState → Option Bool) (p : AutoState → Bool) (hf : ∀ x ∈ l, f x = some (p x)) (h : l.length ≤ 100000) : m_slices_ContainsFunc_auto_State_auto_State l f = some (l.any p) := by
  unfold m_slices_ContainsFunc_auto_State_auto_State m_slices_IndexFunc_auto_State_auto_State
  have e := loop_find (φ := m_slices_IndexFunc_auto_State_auto_State_l1 l f) (l := l) (fun i => (i : Int)) p (by
    intro n i x hx hi
    simp only [m_slices_IndexFunc_auto_State_auto_State_l1]
    rw [decide_eq_true (show (i : Int) < l.length by omega), cond_true, getI hx, Option.bind_some, hf x (List.mem_of_getElem? hx), Option.bind_some]
    constructor
    · intro hq; rw [hq, cond_false, grd_pos (by omega)]
    · intro hq; rw [hq, cond_true]) (by
    intro n
    simp only [m_slices_IndexFunc_auto_State_auto_State_l1]
    rw [decide_eq_false (by omega), cond_false]) (by rw [FUv]; omega)
  rw [bind_of e, ← find_any]
  cases l.findIdx? p <;> rfl
/-- Where the states that a state leads to stand. -/
def sideP (s : AutoState) (i : Nat) : Bool := bif s.arrow && decide (i = 0) then !s.plus else s.plus
def leadP (a : AutoAuto) (s : AutoState) : Prop := ∀ i x, (nextP s)[i]? = some x → onP a x (sideP s i) = true
def rightP (a : AutoAuto) (s : AutoState) : Prop := bareP s = true ∧ (∀ i x, s.vars[i]? = some x → numP s.vars i x) ∧ edgesP nameP s.fields ∧ edgesP tagP s.tags ∧ leadP a s
theorem leadP_arrow (a : AutoAuto) (s : AutoState) (h : s.arrow = true) : leadP a s ↔ onP a s.dom (!s.plus) = true ∧ onP a s.cod s.plus = true ∧ ∀ x ∈ s.fields.map (·.to_) ++ s.tags.map (·.to_), onP a x s.plus = true := by
  unfold leadP nextP sideP
  rw [if_pos h, h]
  simp only [List.cons_append, List.nil_append, Bool.true_and]
  constructor
  · intro hh
    refine ⟨by simpa using hh 0 s.dom rfl, by simpa using hh 1 s.cod rfl, fun x hx => ?_⟩
    obtain ⟨k, hk, hk2⟩ := List.getElem_of_mem hx
    have := hh (k + 2) x (by rw [← hk2]; exact List.getElem?_eq_getElem hk)
    simpa using this
  · rintro ⟨h1, h2, h3⟩ i x hx
    match i, hx with
    | 0, hx => rw [← Option.some.inj hx]; simpa using h1
    | 1, hx => rw [← Option.some.inj hx]; simpa using h2
    | k + 2, hx => simpa using h3 x (List.mem_of_getElem? (by simpa using hx))
theorem leadP_plain (a : AutoAuto) (s : AutoState) (h : s.arrow = false) : leadP a s ↔ ∀ x ∈ s.fields.map (·.to_) ++ s.tags.map (·.to_), onP a x s.plus = true := by
  unfold leadP nextP sideP
  rw [if_neg (by rw [h]; simp), h]
  simp only [List.nil_append, Bool.false_and, cond_false]
  constructor
  · intro hh x hx
    obtain ⟨k, hk, hk2⟩ := List.getElem_of_mem hx
    exact hh k x (by rw [← hk2]; exact List.getElem?_eq_getElem hk)
  · intro hh i x hx
    exact hh x (List.mem_of_getElem? hx)
theorem not_any {α : Type} (l : List α) (p : α → Bool) : (!l.any (fun x => !p x)) = decide (∀ x ∈ l, p x = true) := by
  rw [Bool.eq_iff_iff]
  simp
theorem right_eq (a : AutoAuto) (s : AutoState) (h : SB s) : m_auto_Auto_right a s = some (decide (rightP a s)) := by
  obtain ⟨h1, h2, h3⟩ := h
  unfold m_auto_Auto_right
  rw [bare_eq, Option.bind_some, numbered_eq _ h1, named_eq _ _ nameP name_eq h2, named_eq _ _ tagP tag_eq h3]
  by_cases c1 : bareP s = true
  rotate_left
  · rw [Bool.not_eq_true] at c1
    rw [c1, decide_eq_false (p := rightP a s) (fun h => by have := h.1; rw [c1] at this; simp at this)]; rfl
  by_cases c2 : ∀ i x, s.vars[i]? = some x → numP s.vars i x
  rotate_left
  · rw [c1, decide_eq_false c2, decide_eq_false (p := rightP a s) (fun h => c2 h.2.1)]; rfl
  by_cases c3 : edgesP nameP s.fields
  rotate_left
  · rw [c1, decide_eq_true c2, decide_eq_false c3, decide_eq_false (p := rightP a s) (fun h => c3 h.2.2.1)]; rfl
  by_cases c4 : edgesP tagP s.tags
  rotate_left
  · rw [c1, decide_eq_true c2, decide_eq_true c3, decide_eq_false c4, decide_eq_false (p := rightP a s) (fun h => c4 h.2.2.2.1)]; rfl
  rw [c1, decide_eq_true c2, decide_eq_true c3, decide_eq_true c4]
  simp only [Bool.not_true, cond_false, Option.bind_some]
  have e : decide (rightP a s) = decide (leadP a s) := decide_eq_decide.2 ⟨fun h => h.2.2.2.2, fun h => ⟨c1, c2, c3, c4, h⟩⟩
  rw [e]
  have e2 : ((m_auto_tos s.fields).bind fun x7 => (m_auto_tos s.tags).bind fun x8 => (m_slices_Concat_int_int [x7, x8]).bind fun x9 => (m_slices_ContainsFunc_int_int x9 (fun y0 => m_auto_Auto_right_1 y0 a s)).bind fun x10 => some (!x10)) = some (decide (∀ x ∈ s.fields.map (·.to_) ++ s.tags.map (·.to_), onP a x s.plus = true)) := by
    rw [tos_eq _ h2, Option.bind_some, tos_eq _ h3, Option.bind_some, concat_eq _ (by simp) (by
      intro l hl
      simp only [List.mem_cons, List.not_mem_nil, or_false] at hl
      rcases hl with rfl | rfl
      · simpa using h2
      · simpa using h3), Option.bind_some, hasInt_eq _ _ (fun x => !onP a x s.plus) (fun x => by rw [m_auto_Auto_right_1, on_eq]; rfl) (by simp; omega), Option.bind_some, not_any]
    simp
  cases ha : s.arrow with
  | false =>
    rw [cond_false, Option.bind_some, cond_false, e2]
    congr 1
    exact decide_eq_decide.2 (leadP_plain a s ha).symm
  | true =>
    rw [cond_true, on_eq, Option.bind_some, on_eq, decide_eq_decide.2 (leadP_arrow a s ha)]
    have e3 : decide (onP a s.dom (!s.plus) = true ∧ onP a s.cod s.plus = true ∧ ∀ x ∈ s.fields.map (·.to_) ++ s.tags.map (·.to_), onP a x s.plus = true) = (onP a s.dom (!s.plus) && (onP a s.cod s.plus && decide (∀ x ∈ s.fields.map (·.to_) ++ s.tags.map (·.to_), onP a x s.plus = true))) := by
      rw [Bool.eq_iff_iff, decide_eq_true_eq, Bool.and_eq_true, Bool.and_eq_true, decide_eq_true_eq]
    rw [e3]
    cases onP a s.dom (!s.plus) with
    | false => rfl
    | true =>
      cases onP a s.cod s.plus with
      | false => rfl
      | true => exact e2
theorem rright_eq (a : AutoAuto) (s : AutoState) (h : SB s) (ha : a.l.length ≤ 100000) : m_syntagmaref24_right a s = some (decide (rightP a s)) := by
  have hSB := h
  obtain ⟨h1, h2, h3⟩ := h
  unfold m_syntagmaref24_right
  rw [rbare_eq]
  by_cases c1 : bareP s = true
  rotate_left
  · rw [Bool.not_eq_true] at c1
    rw [c1, decide_eq_false (p := rightP a s) (fun h => by have := h.1; rw [c1] at this; simp at this)]; rfl
  rw [c1, Bool.not_true, cond_false]
  have e1 := loop_all (φ := m_syntagmaref24_right_l1 s) (l := s.vars) false (numP s.vars) (by
    intro n i x hx hi
    simp only [m_syntagmaref24_right_l1]
    rw [decide_eq_true (show (i : Int) < s.vars.length by omega), cond_true, getI hx, Option.bind_some, Option.bind_some]
    by_cases h1 : x < 0
    · rw [decide_eq_true h1, cond_true]
      exact ⟨fun hq => absurd hq.1 (by omega), fun _ => rfl⟩
    rw [decide_eq_false h1, cond_false]
    by_cases h2 : 999 < x
    · rw [decide_eq_true h2, cond_true]
      exact ⟨fun hq => absurd hq.2.1 (by omega), fun _ => rfl⟩
    rw [decide_eq_false h2, cond_false]
    by_cases h0 : 0 < i
    · obtain ⟨y, hy, hy2⟩ := prev hx h0
      rw [decide_eq_true (show 0 < (i : Int) by omega), cond_true, grd_pos (by omega), hy2, Option.bind_some, Option.bind_some]
      by_cases h2 : x ≤ y
      · rw [decide_eq_true h2, cond_true]
        exact ⟨fun hq => absurd (hq.2.2 h0 y hy) (by omega), fun _ => rfl⟩
      · rw [decide_eq_false h2, cond_false, grd_pos (by omega)]
        refine ⟨fun _ => rfl, fun hq => absurd ⟨by omega, by omega, fun _ z hz => ?_⟩ hq⟩
        rw [hy] at hz
        have := Option.some.inj hz
        omega
    · rw [decide_eq_false (show ¬ 0 < (i : Int) by omega), cond_false, grd_pos (by omega)]
      exact ⟨fun _ => rfl, fun hq => absurd ⟨by omega, by omega, fun h3 => absurd h3 h0⟩ hq⟩) (by
    intro n
    simp only [m_syntagmaref24_right_l1]
    rw [decide_eq_false (by omega), cond_false]) (by rw [FUv]; omega)
  refine bnd e1 ?_
  by_cases c2 : ∀ i x, s.vars[i]? = some x → numP s.vars i x
  rotate_left
  · rw [if_neg c2, decide_eq_false (p := rightP a s) (fun h => c2 h.2.1)]; rfl
  rw [if_pos c2, go_on, rnext_eq s hSB, Option.bind_some]
  have hn := nextP_len s hSB
  have e2 := loop_all (φ := m_syntagmaref24_right_l2 a s (nextP s)) (l := nextP s) false (fun i x => onP a x (sideP s i) = true) (by
    intro n i x hx hi
    simp only [m_syntagmaref24_right_l2]
    rw [decide_eq_true (show (i : Int) < (nextP s).length by omega), cond_true, getI hx, Option.bind_some, Option.bind_some, Option.bind_some]
    by_cases h1 : x < 0
    · rw [decide_eq_true h1, cond_true]
      have : onP a x (sideP s i) = false := by unfold onP idx; rw [if_neg (by omega)]
      rw [this]
      exact ⟨fun hq => absurd hq (by simp), fun _ => rfl⟩
    rw [decide_eq_false h1, cond_false]
    by_cases h2 : (a.l.length : Int) ≤ x
    · rw [decide_eq_true h2, cond_true]
      have : onP a x (sideP s i) = false := by unfold onP idx; rw [if_pos (by omega), List.getElem?_eq_none (by omega)]
      rw [this]
      exact ⟨fun hq => absurd hq (by simp), fun _ => rfl⟩
    rw [decide_eq_false h2, cond_false]
    have hx : idx a.l x = some a.l[x.toNat] := by
      unfold idx
      rw [if_pos (by omega)]
      exact List.getElem?_eq_getElem (by omega)
    have e : onP a x (sideP s i) = (a.l[x.toNat].plus == sideP s i) := by unfold onP; rw [hx]
    rw [e, hx, Option.bind_some, grd_pos (by omega)]
    have e3 : ((a.l[x.toNat].plus == s.plus) == (s.arrow && decide ((i : Int) = 0))) = !(a.l[x.toNat].plus == sideP s i) := by
      rw [show decide ((i : Int) = 0) = decide (i = 0) from decide_eq_decide.2 (by omega)]
      unfold sideP
      cases a.l[x.toNat].plus <;> cases s.plus <;> cases s.arrow && decide (i = 0) <;> rfl
    rw [e3]
    cases a.l[x.toNat].plus == sideP s i with
    | false => exact ⟨fun hq => absurd hq (by simp), fun _ => rfl⟩
    | true => exact ⟨fun _ => rfl, fun hq => absurd rfl hq⟩) (by
    intro n
    simp only [m_syntagmaref24_right_l2]
    rw [decide_eq_false (by omega), cond_false]) (by rw [FUv]; omega)
  refine bnd e2 ?_
  by_cases c3 : ∀ i x, (nextP s)[i]? = some x → onP a x (sideP s i) = true
  rotate_left
  · rw [if_neg c3, decide_eq_false (p := rightP a s) (fun h => c3 h.2.2.2.2)]; rfl
  rw [if_pos c3, go_on, redges_eq _ _ h2, redges_eq _ _ h3, Option.bind_some, Option.bind_some, bf, Option.bind_some]
  congr 1
  rw [Bool.eq_iff_iff, decide_eq_true_eq, Bool.and_eq_true, decide_eq_true_eq, decide_eq_true_eq]
  exact ⟨fun h => ⟨c1, c2, h.1, h.2, c3⟩, fun h => ⟨h.2.2.1, h.2.2.2.1⟩⟩
noncomputable def mayP (a : AutoAuto) : Int := if a.l.length = 0 ∨ 2000 < a.l.length then 8 else if (∀ s ∈ a.l, rightP a s) ∧ onP a a.start true = true then 0 else 4
theorem may_eq (a : AutoAuto) (h : AB a) : m_auto_May a = some (mayP a) := by
  obtain ⟨h1, h2⟩ := h
  unfold m_auto_May mayP
  by_cases c0 : a.l.length = 0 ∨ 2000 < a.l.length
  · rw [if_pos c0, show (decide ((a.l.length : Int) = 0) || decide (2000 < (a.l.length : Int))) = true by rw [Bool.or_eq_true, decide_eq_true_eq, decide_eq_true_eq]; omega, cond_true]
  rw [if_neg c0, show (decide ((a.l.length : Int) = 0) || decide (2000 < (a.l.length : Int))) = false by rw [Bool.or_eq_false_iff, decide_eq_false_iff_not, decide_eq_false_iff_not]; omega, cond_false, on_eq, Option.bind_some]
  have e := hasState_eq a.l (fun y0 => m_auto_May_1 y0 a) (fun s => !decide (rightP a s)) (by
    intro s hs
    rw [m_auto_May_1, right_eq _ _ (h2 s hs)]; rfl) (by omega)
  rw [e]
  have e2 : (a.l.any fun s => !decide (rightP a s)) = !decide (∀ s ∈ a.l, rightP a s) := by
    rw [← Bool.not_not (b := a.l.any _), not_any]
    congr 1
    exact decide_eq_decide.2 (by simp)
  rw [e2, Option.bind_some, bt, Option.bind_some]
  cases hb : onP a a.start true with
  | false => rw [if_neg (by simp)]; rfl
  | true =>
    by_cases hc : ∀ s ∈ a.l, rightP a s
    · rw [decide_eq_true hc, if_pos ⟨hc, rfl⟩]; rfl
    · rw [decide_eq_false hc, if_neg (fun h => hc h.1)]; rfl
theorem rmay_eq (a : AutoAuto) (h : AB a) : m_syntagmaref24_May a = some (mayP a) := by
  obtain ⟨h1, h2⟩ := h
  unfold m_syntagmaref24_May mayP
  by_cases c0 : a.l.length = 0 ∨ 2000 < a.l.length
  · rw [if_pos c0, show (decide ((a.l.length : Int) < 1) || decide (2000 < (a.l.length : Int))) = true by rw [Bool.or_eq_true, decide_eq_true_eq, decide_eq_true_eq]; omega, cond_true]
  rw [if_neg c0, show (decide ((a.l.length : Int) < 1) || decide (2000 < (a.l.length : Int))) = false by rw [Bool.or_eq_false_iff, decide_eq_false_iff_not, decide_eq_false_iff_not]; omega, cond_false]
  refine bnd (loop_all (φ := m_syntagmaref24_May_l1 a) (l := a.l) 4 (fun _ s => rightP a s) ?_ ?_ (by rw [FUv]; omega)) ?_
  · intro n i x hx hi
    simp only [m_syntagmaref24_May_l1]
    rw [decide_eq_true (show (i : Int) < a.l.length by omega), cond_true, getI hx, Option.bind_some, rright_eq a x (h2 x (List.mem_of_getElem? hx)) (by omega), Option.bind_some]
    constructor
    · intro hq; rw [decide_eq_true hq, Bool.not_true, cond_false, grd_pos (by omega)]
    · intro hq; rw [decide_eq_false hq, Bool.not_false, cond_true]
  · intro n
    simp only [m_syntagmaref24_May_l1]
    rw [decide_eq_false (by omega), cond_false]
  by_cases hc : ∀ s ∈ a.l, rightP a s
  rotate_left
  · rw [if_neg (fun h => hc (fun s hs => by obtain ⟨k, hk, hk2⟩ := List.getElem_of_mem hs; exact h k s (by rw [← hk2]; exact List.getElem?_eq_getElem hk))), if_neg (fun h => hc h.1)]; rfl
  rw [if_pos (fun i x hx => hc x (List.mem_of_getElem? hx)), go_on]
  have e : (bif ((decide (a.start < 0)) || (decide ((a.l.length : Int) ≤ a.start))) then (some true) else ((idx a.l a.start).bind fun x3 => some (!x3.plus))) = some (!onP a a.start true) := by
    unfold onP
    by_cases hs : a.start < 0 ∨ (a.l.length : Int) ≤ a.start
    · have : idx a.l a.start = none := by
        unfold idx
        split
        · exact List.getElem?_eq_none (by omega)
        · rfl
      rw [this, show (decide (a.start < 0) || decide ((a.l.length : Int) ≤ a.start)) = true by simpa using hs]; rfl
    · have hx : idx a.l a.start = some a.l[a.start.toNat] := by
        unfold idx
        rw [if_pos (by omega)]
        exact List.getElem?_eq_getElem (by omega)
      rw [hx, show (decide (a.start < 0) || decide ((a.l.length : Int) ≤ a.start)) = false by simpa using hs, cond_false, Option.bind_some]
      show some _ = some (!(_ == true))
      cases a.l[a.start.toNat].plus <;> rfl
  rw [bind_of e]
  cases hb : onP a a.start true with
  | false => rw [if_neg (by simp)]; rfl
  | true => rw [if_pos ⟨hc, rfl⟩]; rfl
end Go.Proofs.YtafphfokopkhdaaGreat
set_option linter.unusedVariables false
set_option linter.unusedSimpArgs false
set_option maxRecDepth 100000
namespace Go.Proofs.YtafphfokopkhdaaGreat
open Go.V
open Classical
theorem lenNe {α β : Type} (a : List α) (b : List β) : (!decide ((a.length : Int) = (b.length : Int))) = !decide (a.length = b.length) := by
  congr 1; exact decide_eq_decide.2 (by omega)
theorem edge_eqv (x y : AutoEdge) : AutoEdge.eqv x y = decide (x = y) := by
  unfold AutoEdge.eqv
  rw [Bool.eq_iff_iff]
  simp only [Bool.and_true, Bool.and_eq_true, beq_iff_eq, decide_eq_true_eq]
  cases x; cases y; simp
theorem rEdges_eq (a b : List AutoEdge) (h : a.length ≤ 3000) : m_syntagmaref24_sameEdges a b = some (decide (a = b)) := by
  unfold m_syntagmaref24_sameEdges
  rw [lenNe]
  by_cases hl : a.length = b.length
  · rw [decide_eq_true hl, Bool.not_true, cond_false]
    refine bnd (loop_same (φ := m_syntagmaref24_sameEdges_l1 a b) (l := a) (m := b) false hl ?_ ?_ (by rw [FUv]; omega)) ?_
    · intro n i x y hx hy hi
      simp only [m_syntagmaref24_sameEdges_l1]
      rw [decide_eq_true (show (i : Int) < a.length by omega), cond_true, getI hx, Option.bind_some, getI hy, Option.bind_some, edge_eqv]
      exact ⟨fun hq => by rw [decide_eq_true hq, Bool.not_true, cond_false, grd_pos (by omega)], fun hq => by rw [decide_eq_false hq, Bool.not_false, cond_true]⟩
    · intro n
      simp only [m_syntagmaref24_sameEdges_l1]
      rw [decide_eq_false (by omega), cond_false]
    · by_cases hab : a = b
      · rw [if_pos hab, decide_eq_true hab]; rfl
      · rw [if_neg hab, decide_eq_false hab]; rfl
  · rw [decide_eq_false hl, decide_eq_false (p := a = b) (fun h => hl (by rw [h]))]; rfl
theorem state_iff (a b : AutoState) : a = b ↔ a.plus = b.plus ∧ a.all = b.all ∧ a.int = b.int ∧ a.bool = b.bool ∧ a.str = b.str ∧ a.arrow = b.arrow ∧ a.rec_ = b.rec_ ∧ a.tag = b.tag ∧ a.vars = b.vars ∧ a.dom = b.dom ∧ a.cod = b.cod ∧ a.fields = b.fields ∧ a.tags = b.tags := by
  cases a; cases b; simp
theorem rsameState_eq (a b : AutoState) (h : SB a) : m_syntagmaref24_SameState a b = some (decide (a = b)) := by
  obtain ⟨h1, h2, h3⟩ := h
  unfold m_syntagmaref24_SameState
  rw [sameInts_eq _ _ (by omega), rEdges_eq _ _ (by omega), rEdges_eq _ _ (by omega)]
  simp only [Option.bind_some, bf]
  congr 1
  rw [Bool.eq_iff_iff, decide_eq_true_eq, state_iff]
  simp only [Bool.and_eq_true, beq_iff_eq, decide_eq_true_eq]
  constructor
  · rintro ⟨⟨⟨⟨⟨⟨⟨⟨⟨⟨⟨⟨h1, h2⟩, h3⟩, h4⟩, h5⟩, h6⟩, h7⟩, h8⟩, h9⟩, h10⟩, h11⟩, h12⟩, h13⟩
    exact ⟨h1, h2, h3, h4, h5, h6, h7, h8, h11, h9, h10, h12, h13⟩
  · rintro ⟨h1, h2, h3, h4, h5, h6, h7, h8, h11, h9, h10, h12, h13⟩
    exact ⟨⟨⟨⟨⟨⟨⟨⟨⟨⟨⟨⟨h1, h2⟩, h3⟩, h4⟩, h5⟩, h6⟩, h7⟩, h8⟩, h9⟩, h10⟩, h11⟩, h12⟩, h13⟩
theorem auto_iff (a b : AutoAuto) : a = b ↔ a.l = b.l ∧ a.start = b.start := by cases a; cases b; simp
theorem sameList_eq (a b : AutoAuto) (h : AB a) : m_syntagmaref24_SameList a b = some (decide (a = b)) := by
  obtain ⟨h, hs⟩ := h
  unfold m_syntagmaref24_SameList
  rw [lenNe]
  by_cases c1 : a.start = b.start
  rotate_left
  · rw [decide_eq_false c1, decide_eq_false (p := a = b) (fun h => c1 (by rw [h]))]; cases decide (a.l.length = b.l.length) <;> rfl
  rw [decide_eq_true c1, Bool.not_true, Bool.or_false]
  by_cases hl : a.l.length = b.l.length
  · rw [decide_eq_true hl, Bool.not_true, cond_false]
    refine bnd (loop_same (φ := m_syntagmaref24_SameList_l1 a b) (l := a.l) (m := b.l) false hl ?_ ?_ (by rw [FUv]; omega)) ?_
    · intro n i x y hx hy hi
      simp only [m_syntagmaref24_SameList_l1]
      rw [decide_eq_true (show (i : Int) < a.l.length by omega), cond_true, getI hx, Option.bind_some, getI hy, Option.bind_some, rsameState_eq _ _ (hs x (List.mem_of_getElem? hx)), Option.bind_some]
      exact ⟨fun hq => by rw [decide_eq_true hq, Bool.not_true, cond_false, grd_pos (by omega)], fun hq => by rw [decide_eq_false hq, Bool.not_false, cond_true]⟩
    · intro n
      simp only [m_syntagmaref24_SameList_l1]
      rw [decide_eq_false (by omega), cond_false]
    · by_cases hab : a.l = b.l
      · rw [if_pos hab, decide_eq_true (show a = b from (auto_iff a b).2 ⟨hab, c1⟩)]; rfl
      · rw [if_neg hab, decide_eq_false (p := a = b) (fun h => hab (by rw [h]))]; rfl
  · rw [decide_eq_false hl, decide_eq_false (p := a = b) (fun h => hl (by rw [h]))]; rfl
def st0 : AutoState := ⟨false, false, false, false, false, false, false, false, [], 0, 0, [], []⟩
def stA (a : AutoAuto) (k : Int) : AutoState := (idx a.l k).getD st0
def nxA (a : AutoAuto) (k : Int) : List Int := nextP (stA a k)
def tm (to : List Int) (k : Int) : Int := (idx to k).getD 0
def edgeM (to : List Int) (x : AutoEdge) : AutoEdge := ⟨x.name, tm to x.to_⟩
def stateM (to : List Int) (s : AutoState) : AutoState := ⟨s.plus, s.all, s.int, s.bool, s.str, s.arrow, s.rec_, s.tag, s.vars, if s.arrow = true then tm to s.dom else s.dom, if s.arrow = true then tm to s.cod else s.cod, s.fields.map (edgeM to), s.tags.map (edgeM to)⟩
def orderP (a : AutoAuto) : List Int := bfs (nxA a) a.l.length 0 [a.start]
def toP (a : AutoAuto) : List Int := setAll 0 (orderP a) (List.replicate a.l.length 0)
def normP (a : AutoAuto) : AutoAuto := ⟨(orderP a).map (fun k => stateM (toP a) (stA a k)), 0⟩
/-- In order as to where all lead. -/
structure Led (a : AutoAuto) : Prop where
  ab : AB a
  led : ∀ k s, idx a.l k = some s → inN a.l.length (nextP s)
  st : 0 ≤ a.start ∧ a.start < (a.l.length : Int)
theorem idx_in {α : Type} {l : List α} {k : Int} (h0 : 0 ≤ k) (h : k < (l.length : Int)) : ∃ x, idx l k = some x ∧ x ∈ l := by
  unfold idx
  rw [if_pos h0]
  exact ⟨l[k.toNat], List.getElem?_eq_getElem (by omega), List.getElem_mem (by omega)⟩
theorem idx_bd {α : Type} {l : List α} {k : Int} {x : α} (h : idx l k = some x) : 0 ≤ k ∧ k < (l.length : Int) := by
  obtain ⟨h0, h1⟩ := idx_some h
  have := getLt h1
  omega
theorem tm_get {to : List Int} {k : Int} (h0 : 0 ≤ k) (h : k < (to.length : Int)) : idx to k = some (tm to k) := by
  obtain ⟨x, hx, _⟩ := idx_in h0 h
  rw [tm, hx]; rfl
theorem stA_get {a : AutoAuto} {k : Int} (h0 : 0 ≤ k) (h : k < (a.l.length : Int)) : idx a.l k = some (stA a k) := by
  obtain ⟨x, hx, _⟩ := idx_in h0 h
  rw [stA, hx]; rfl
theorem stA_mem {a : AutoAuto} {k : Int} (h0 : 0 ≤ k) (h : k < (a.l.length : Int)) : stA a k ∈ a.l := by
  obtain ⟨x, hx, h2⟩ := idx_in h0 h
  rw [stA, hx]; exact h2
section
variable {a : AutoAuto} (ha : Led a)
include ha
theorem nxA_in (x : Int) (h0 : 0 ≤ x) (h : x < (a.l.length : Int)) : inN a.l.length (nxA a x) := ha.led x _ (stA_get h0 h)
theorem start_in : inN a.l.length [a.start] := by
  intro x hx
  simp only [List.mem_singleton] at hx
  subst hx
  exact ha.st
theorem order_ok : (orderP a).Nodup ∧ inN a.l.length (orderP a) ∧ (∃ e, orderP a = [a.start] ++ e) ∧ (∀ (j : Nat) x, 0 ≤ j → (orderP a)[j]? = some x → ∀ y ∈ nxA a x, y ∈ orderP a) :=
  bfs_ok (nxA_in ha) a.l.length 0 [a.start] (by omega) (by simp) (by simp) (start_in ha)
theorem order_len : (orderP a).length ≤ 2001 := by
  have := range_len _ _ (order_ok ha).1 (order_ok ha).2.1
  have := ha.ab.1
  omega
end
theorem to_len {a : AutoAuto} (_ : Led a) : (toP a).length = a.l.length := by unfold toP; rw [setAll_len]; simp
def SeenOk (N : Nat) (l : List Int) (s : List Bool) : Prop := s.length = N ∧ ∀ k : Nat, k < N → s[k]? = some (decide ((k : Int) ∈ l))
theorem seen_get {N : Nat} {l : List Int} {s : List Bool} {x : Int} (h : SeenOk N l s) (h0 : 0 ≤ x) (h1 : x < (N : Int)) : idx s x = some (decide (x ∈ l)) := by
  have := h.2 x.toNat (by omega)
  unfold idx
  rw [if_pos h0, this, show ((x.toNat : Nat) : Int) = x by omega]
theorem seen_set {N : Nat} {l : List Int} {s : List Bool} {x : Int} (h : SeenOk N l s) (h0 : 0 ≤ x) (h1 : x < (N : Int)) : SeenOk N (l ++ [x]) (s.set x.toNat true) := by
  refine ⟨by simp [h.1], fun k hk => ?_⟩
  by_cases e : x.toNat = k
  · rw [← e, List.getElem?_set_self (by rw [h.1]; omega)]
    congr 1
    symm
    rw [decide_eq_true_eq]
    simp; omega
  · rw [List.getElem?_set_ne e, h.2 k hk]
    congr 1
    refine decide_eq_decide.2 ?_
    simp only [List.mem_append, List.mem_singleton]
    exact ⟨fun h => .inl h, fun h => h.elim id (fun h => absurd h (by omega))⟩
theorem reached_l2_eq {N : Nat} (hN : N ≤ 3000) (pre w nx : List Int) (seen : List Bool) (hs : SeenOk N (pre ++ w) seen) (hn : inN N nx) (hd : (pre ++ w).Nodup) (hr : inN N (pre ++ w)) (hlen : nx.length ≤ 100) :
    ∃ w' seen', m_reached_l2 nx FU (0, w, seen) = some (w', seen') ∧ pre ++ w' = addL (pre ++ w) nx ∧ SeenOk N (pre ++ w') seen' := by
  obtain ⟨⟨w', seen'⟩, h1, h2⟩ := loop_rng (φ := fun n i s => m_reached_l2 nx n (i, s.1, s.2)) (l := nx) (fun i s => pre ++ s.1 = addL (pre ++ w) (nx.take i) ∧ SeenOk N (pre ++ s.1) s.2) (fun o => pre ++ o.1 = addL (pre ++ w) nx ∧ SeenOk N (pre ++ o.1) o.2) (by
    rintro n i x ⟨v, s⟩ hx hi ⟨hI1, hI2⟩
    left
    have hxr := hn x (List.mem_of_getElem? hx)
    have hnt : inN N (nx.take i) := fun y hy => hn y (List.mem_of_mem_take hy)
    have hb : (pre ++ v).length ≤ N := by rw [hI1]; exact addL_len hr hnt hd
    simp only [m_reached_l2]
    rw [decide_eq_true (show (i : Int) < nx.length by omega), cond_true, getI hx, Option.bind_some, seen_get hI2 hxr.1 hxr.2, Option.bind_some]
    by_cases hm : x ∈ pre ++ v
    · rw [decide_eq_true hm, Bool.not_true, cond_false, grd_pos (by omega)]
      refine ⟨(v, s), rfl, ?_, hI2⟩
      rw [take_snoc hx, addL_snoc, ← hI1, if_pos hm]
    · rw [decide_eq_false hm, Bool.not_false, cond_true, Option.bind_some, grd_pos (by simp only [List.length_append] at hb; simp only [List.length_cons, List.length_nil]; omega), grd_pos (by omega)]
      refine ⟨(v ++ [x], s.set x.toNat true), rfl, ?_, ?_⟩
      · rw [take_snoc hx, addL_snoc, ← hI1, if_neg hm, List.append_assoc]
      · rw [← List.append_assoc]
        exact seen_set hI2 hxr.1 hxr.2) (by
    rintro n ⟨v, s⟩ ⟨hI1, hI2⟩
    simp only [m_reached_l2]
    rw [decide_eq_false (by omega), cond_false]
    rw [List.take_length] at hI1
    exact ⟨_, rfl, hI1, hI2⟩) (by rw [FUv]; omega) (w, seen) ⟨by simp [addL_nil], hs⟩
  exact ⟨w', seen', h1, h2⟩
theorem drop_get {α : Type} {l : List α} {i : Nat} {x : α} (h : l[i]? = some x) : l.drop i = x :: l.drop (i + 1) := by
  obtain ⟨hi, hx⟩ := List.getElem?_eq_some_iff.1 h
  rw [List.drop_eq_getElem_cons hi, hx]
theorem reached_l1_eq {a : AutoAuto} (ha : Led a) : ∀ (m i : Nat) (l : List Int) (n : Nat) (seen : List Bool), a.l.length ≤ i + m → i ≤ l.length → l.Nodup → inN a.l.length l → m < n → SeenOk a.l.length l seen → m_reached_l1 a n (l.drop i, seen) = some ((bfs (nxA a) m i l).drop i) := by
  intro m
  induction m with
  | zero =>
    intro i l n seen hN hi hd hr hn hs
    have := range_len _ _ hd hr
    obtain ⟨n, rfl⟩ : ∃ k, n = k + 1 := ⟨n - 1, by omega⟩
    rw [show l.drop i = [] from List.drop_eq_nil_of_le (by omega), show (bfs (nxA a) 0 i l).drop i = [] from List.drop_eq_nil_of_le (by simp only [bfs]; omega)]
    rfl
  | succ m ih =>
    intro i l n seen hN hi hd hr hn hs
    obtain ⟨n, rfl⟩ : ∃ k, n = k + 1 := ⟨n - 1, by omega⟩
    cases hx : l[i]? with
    | none =>
      have := List.getElem?_eq_none_iff.1 hx
      rw [bfs_none hx, show l.drop i = [] from List.drop_eq_nil_of_le (by omega)]
      rfl
    | some x =>
      have hxr := hr x (List.mem_of_getElem? hx)
      have hil := getLt hx
      have hin := nxA_in ha x hxr.1 hxr.2
      have hSB := ha.ab.2 _ (stA_mem hxr.1 hxr.2)
      have hl := nextP_len _ hSB
      have hbig := ha.ab.1
      obtain ⟨w', seen', h1, h2, h3⟩ := reached_l2_eq (N := a.l.length) (by omega) (l.take (i + 1)) (l.drop (i + 1)) (nxA a x) seen (by rw [List.take_append_drop]; exact hs) hin (by rw [List.take_append_drop]; exact hd) (by rw [List.take_append_drop]; exact hr) (by unfold nxA; omega)
      rw [List.take_append_drop] at h2
      obtain ⟨e, he⟩ := addL_pre (nxA a x) l
      have hw : w' = (addL l (nxA a x)).drop (i + 1) := by
        rw [← h2, List.drop_append_of_le_length (by simp; omega)]
        simp
      rw [bfs_some hx, drop_get hx]
      simp only [m_reached_l1]
      rw [decide_eq_true (by simp only [List.length_cons]; omega), cond_true, idx_c0, Option.bind_some]
      have hsli : sli (x :: l.drop (i + 1)) 1 ((x :: l.drop (i + 1)).length : Int) = some (l.drop (i + 1)) := by
        have := sli_from (l := x :: l.drop (i + 1)) (i := 1) rfl (by simp)
        simpa using this
      have ih2 := ih (i + 1) (addL l (nxA a x)) n seen' (by omega) (by rw [he]; simp; omega) (addL_nodup _ _ hd) (inN_add hr hin) (by omega) (by rw [← h2]; exact h3)
      rw [hsli, Option.bind_some, stA_get hxr.1 hxr.2, Option.bind_some, next_eq _ hSB, Option.bind_some, show nextP (stA a x) = nxA a x from rfl, h1, Option.bind_some, hw]
      simp only
      rw [ih2, Option.bind_some]
      have hok := bfs_ok (nxA_in ha) m (i + 1) (addL l (nxA a x)) (by omega) (by rw [he]; simp; omega) (addL_nodup _ _ hd) (inN_add hr hin)
      obtain ⟨_, _, ⟨e2, h4⟩, _⟩ := hok
      rw [← drop_get]
      rw [h4, he, List.append_assoc, List.getElem?_append_left hil, hx]
theorem reached_eq {a : AutoAuto} (ha : Led a) : m_reached a = some (orderP a) := by
  have hb := ha.ab.1
  have hst := ha.st
  unfold m_reached
  have hs0 : SeenOk a.l.length [] (List.replicate a.l.length false) := ⟨by simp, fun k hk => by rw [List.getElem?_replicate, if_pos hk]; simp⟩
  rw [grd_pos (by omega), grd_pos (by omega), Int.toNat_natCast, seen_get hs0 hst.1 hst.2, Option.bind_some]
  have := reached_l1_eq ha a.l.length 0 [a.start] FU _ (by omega) (by simp) (by simp) (start_in ha) (by rw [FUv]; omega) (seen_set hs0 hst.1 hst.2)
  simpa [orderP] using this
theorem bhas_eq (l : List Int) (x : Int) (h : l.length ≤ 100000) : m_syntagmabase_HasInt l x = some (decide (x ∈ l)) := by
  unfold m_syntagmabase_HasInt
  refine bnd (loop_any (φ := m_syntagmabase_HasInt_l1 l x) (l := l) true (fun _ y => y = x) ?_ ?_ (by rw [FUv]; omega)) ?_
  · intro n i y hy hi
    simp only [m_syntagmabase_HasInt_l1]
    rw [decide_eq_true (show (i : Int) < l.length by omega), cond_true, getI hy, Option.bind_some]
    exact ⟨fun hq => by rw [decide_eq_false hq, cond_false, grd_pos (by omega)], fun hq => by rw [decide_eq_true hq, cond_true]⟩
  · intro n
    simp only [m_syntagmabase_HasInt_l1]
    rw [decide_eq_false (by omega), cond_false]
  · by_cases hs : x ∈ l
    · obtain ⟨i, hi, h2⟩ := List.getElem_of_mem hs
      rw [if_pos ⟨i, x, by rw [← h2]; exact List.getElem?_eq_getElem hi, rfl⟩, decide_eq_true hs]; rfl
    · rw [if_neg, decide_eq_false hs]; rfl
      rintro ⟨i, y, h1, rfl⟩
      exact hs (List.mem_of_getElem? h1)
theorem rnorm_l2_eq {N : Nat} (hN : N ≤ 3000) (l nx : List Int) (hn : inN N nx) (hd : l.Nodup) (hr : inN N l) (hlen : nx.length ≤ 100) : m_syntagmaref24_Norm_l2 nx FU (0, l) = some (addL l nx) := by
  obtain ⟨o, h1, h2⟩ := loop_rng (φ := fun n i s => m_syntagmaref24_Norm_l2 nx n (i, s)) (l := nx) (fun i s => s = addL l (nx.take i)) (fun o => o = addL l nx) (by
    rintro n i x s hx hi hI
    left
    have hxr := hn x (List.mem_of_getElem? hx)
    have hnt : inN N (nx.take i) := fun y hy => hn y (List.mem_of_mem_take hy)
    have hb : s.length ≤ N := by rw [hI]; exact addL_len hr hnt hd
    simp only [m_syntagmaref24_Norm_l2]
    rw [decide_eq_true (show (i : Int) < nx.length by omega), cond_true, getI hx, Option.bind_some, bhas_eq _ _ (by omega), Option.bind_some]
    by_cases hm : x ∈ s
    · rw [decide_eq_true hm, Bool.not_true, cond_false, grd_pos (by omega)]
      refine ⟨s, rfl, ?_⟩
      rw [take_snoc hx, addL_snoc, ← hI, if_pos hm]
    · rw [decide_eq_false hm, Bool.not_false, cond_true, Option.bind_some, grd_pos (by simp only [List.length_cons, List.length_nil]; omega), grd_pos (by omega)]
      refine ⟨s ++ [x], rfl, ?_⟩
      rw [take_snoc hx, addL_snoc, ← hI, if_neg hm]) (by
    rintro n s hI
    simp only [m_syntagmaref24_Norm_l2]
    rw [decide_eq_false (by omega), cond_false]
    rw [List.take_length] at hI
    exact ⟨_, rfl, hI⟩) (by rw [FUv]; omega) l (by simp [addL_nil])
  rw [h1, h2]
theorem rnorm_l1_eq {a : AutoAuto} (ha : Led a) : ∀ (m i : Nat) (l : List Int) (n : Nat), a.l.length ≤ i + m → i ≤ l.length → l.Nodup → inN a.l.length l → m < n → m_syntagmaref24_Norm_l1 a n ((i : Int), l) = some (bfs (nxA a) m i l) := by
  intro m
  induction m with
  | zero =>
    intro i l n hN hi hd hr hn
    have := range_len _ _ hd hr
    obtain ⟨n, rfl⟩ : ∃ k, n = k + 1 := ⟨n - 1, by omega⟩
    simp only [m_syntagmaref24_Norm_l1]
    rw [decide_eq_false (by omega), cond_false]; rfl
  | succ m ih =>
    intro i l n hN hi hd hr hn
    obtain ⟨n, rfl⟩ : ∃ k, n = k + 1 := ⟨n - 1, by omega⟩
    simp only [m_syntagmaref24_Norm_l1]
    cases hx : l[i]? with
    | none =>
      have := List.getElem?_eq_none_iff.1 hx
      rw [bfs_none hx, decide_eq_false (by omega), cond_false]
    | some x =>
      have hxr := hr x (List.mem_of_getElem? hx)
      have hil := getLt hx
      have hin := nxA_in ha x hxr.1 hxr.2
      have hSB := ha.ab.2 _ (stA_mem hxr.1 hxr.2)
      have hl := nextP_len _ hSB
      have hbig := ha.ab.1
      obtain ⟨e, he⟩ := addL_pre (nxA a x) l
      rw [bfs_some hx, decide_eq_true (by omega), cond_true, getI hx, Option.bind_some, stA_get hxr.1 hxr.2, Option.bind_some, rnext_eq _ hSB, Option.bind_some, show nextP (stA a x) = nxA a x from rfl, rnorm_l2_eq (N := a.l.length) (by omega) l _ hin hd hr (by unfold nxA; omega), Option.bind_some, grd_pos (by have := range_len _ _ hd hr; omega)]
      exact ih (i + 1) (addL l (nxA a x)) n (by omega) (by rw [he]; simp; omega) (addL_nodup _ _ hd) (inN_add hr hin) (by omega)
theorem norm_r1_eq {N : Nat} : ∀ (xs l3 l4 : List Int), inN N xs → l4.length = N → l3.length + xs.length ≤ 100000 → m_auto_norm_r1 xs (l3, l4) = some (l3 ++ xs, setAll l3.length xs l4)
  | [], l3, l4, _, _, _ => by simp [m_auto_norm_r1, setAll]
  | x :: xs, l3, l4, hr, hl, hb => by
    have hx := hr x (by simp)
    simp only [List.length_cons] at hb
    rw [m_auto_norm_r1, tm_get hx.1 (by omega), Option.bind_some, grd_pos (by simp only [List.length_cons, List.length_nil]; omega), norm_r1_eq xs _ _ (fun y hy => hr y (by simp [hy])) (by simpa using hl) (by simp; omega)]
    simp [setAll]
theorem rnorm_l3_eq {N : Nat} (l : List Int) (hr : inN N l) (hb : l.length ≤ 100000) (t : List Int) (ht : t.length = N) : m_syntagmaref24_Norm_l3 l FU (0, t) = some (setAll 0 l t) := by
  have := loop_fold (φ := fun n i s => m_syntagmaref24_Norm_l3 l n (i, s)) (l := l) (fun _ s => s.length = N) (fun i s x => s.set x.toNat (i : Int)) id (by
    intro n i x s hx hi hI
    have hxr := hr x (List.mem_of_getElem? hx)
    simp only [m_syntagmaref24_Norm_l3]
    rw [decide_eq_true (show (i : Int) < l.length by omega), cond_true, getI hx, Option.bind_some, tm_get hxr.1 (by omega), Option.bind_some, grd_pos (by omega)]
    exact ⟨rfl, by simpa using hI⟩) (by
    intro n s hI
    simp only [m_syntagmaref24_Norm_l3]
    rw [decide_eq_false (by omega), cond_false]; rfl) (by rw [FUv]; omega) (fun i t s => setAll i t s) (fun _ _ => rfl) (fun _ _ _ _ => rfl) t ht
  exact this.1
theorem moved_eq (l : List AutoEdge) (to : List Int) (h : l.length ≤ 40) (hr : ∀ x ∈ l, 0 ≤ x.to_ ∧ x.to_ < (to.length : Int)) : m_auto_moved l to = some (l.map (edgeM to)) := by
  unfold m_auto_moved
  rw [grd_pos (by omega)]
  refine bnd (loop_setmap (φ := fun n i s => m_auto_moved_l1 l to n (i, s)) (l := l) (edgeM to) id ?_ ?_ (by rw [FUv]; omega)) rfl
  · intro n i x s hx hi hl hs
    have hxr := hr x (List.mem_of_getElem? hx)
    simp only [m_auto_moved_l1]
    rw [decide_eq_true (show (i : Int) < l.length by omega), cond_true, getI hs, Option.bind_some, tm_get hxr.1 hxr.2, Option.bind_some, Option.bind_some, grd_pos (by omega)]
    rfl
  · intro n s hl
    simp only [m_auto_moved_l1]
    rw [decide_eq_false (by omega), cond_false]; rfl
theorem next_dom {s : AutoState} (h : s.arrow = true) : s.dom ∈ nextP s ∧ s.cod ∈ nextP s := by unfold nextP; rw [if_pos h]; simp
theorem next_f {s : AutoState} {x : AutoEdge} (h : x ∈ s.fields) : x.to_ ∈ nextP s := by
  unfold nextP; simp only [List.mem_append, List.mem_map]; exact .inl (.inr ⟨x, h, rfl⟩)
theorem next_t {s : AutoState} {x : AutoEdge} (h : x ∈ s.tags) : x.to_ ∈ nextP s := by
  unfold nextP; simp only [List.mem_append, List.mem_map]; exact .inr ⟨x, h, rfl⟩
theorem norm_l2_eq {a : AutoAuto} (ha : Led a) (l to : List Int) (hr : inN a.l.length l) (hb : l.length ≤ 100000) (ht : to.length = a.l.length) : m_auto_norm_l2 a l to FU (0, [], 0) = some (l.map (fun k => stateM to (stA a k)), 0) := by
  have := loop_map (φ := fun n i s => m_auto_norm_l2 a l to n (i, s, 0)) (l := l) (fun k => stateM to (stA a k)) (fun s => (s, (0 : Int))) 0 (by
    intro n i x s hx hi hs
    have hxr := hr x (List.mem_of_getElem? hx)
    have hnx := nxA_in ha x hxr.1 hxr.2
    have hSB := ha.ab.2 _ (stA_mem hxr.1 hxr.2)
    obtain ⟨b1, b2, b3⟩ := hSB
    simp only [m_auto_norm_l2]
    rw [decide_eq_true (show (i : Int) < l.length by omega), cond_true, getI hx, Option.bind_some, stA_get hxr.1 hxr.2, Option.bind_some]
    generalize hS : stA a x = S at *
    replace hnx : inN a.l.length (nextP S) := by rw [← hS]; exact hnx
    rw [bind_of (x := (S.plus, S.all, S.int, S.bool, S.str, S.arrow, S.rec_, S.tag, S.vars, (if S.arrow = true then tm to S.dom else S.dom), (if S.arrow = true then tm to S.cod else S.cod), S.fields, S.tags))]
    rotate_left
    · cases h : S.arrow with
      | false => rfl
      | true =>
        have hd := next_dom h
        rw [cond_true, tm_get (hnx _ hd.1).1 (by rw [ht]; exact (hnx _ hd.1).2), Option.bind_some, tm_get (hnx _ hd.2).1 (by rw [ht]; exact (hnx _ hd.2).2), Option.bind_some]
        rfl
    simp only
    rw [grd_pos (by omega), moved_eq _ _ b2 (fun y hy => by rw [ht]; exact hnx _ (next_f hy)), Option.bind_some, moved_eq _ _ b3 (fun y hy => by rw [ht]; exact hnx _ (next_t hy)), Option.bind_some, grd_pos (by simp only [List.length_cons, List.length_nil]; omega), grd_pos (by omega)]
    rfl) (by
    intro n s hs
    simp only [m_auto_norm_l2]
    rw [decide_eq_false (by omega), cond_false]) (by rw [FUv]; omega) [] rfl
  exact this
theorem norm_eq {a : AutoAuto} (ha : Led a) : m_auto_norm a = some (normP a) := by
  have hb := ha.ab.1
  unfold m_auto_norm
  rw [grd_pos (by omega), grd_pos (by omega), reached_eq ha, Option.bind_some, Int.toNat_natCast]
  have hok := order_ok ha
  have hlen := order_len ha
  rw [norm_r1_eq (orderP a) [] _ hok.2.1 (by simp) (by simp; omega), Option.bind_some]
  simp only [List.nil_append, List.length_nil]
  rw [norm_l2_eq ha (orderP a) (setAll 0 (orderP a) (List.replicate a.l.length 0)) hok.2.1 (by omega) (to_len ha), Option.bind_some]
  rfl
theorem rMoved_eq (s : AutoState) (to : List Int) (h : SB s) (hr : inN to.length (nextP s)) : m_syntagmaref24_Moved s to = some (stateM to s) := by
  obtain ⟨b1, b2, b3⟩ := h
  unfold m_syntagmaref24_Moved
  rw [bind_of (x := (s.plus, s.all, s.int, s.bool, s.str, s.arrow, s.rec_, s.tag, s.vars, (if s.arrow = true then tm to s.dom else s.dom), (if s.arrow = true then tm to s.cod else s.cod), s.fields, s.tags))]
  rotate_left
  · cases h : s.arrow with
    | false => rfl
    | true =>
      have hd := next_dom h
      rw [cond_true, tm_get (hr _ hd.1).1 (hr _ hd.1).2, Option.bind_some, tm_get (hr _ hd.2).1 (hr _ hd.2).2, Option.bind_some]
      rfl
  simp only
  generalize hdd : (if s.arrow = true then tm to s.dom else s.dom) = dd
  generalize hcc : (if s.arrow = true then tm to s.cod else s.cod) = cc
  have e1 := loop_map (φ := fun n i t => m_syntagmaref24_Moved_l1 s to n (i, [], t, s.plus, s.all, s.int, s.bool, s.str, s.arrow, s.rec_, s.tag, s.vars, dd, cc)) (l := s.fields) (edgeM to) (fun t => (([] : List AutoEdge), t, s.plus, s.all, s.int, s.bool, s.str, s.arrow, s.rec_, s.tag, s.vars, dd, cc)) 0 (by
    intro n i x t hx hi ht
    have hxr := hr _ (next_f (List.mem_of_getElem? hx))
    simp only [m_syntagmaref24_Moved_l1]
    rw [decide_eq_true (show (i : Int) < s.fields.length by omega), cond_true, getI hx, Option.bind_some, Option.bind_some, tm_get hxr.1 hxr.2, Option.bind_some, grd_pos (by simp only [List.length_cons, List.length_nil]; omega), grd_pos (by omega)]
    rfl) (by
    intro n t ht
    simp only [m_syntagmaref24_Moved_l1]
    rw [decide_eq_false (by omega), cond_false]) (by rw [FUv]; omega) [] rfl
  rw [bind_of e1]
  simp only [List.nil_append]
  have e2 := loop_map (φ := fun n i t => m_syntagmaref24_Moved_l2 s to n (i, t, s.fields.map (edgeM to), s.plus, s.all, s.int, s.bool, s.str, s.arrow, s.rec_, s.tag, s.vars, dd, cc)) (l := s.tags) (edgeM to) (fun t => (t, s.fields.map (edgeM to), s.plus, s.all, s.int, s.bool, s.str, s.arrow, s.rec_, s.tag, s.vars, dd, cc)) 0 (by
    intro n i x t hx hi ht
    have hxr := hr _ (next_t (List.mem_of_getElem? hx))
    simp only [m_syntagmaref24_Moved_l2]
    rw [decide_eq_true (show (i : Int) < s.tags.length by omega), cond_true, getI hx, Option.bind_some, Option.bind_some, tm_get hxr.1 hxr.2, Option.bind_some, grd_pos (by simp only [List.length_cons, List.length_nil]; omega), grd_pos (by omega)]
    rfl) (by
    intro n t ht
    simp only [m_syntagmaref24_Moved_l2]
    rw [decide_eq_false (by omega), cond_false]) (by rw [FUv]; omega) [] rfl
  rw [bind_of e2]
  unfold stateM
  rw [hdd, hcc]
  rfl
theorem rnorm_eq {a : AutoAuto} (ha : Led a) : m_syntagmaref24_Norm a = some (normP a) := by
  have hb := ha.ab.1
  unfold m_syntagmaref24_Norm
  have e1 : m_syntagmaref24_Norm_l1 a FU (0, [a.start]) = some (bfs (nxA a) a.l.length 0 [a.start]) := rnorm_l1_eq ha a.l.length 0 [a.start] FU (by omega) (by simp) (by simp) (start_in ha) (by rw [FUv]; omega)
  have hok := order_ok ha
  have hlen := order_len ha
  rw [bind_of e1, show bfs (nxA a) a.l.length 0 [a.start] = orderP a from rfl, grd_pos (by omega), grd_pos (by omega), Int.toNat_natCast, rnorm_l3_eq (N := a.l.length) _ hok.2.1 (by omega) _ (by simp), Option.bind_some, show setAll 0 (orderP a) (List.replicate a.l.length 0) = toP a from rfl]
  have e2 := loop_map (φ := fun n i s => m_syntagmaref24_Norm_l4 a (orderP a) (toP a) n (i, s, 0)) (l := orderP a) (fun k => stateM (toP a) (stA a k)) (fun s => (s, (0 : Int))) 0 (by
    intro n i x s hx hi hs
    have hxr := hok.2.1 x (List.mem_of_getElem? hx)
    simp only [m_syntagmaref24_Norm_l4]
    rw [decide_eq_true (show (i : Int) < (orderP a).length by omega), cond_true, getI hx, Option.bind_some, stA_get hxr.1 hxr.2, Option.bind_some, rMoved_eq _ _ (ha.ab.2 _ (stA_mem hxr.1 hxr.2)) (by rw [to_len ha]; exact nxA_in ha x hxr.1 hxr.2), Option.bind_some, grd_pos (by simp only [List.length_cons, List.length_nil]; omega), grd_pos (by omega)]) (by
    intro n s hs
    simp only [m_syntagmaref24_Norm_l4]
    rw [decide_eq_false (by omega), cond_false]) (by rw [FUv]; omega) [] rfl
  rw [bind_of e2]
  rfl
end Go.Proofs.YtafphfokopkhdaaGreat
set_option linter.unusedVariables false
set_option linter.unusedSimpArgs false
set_option maxRecDepth 100000
namespace Go.Proofs.YtafphfokopkhdaaGreat
open Go.V
open Classical
theorem on_bd {a : AutoAuto} {k : Int} {p : Bool} (h : onP a k p = true) : ∃ s, idx a.l k = some s ∧ s.plus = p := by
  unfold onP at h
  cases hx : idx a.l k with
  | none => rw [hx] at h; cases h
  | some s => rw [hx] at h; exact ⟨s, rfl, by simpa using h⟩
theorem may_ok {a : AutoAuto} (h : mayP a = 0) : 0 < a.l.length ∧ a.l.length ≤ 2000 ∧ (∀ s ∈ a.l, rightP a s) ∧ onP a a.start true = true := by
  unfold mayP at h
  split at h
  · omega
  · split at h
    · rename_i h1 h2
      exact ⟨by omega, by omega, h2.1, h2.2⟩
    · omega
theorem may_of {a : AutoAuto} (h1 : 0 < a.l.length) (h2 : a.l.length ≤ 2000) (h3 : ∀ s ∈ a.l, rightP a s) (h4 : onP a a.start true = true) : mayP a = 0 := by
  unfold mayP
  rw [if_neg (by omega), if_pos ⟨h3, h4⟩]
theorem led_of {a : AutoAuto} (h : AB a) (hm : mayP a = 0) : Led a := by
  obtain ⟨h1, h2, h3, h4⟩ := may_ok hm
  refine ⟨h, ?_, ?_⟩
  · intro k s hs x hx
    obtain ⟨i, hi, hxi⟩ := List.getElem_of_mem hx
    obtain ⟨_, hs2⟩ := idx_some hs
    have := (h3 s (List.mem_of_getElem? hs2)).2.2.2.2 i x (by rw [← hxi]; exact List.getElem?_eq_getElem hi)
    obtain ⟨s', h5, _⟩ := on_bd this
    exact idx_bd h5
  · obtain ⟨s', h5, _⟩ := on_bd h4
    exact idx_bd h5
theorem stateM_SB {to : List Int} {s : AutoState} (h : SB s) : SB (stateM to s) := by
  obtain ⟨h1, h2, h3⟩ := h
  exact ⟨h1, by simpa [stateM] using h2, by simpa [stateM] using h3⟩
theorem norm_AB {a : AutoAuto} (ha : Led a) : AB (normP a) := by
  refine ⟨by simpa [normP] using order_len ha, ?_⟩
  intro s hs
  simp only [normP, List.mem_map] at hs
  obtain ⟨k, hk, rfl⟩ := hs
  have := (order_ok ha).2.1 k hk
  exact stateM_SB (ha.ab.2 _ (stA_mem this.1 this.2))
theorem Norm_ok {a : AutoAuto} (h : AB a) (hm : mayP a = 0) : m_auto_Norm a = some (normP a, 0) := by
  unfold m_auto_Norm
  rw [may_eq a h, Option.bind_some, hm, show (!decide ((0 : Int) = 0)) = false from rfl, cond_false, norm_eq (led_of h hm)]
  rfl
theorem give_eq (a : AutoAuto) : ∃ x, m_syntagmalaw24_Give a 14 = some x ∧ AB x := by
  unfold m_syntagmalaw24_Give
  have key : ∀ n (i : Nat) (s : List AutoState), i ≤ 2001 → 2001 - i < n → s.length = i → (∀ t ∈ s, SB t) → ∃ s', m_syntagmalaw24_Give_l1 a 14 n ((i : Int), s, a.start) = some (s', a.start) ∧ s'.length ≤ 2001 ∧ ∀ t ∈ s', SB t := by
    intro n
    induction n with
    | zero => intro i s _ h; omega
    | succ n ih =>
      intro i s hi hn hs hSB
      simp only [m_syntagmalaw24_Give_l1]
      by_cases hc : i < a.l.length ∧ (i < 14 ∨ (2000 < a.l.length ∧ i ≤ 2000))
      rotate_left
      · rw [show ((decide ((i : Int) < (a.l.length : Int))) && ((decide ((i : Int) < 14)) || ((decide (2000 < (a.l.length : Int))) && (decide ((i : Int) ≤ 2000))))) = false by
          rw [← Bool.not_eq_true]; simp only [Bool.and_eq_true, Bool.or_eq_true, decide_eq_true_eq]; omega, cond_false]
        exact ⟨s, rfl, by omega, hSB⟩
      · rw [show ((decide ((i : Int) < (a.l.length : Int))) && ((decide ((i : Int) < 14)) || ((decide (2000 < (a.l.length : Int))) && (decide ((i : Int) ≤ 2000))))) = true by
          simp only [Bool.and_eq_true, Bool.or_eq_true, decide_eq_true_eq]; omega, cond_true]
        have hx : a.l[i]? = some a.l[i] := List.getElem?_eq_getElem hc.1
        generalize a.l[i] = x at hx
        have hv : sli x.vars 0 (if 40 < (x.vars.length : Int) then 40 else (x.vars.length : Int)) = some (x.vars.take (min 40 x.vars.length)) := by
          have := minL 40 x.vars
          rw [show (if 40 < (x.vars.length : Int) then 40 else (x.vars.length : Int)) = ((min 40 x.vars.length : Nat) : Int) from this, sli_take (by omega)]
        rw [getI hx, Option.bind_some, hv, Option.bind_some, ints_eq _ (by simp; omega), Option.bind_some]
        generalize hvs : x.vars.take (min 40 x.vars.length) = vs
        have hvl : vs.length ≤ 40 := by rw [← hvs]; simp; omega
        have e1 : ∀ n (k : Nat) (t : List AutoEdge), k ≤ 40 → 40 - k < n → t.length = k → ∃ t', m_syntagmalaw24_Give_l2 x n ((k : Int), [], t, x.plus, x.all, x.int, x.bool, x.str, x.arrow, x.rec_, x.tag, vs, x.dom, x.cod) = some ([], t', x.plus, x.all, x.int, x.bool, x.str, x.arrow, x.rec_, x.tag, vs, x.dom, x.cod) ∧ t'.length ≤ 40 := by
          intro n
          induction n with
          | zero => intro k t _ h; omega
          | succ n ih =>
            intro k t hk hn ht
            simp only [m_syntagmalaw24_Give_l2]
            by_cases hc : k < x.fields.length ∧ k < 40
            rotate_left
            · rw [show ((decide ((k : Int) < (x.fields.length : Int))) && (decide ((k : Int) < 40))) = false by
                rw [← Bool.not_eq_true]; simp only [Bool.and_eq_true, decide_eq_true_eq]; omega, cond_false]
              exact ⟨t, rfl, by omega⟩
            · rw [show ((decide ((k : Int) < (x.fields.length : Int))) && (decide ((k : Int) < 40))) = true by
                simp only [Bool.and_eq_true, decide_eq_true_eq]; omega, cond_true, getI (List.getElem?_eq_getElem hc.1), Option.bind_some, Option.bind_some, grd_pos (by simp only [List.length_cons, List.length_nil]; omega), grd_pos (by omega)]
              exact ih (k + 1) _ (by omega) (by omega) (by simp; omega)
        obtain ⟨fs, e1, hfs⟩ := e1 FU 0 [] (by omega) (by rw [FUv]; omega) rfl
        rw [show ((0 : Nat) : Int) = 0 from rfl] at e1
        rw [bind_of e1]
        simp only
        have e2 : ∀ n (k : Nat) (t : List AutoEdge), k ≤ 40 → 40 - k < n → t.length = k → ∃ t', m_syntagmalaw24_Give_l3 x n ((k : Int), t, fs, x.plus, x.all, x.int, x.bool, x.str, x.arrow, x.rec_, x.tag, vs, x.dom, x.cod) = some (t', fs, x.plus, x.all, x.int, x.bool, x.str, x.arrow, x.rec_, x.tag, vs, x.dom, x.cod) ∧ t'.length ≤ 40 := by
          intro n
          induction n with
          | zero => intro k t _ h; omega
          | succ n ih =>
            intro k t hk hn ht
            simp only [m_syntagmalaw24_Give_l3]
            by_cases hc : k < x.tags.length ∧ k < 40
            rotate_left
            · rw [show ((decide ((k : Int) < (x.tags.length : Int))) && (decide ((k : Int) < 40))) = false by
                rw [← Bool.not_eq_true]; simp only [Bool.and_eq_true, decide_eq_true_eq]; omega, cond_false]
              exact ⟨t, rfl, by omega⟩
            · rw [show ((decide ((k : Int) < (x.tags.length : Int))) && (decide ((k : Int) < 40))) = true by
                simp only [Bool.and_eq_true, decide_eq_true_eq]; omega, cond_true, getI (List.getElem?_eq_getElem hc.1), Option.bind_some, Option.bind_some, grd_pos (by simp only [List.length_cons, List.length_nil]; omega), grd_pos (by omega)]
              exact ih (k + 1) _ (by omega) (by omega) (by simp; omega)
        obtain ⟨ts, e2, hts⟩ := e2 FU 0 [] (by omega) (by rw [FUv]; omega) rfl
        rw [show ((0 : Nat) : Int) = 0 from rfl] at e2
        rw [bind_of e2]
        simp only
        rw [grd_pos (by simp only [List.length_cons, List.length_nil]; omega), grd_pos (by omega)]
        refine ih (i + 1) _ (by omega) (by omega) (by simp; omega) ?_
        intro t ht
        simp only [List.mem_append, List.mem_singleton] at ht
        rcases ht with ht | rfl
        · exact hSB t ht
        · exact ⟨hvl, hfs, hts⟩
  obtain ⟨s', h1, h2, h3⟩ := key FU 0 [] (by omega) (by rw [FUv]; omega) rfl (by simp)
  rw [show ((0 : Nat) : Int) = 0 from rfl] at h1
  rw [bind_of h1]
  exact ⟨_, rfl, h2, h3⟩
theorem of_eq (a : AutoAuto) (h : AB a) : m_syntagmalaw24_Of a = some a := by
  obtain ⟨h, hs⟩ := h
  unfold m_syntagmalaw24_Of
  have e := loop_map (φ := fun n i s => m_syntagmalaw24_Of_l1 a n (i, s, a.start)) (l := a.l) id (fun s => (s, a.start)) 0 (by
    intro n i x s hx hi hlen
    obtain ⟨b1, b2, b3⟩ := hs x (List.mem_of_getElem? hx)
    simp only [m_syntagmalaw24_Of_l1]
    rw [decide_eq_true (show (i : Int) < a.l.length by omega), cond_true, getI hx, Option.bind_some, ints_eq _ (by omega), Option.bind_some]
    have e1 := loop_map (φ := fun n i t => m_syntagmalaw24_Of_l2 x n (i, [], t, x.plus, x.all, x.int, x.bool, x.str, x.arrow, x.rec_, x.tag, x.vars, x.dom, x.cod)) (l := x.fields) id (fun t => (([] : List AutoEdge), t, x.plus, x.all, x.int, x.bool, x.str, x.arrow, x.rec_, x.tag, x.vars, x.dom, x.cod)) 0 (by
      intro n i y t hy hi ht
      simp only [m_syntagmalaw24_Of_l2]
      rw [decide_eq_true (show (i : Int) < x.fields.length by omega), cond_true, getI hy, Option.bind_some, Option.bind_some, grd_pos (by simp only [List.length_cons, List.length_nil]; omega), grd_pos (by omega)]
      rfl) (by
      intro n t ht
      simp only [m_syntagmalaw24_Of_l2]
      rw [decide_eq_false (by omega), cond_false]) (by rw [FUv]; omega) [] rfl
    rw [bind_of e1]
    simp only [List.nil_append, List.map_id]
    have e2 := loop_map (φ := fun n i t => m_syntagmalaw24_Of_l3 x n (i, t, x.fields, x.plus, x.all, x.int, x.bool, x.str, x.arrow, x.rec_, x.tag, x.vars, x.dom, x.cod)) (l := x.tags) id (fun t => (t, x.fields, x.plus, x.all, x.int, x.bool, x.str, x.arrow, x.rec_, x.tag, x.vars, x.dom, x.cod)) 0 (by
      intro n i y t hy hi ht
      simp only [m_syntagmalaw24_Of_l3]
      rw [decide_eq_true (show (i : Int) < x.tags.length by omega), cond_true, getI hy, Option.bind_some, Option.bind_some, grd_pos (by simp only [List.length_cons, List.length_nil]; omega), grd_pos (by omega)]
      rfl) (by
      intro n t ht
      simp only [m_syntagmalaw24_Of_l3]
      rw [decide_eq_false (by omega), cond_false]) (by rw [FUv]; omega) [] rfl
    rw [bind_of e2]
    simp only [List.nil_append, List.map_id]
    rw [grd_pos (by simp only [List.length_cons, List.length_nil]; omega), grd_pos (by omega)]
    rfl) (by
    intro n s hlen
    simp only [m_syntagmalaw24_Of_l1]
    rw [decide_eq_false (by omega), cond_false]) (by rw [FUv]; omega) [] rfl
  rw [bind_of e]
  simp
end Go.Proofs.YtafphfokopkhdaaGreat
