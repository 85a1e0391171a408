/- Part B04 of the proof: contracts of the functions that are walked, and what they compute; no condition. -/
import Derived.Test.YtfcifodaohhcbaaB04x1
set_option linter.unusedVariables false
set_option linter.unusedSimpArgs false
set_option maxRecDepth 100000
set_option maxHeartbeats 2000000
namespace Go.Proofs.Ytfcifodaohhcbaa
open Go.V
theorem w_syntagmaref04_one {s1 : (List UInt8)} {at1 : Int} {r1 : ApiToken} {r2 : Int} {r3 : Int} (hm : m_syntagmaref04_one s1 at1 = some (r1, r2, r3)) : Fn0 Try.prog 94 [.str s1, .i64 at1] (.tup [ApiToken.d r1, .i64 r2, .i64 r3]) := by
  unfold m_syntagmaref04_one at hm
  refine fn_intro Try.func94 rfl Try.ntmps94 rfl fun H0 fr w0 => ?_
  refine g_seq ?_
  refine g_region ?_
  refine go_op rfl rfl rfl (o_alloc_own Try.zeroValue105 (cs := [.i64 0, .str ([] : List UInt8), .i64 0, .i64 0]) rfl) ?_
  rintro _ _ ⟨b1, rfl, rfl⟩
  refine go_p rfl rfl rfl (o_assign rfl) ?_
  refine go_p rfl rfl rfl (o_assign rfl) ?_
  refine go_nil ?_
  refine g_seq ?_
  refine g_region ?_
  refine go_p rfl rfl rfl (o_move rfl) ?_
  refine go_p rfl rfl rfl (o_move rfl) ?_
  obtain ⟨s2, hx1, hm⟩ := bind_some hm
  refine go_p rfl rfl rfl (o_slice_str_m Try.runUnderlying9 rfl ⟨_, rfl⟩ rfl hx1) ?_
  refine go_p rfl rfl rfl (o_assign rfl) ?_
  refine go_nil ?_
  refine g_seq ?_
  refine g_region ?_
  refine go_p rfl rfl rfl (o_move rfl) ?_
  obtain ⟨c1, hx2, hm⟩ := bind_some hm
  refine go_p rfl rfl rfl (o_index_m Try.runUnderlying9 rfl rfl hx2) ?_
  refine go_p rfl rfl rfl (o_assign rfl) ?_
  refine go_nil ?_
  refine g_seq ?_
  refine g_seq ?_
  refine g_region ?_
  refine go_p rfl rfl rfl (o_move rfl) ?_
  obtain ⟨x1, hx3, hm⟩ := bind_some hm
  refine go_p rfl rfl rfl (o_call0 Try.call126 rfl (w_syntagmaref03_Word hx3)) ?_
  refine go_p rfl rfl rfl (o_assign rfl) ?_
  refine go_nil ?_
  refine g_seq ?_
  refine g_region ?_
  refine go_p rfl rfl rfl (o_move rfl) ?_
  refine go_p rfl rfl rfl (o_cmp rfl rfl rfl) ?_
  refine go_nil ?_
  refine g_cond rfl (fun hc1 => ?_) (fun hc1 => ?_)
  · replace hm := cond_t hc1 hm
    refine g_seq ?_
    refine g_region ?_
    refine go_p rfl rfl rfl (o_move rfl) ?_
    refine go_p rfl rfl rfl (o_move rfl) ?_
    obtain ⟨s3, hx4, hm⟩ := bind_some hm
    refine go_p rfl rfl rfl (o_slice_str_m Try.runUnderlying9 rfl rfl ⟨_, rfl⟩ hx4) ?_
    refine go_p rfl rfl rfl (o_assign rfl) ?_
    refine go_nil ?_
    refine g_seq ?_
    refine g_seq ?_
    refine g_region ?_
    refine go_p rfl rfl rfl (o_move rfl) ?_
    refine go_p rfl rfl rfl (o_cmp rfl rfl rfl) ?_
    refine go_nil ?_
    refine g_cond rfl (fun hc2 => ?_) (fun hc2 => ?_)
    · replace hm := cond_t hc2 hm
      refine g_seq ?_
      refine g_region ?_
      refine go_p rfl rfl rfl (o_build (zs := [.v (.int .i64 0), .str [], .v (.int .i64 0), .v (.int .i64 0)]) Try.runUnderlying105 Try.zeroValue105 (pl_105 _ Try.runUnderlying105) rfl rfl rfl rfl) ?_
      refine go_u rfl rfl (o_store_box 0 Try.sizeOf105 rfl rfl rfl rfl rfl rfl rfl rfl (Nat.le_of_ble_eq_true rfl)) ?_
      rintro _ _ rfl
      refine go_ms (ms' := [box b1 105 [_, _, _, _]]) rfl ?_
      refine go_p rfl rfl rfl (o_assign rfl) ?_
      refine go_p rfl rfl rfl (o_assign rfl) ?_
      refine go_nil ?_
      refine g_ret ?_
      exact retK (ret_many (ds := [_, _, _]) rfl (by decide) ⟨ret_cell 0 rfl rfl rfl Try.isAgg105 Try.sizeOf105 rfl, ⟨ret_tmp rfl, ⟨ret_tmp rfl, rfl⟩⟩⟩ (perm_drop _)) (congrArg (fun (p : (ApiToken × Int × Int)) => D.tup [ApiToken.d p.1, .i64 p.2.1, .i64 p.2.2]) (some_eq hm))
    · replace hm := cond_f hc2 hm
      refine g_skip ?_
      refine g_seq ?_
      refine g_region ?_
      refine go_p rfl rfl rfl (o_assign rfl) ?_
      refine go_nil ?_
      refine g_seq ?_
      refine g_seq ?_
      refine g_region ?_
      refine go_p rfl rfl rfl (o_move rfl) ?_
      obtain ⟨x2, hx5, hm⟩ := bind_some hm
      refine go_p rfl rfl rfl (o_call0 Try.call127 rfl (w_syntagmaref03_Keyword hx5)) ?_
      refine go_nil ?_
      obtain ⟨o_1, hj1, hm1⟩ := bind_some hm
      refine g_cut_m [(1, _), (4, _), (9, _), (10, _)] [(0, _)] (fun (st : Int) (hid : Unit) => match st, hid with | k1, _ => [(11, .i64 k1)]) (fun F (st : Int) (hid : Unit) => match st, hid with | k1, _ => [(nthF F 0)]) (fun st => st = o_1) ⟨rfl, rfl, rfl, rfl, trivial⟩ ⟨rfl, trivial⟩ ?_ ?_
      · skip
        refine g_cond rfl (fun hc3 => ?_) (fun hc3 => ?_)
        · replace hj1 := cond_t hc3 hj1
          refine g_region ?_
          refine go_p rfl rfl rfl (o_assign rfl) ?_
          refine go_nil ?_
          exact ⟨_, (), some_eq hj1, ⟨rfl, trivial⟩, ⟨rfl, rfl, rfl, rfl, trivial⟩, [], rfl⟩
        · replace hj1 := cond_f hc3 hj1
          refine g_seq ?_
          refine g_region ?_
          refine go_p rfl rfl rfl (o_move rfl) ?_
          refine go_p rfl rfl rfl (o_cmp rfl rfl rfl) ?_
          refine go_p rfl rfl rfl (o_move rfl) ?_
          apply go_and [(1, _), (4, _), (9, _), (10, _), (11, _)] 3 42 (t := 39) ⟨rfl, rfl, rfl, rfl, rfl, trivial⟩ rfl
          · intro hg_1 hk1
            refine go_wantp rfl rfl rfl hg_1 rfl rfl (o_move rfl) ?_
            refine go_wantp rfl rfl rfl hg_1 rfl rfl (o_cmp rfl rfl rfl) ?_
            refine go_p rfl rfl rfl (o_pickT rfl hg_1 rfl) ?_
            exact go_meet hk1 (rfl) ⟨rfl, rfl, rfl, rfl, rfl, trivial⟩
          · intro hg_1 hk1
            refine go_skip rfl rfl rfl hg_1 rfl rfl ?_
            refine go_skip rfl rfl rfl hg_1 rfl rfl ?_
            refine go_p rfl rfl rfl (o_pickF rfl hg_1 rfl) ?_
            exact go_meet hk1 (rfl) ⟨rfl, rfl, rfl, rfl, rfl, trivial⟩
          refine go_nil ?_
          refine g_cond rfl (fun hc4 => ?_) (fun hc4 => ?_)
          · replace hj1 := cond_t hc4 hj1
            refine g_region ?_
            refine go_p rfl rfl rfl (o_assign rfl) ?_
            refine go_nil ?_
            exact ⟨_, (), some_eq hj1, ⟨rfl, trivial⟩, ⟨rfl, rfl, rfl, rfl, trivial⟩, [], rfl⟩
          · replace hj1 := cond_f hc4 hj1
            refine g_skip ?_
            exact ⟨_, (), some_eq hj1, ⟨rfl, trivial⟩, ⟨rfl, rfl, rfl, rfl, trivial⟩, [], rfl⟩
      · rintro k1 _ hst
        subst hst
        refine k_norm (L' := [(11, .i64 k1), (1, _), (4, _), (9, _), (10, _)]) (ms' := [_]) rfl rfl ?_
        refine g_seq ?_
        refine g_region ?_
        refine go_p rfl rfl rfl (o_move rfl) ?_
        refine go_p rfl rfl rfl (o_move rfl) ?_
        refine go_p rfl rfl rfl (o_move rfl) ?_
        refine go_p rfl rfl rfl (o_build (zs := [.v (.int .i64 0), .str [], .v (.int .i64 0), .v (.int .i64 0)]) Try.runUnderlying105 Try.zeroValue105 (pl_105 _ Try.runUnderlying105) rfl rfl rfl rfl) ?_
        refine go_p rfl rfl rfl (o_move rfl) ?_
        refine go_u rfl rfl (o_store_box 0 Try.sizeOf105 rfl rfl rfl rfl rfl rfl rfl rfl (Nat.le_of_ble_eq_true rfl)) ?_
        rintro _ _ rfl
        refine go_ms (ms' := [box b1 105 [_, _, _, _]]) rfl ?_
        refine go_p rfl rfl rfl (o_assign rfl) ?_
        refine go_p rfl rfl rfl (o_assign rfl) ?_
        refine go_nil ?_
        refine g_ret ?_
        exact retK (ret_many (ds := [_, _, _]) rfl (by decide) ⟨ret_cell 0 rfl rfl rfl Try.isAgg105 Try.sizeOf105 rfl, ⟨ret_tmp rfl, ⟨ret_tmp rfl, rfl⟩⟩⟩ (perm_drop _)) (congrArg (fun (p : (ApiToken × Int × Int)) => D.tup [ApiToken.d p.1, .i64 p.2.1, .i64 p.2.2]) (some_eq hm1))
  · replace hm := cond_f hc1 hm
    refine g_skip ?_
    refine g_seq ?_
    refine g_seq ?_
    refine g_region ?_
    refine go_p rfl rfl rfl (o_move rfl) ?_
    refine go_p rfl rfl rfl (o_cmp rfl rfl rfl) ?_
    refine go_nil ?_
    refine g_cond rfl (fun hc5 => ?_) (fun hc5 => ?_)
    · replace hm := cond_t hc5 hm
      refine g_seq ?_
      refine g_region ?_
      refine go_p rfl rfl rfl (o_move rfl) ?_
      obtain ⟨s4, hx6, hm⟩ := bind_some hm
      refine go_p rfl rfl rfl (o_slice_str_m Try.runUnderlying9 rfl ⟨_, rfl⟩ rfl hx6) ?_
      obtain ⟨x3, hx7, hm⟩ := bind_some hm
      refine go_p rfl rfl rfl (o_call0 Try.call126 rfl (w_syntagmaref03_Word hx7)) ?_
      refine go_p rfl rfl rfl (o_assign rfl) ?_
      refine go_nil ?_
      refine g_seq ?_
      refine g_seq ?_
      refine g_region ?_
      refine go_p rfl rfl rfl (o_move rfl) ?_
      refine go_p rfl rfl rfl (o_cmp rfl rfl rfl) ?_
      refine go_p rfl rfl rfl (o_move rfl) ?_
      obtain ⟨p1, hp_2, hm⟩ := bind_some hm
      refine go_two [(1, _), (4, _), (7, _), (12, _)] 9 64 p1 (t := 55) ⟨rfl, rfl, rfl, rfl, trivial⟩ rfl (fun hg_2 hk2 => ?_) (fun hg_2 hk2 => ?_) ?_
      · replace hp_2 := cond_t hg_2 hp_2
        refine go_skip rfl rfl rfl hg_2 rfl rfl ?_
        refine go_skip rfl rfl rfl hg_2 rfl rfl ?_
        refine go_skip rfl rfl rfl hg_2 rfl rfl ?_
        refine go_skip rfl rfl rfl hg_2 rfl rfl ?_
        refine go_skipu rfl rfl rfl rfl rfl ?_
        refine go_skipu rfl rfl rfl rfl rfl ?_
        refine go_skipu rfl rfl rfl rfl rfl ?_
        refine go_skip rfl rfl rfl hg_2 rfl rfl ?_
        refine go_p rfl rfl rfl (o_pickT rfl hg_2 rfl) ?_
        exact go_meet hk2 (congrArg (fun b => some (D.bool b)) (some_eq hp_2)) ⟨rfl, rfl, rfl, rfl, trivial⟩
      · replace hp_2 := cond_f hg_2 hp_2
        refine go_wantp rfl rfl rfl hg_2 rfl rfl (o_move rfl) ?_
        obtain ⟨c2, hx8, hp_2⟩ := bind_some hp_2
        refine go_wantp rfl rfl rfl hg_2 rfl rfl (o_index_m Try.runUnderlying9 rfl rfl hx8) ?_
        refine go_wantp rfl rfl rfl hg_2 rfl rfl (o_cmp rfl rfl rfl) ?_
        refine go_wantp rfl rfl rfl hg_2 rfl rfl (o_move rfl) ?_
        obtain ⟨p2, hp_3, hp_2⟩ := bind_some hp_2
        refine go_two [(1, _), (4, _), (7, _), (12, _), (55, _)] 4 63 p2 (t := 59) ⟨rfl, rfl, rfl, rfl, rfl, trivial⟩ rfl (fun hg_3 hk3 => ?_) (fun hg_3 hk3 => ?_) ?_
        · replace hp_3 := cond_t hg_3 hp_3
          refine go_wantp rfl rfl rfl hg_3 rfl rfl (o_move rfl) ?_
          obtain ⟨c3, hx9, hp_3⟩ := bind_some hp_3
          refine go_wantp rfl rfl rfl hg_3 rfl rfl (o_index_m Try.runUnderlying9 rfl rfl hx9) ?_
          refine go_wantp rfl rfl rfl hg_3 rfl rfl (o_cmp rfl rfl rfl) ?_
          refine go_wantp rfl rfl rfl hg_2 rfl rfl (o_pickT rfl hg_3 rfl) ?_
          exact go_meet hk3 (congrArg (fun b => some (D.bool b)) (some_eq hp_3)) ⟨rfl, rfl, rfl, rfl, rfl, trivial⟩
        · replace hp_3 := cond_f hg_3 hp_3
          refine go_skip rfl rfl rfl hg_3 rfl rfl ?_
          refine go_skip rfl rfl rfl hg_3 rfl rfl ?_
          refine go_skip rfl rfl rfl hg_3 rfl rfl ?_
          refine go_wantp rfl rfl rfl hg_2 rfl rfl (o_pickF rfl hg_3 rfl) ?_
          exact go_meet hk3 (congrArg (fun b => some (D.bool b)) (some_eq hp_3)) ⟨rfl, rfl, rfl, rfl, rfl, trivial⟩
        refine go_p rfl rfl rfl (o_pickF rfl hg_2 rfl) ?_
        exact go_meet hk2 (congrArg (fun b => some (D.bool b)) (some_eq hp_2)) ⟨rfl, rfl, rfl, rfl, trivial⟩
      refine go_nil ?_
      refine g_cond rfl (fun hc6 => ?_) (fun hc6 => ?_)
      · replace hm := cond_t hc6 hm
        refine g_seq ?_
        refine g_region ?_
        refine go_p rfl rfl rfl (o_build (zs := [.v (.int .i64 0), .str [], .v (.int .i64 0), .v (.int .i64 0)]) Try.runUnderlying105 Try.zeroValue105 (pl_105 _ Try.runUnderlying105) rfl rfl rfl rfl) ?_
        refine go_u rfl rfl (o_store_box 0 Try.sizeOf105 rfl rfl rfl rfl rfl rfl rfl rfl (Nat.le_of_ble_eq_true rfl)) ?_
        rintro _ _ rfl
        refine go_ms (ms' := [box b1 105 [_, _, _, _]]) rfl ?_
        refine go_p rfl rfl rfl (o_assign rfl) ?_
        refine go_p rfl rfl rfl (o_assign rfl) ?_
        refine go_nil ?_
        refine g_ret ?_
        exact retK (ret_many (ds := [_, _, _]) rfl (by decide) ⟨ret_cell 0 rfl rfl rfl Try.isAgg105 Try.sizeOf105 rfl, ⟨ret_tmp rfl, ⟨ret_tmp rfl, rfl⟩⟩⟩ (perm_drop _)) (congrArg (fun (p : (ApiToken × Int × Int)) => D.tup [ApiToken.d p.1, .i64 p.2.1, .i64 p.2.2]) (some_eq hm))
      · replace hm := cond_f hc6 hm
        refine g_skip ?_
        refine g_seq ?_
        refine g_seq ?_
        refine g_region ?_
        refine go_p rfl rfl rfl (o_move rfl) ?_
        refine go_p rfl rfl rfl (o_cmp rfl rfl rfl) ?_
        refine go_nil ?_
        refine g_cond rfl (fun hc7 => ?_) (fun hc7 => ?_)
        · replace hm := cond_t hc7 hm
          refine g_seq ?_
          refine g_region ?_
          refine go_p rfl rfl rfl (o_build (zs := [.v (.int .i64 0), .str [], .v (.int .i64 0), .v (.int .i64 0)]) Try.runUnderlying105 Try.zeroValue105 (pl_105 _ Try.runUnderlying105) rfl rfl rfl rfl) ?_
          refine go_u rfl rfl (o_store_box 0 Try.sizeOf105 rfl rfl rfl rfl rfl rfl rfl rfl (Nat.le_of_ble_eq_true rfl)) ?_
          rintro _ _ rfl
          refine go_ms (ms' := [box b1 105 [_, _, _, _]]) rfl ?_
          refine go_p rfl rfl rfl (o_assign rfl) ?_
          refine go_p rfl rfl rfl (o_assign rfl) ?_
          refine go_nil ?_
          refine g_ret ?_
          exact retK (ret_many (ds := [_, _, _]) rfl (by decide) ⟨ret_cell 0 rfl rfl rfl Try.isAgg105 Try.sizeOf105 rfl, ⟨ret_tmp rfl, ⟨ret_tmp rfl, rfl⟩⟩⟩ (perm_drop _)) (congrArg (fun (p : (ApiToken × Int × Int)) => D.tup [ApiToken.d p.1, .i64 p.2.1, .i64 p.2.2]) (some_eq hm))
        · replace hm := cond_f hc7 hm
          refine g_skip ?_
          refine g_seq ?_
          refine g_region ?_
          refine go_p rfl rfl rfl (o_move rfl) ?_
          refine go_p rfl rfl rfl (o_move rfl) ?_
          obtain ⟨hg10, hm⟩ := grd_some hm
          refine go_p rfl rfl rfl (o_add rfl rfl (i64_id hg10)) ?_
          obtain ⟨s5, hx11, hm⟩ := bind_some hm
          refine go_p rfl rfl rfl (o_slice_str_m Try.runUnderlying9 rfl ⟨_, rfl⟩ ⟨_, rfl⟩ hx11) ?_
          refine go_p rfl rfl rfl (o_move rfl) ?_
          refine go_p rfl rfl rfl (o_build (zs := [.v (.int .i64 0), .str [], .v (.int .i64 0), .v (.int .i64 0)]) Try.runUnderlying105 Try.zeroValue105 (pl_105 _ Try.runUnderlying105) rfl rfl rfl rfl) ?_
          refine go_p rfl rfl rfl (o_move rfl) ?_
          obtain ⟨hg12, hm⟩ := grd_some hm
          refine go_p rfl rfl rfl (o_add rfl rfl (i64_id hg12)) ?_
          refine go_u rfl rfl (o_store_box 0 Try.sizeOf105 rfl rfl rfl rfl rfl rfl rfl rfl (Nat.le_of_ble_eq_true rfl)) ?_
          rintro _ _ rfl
          refine go_ms (ms' := [box b1 105 [_, _, _, _]]) rfl ?_
          refine go_p rfl rfl rfl (o_assign rfl) ?_
          refine go_p rfl rfl rfl (o_assign rfl) ?_
          refine go_nil ?_
          refine g_ret ?_
          exact retK (ret_many (ds := [_, _, _]) rfl (by decide) ⟨ret_cell 0 rfl rfl rfl Try.isAgg105 Try.sizeOf105 rfl, ⟨ret_tmp rfl, ⟨ret_tmp rfl, rfl⟩⟩⟩ (perm_drop _)) (congrArg (fun (p : (ApiToken × Int × Int)) => D.tup [ApiToken.d p.1, .i64 p.2.1, .i64 p.2.2]) (some_eq hm))
    · replace hm := cond_f hc5 hm
      refine g_skip ?_
      refine g_seq ?_
      refine g_seq ?_
      refine g_region ?_
      refine go_p rfl rfl rfl (o_move rfl) ?_
      refine go_p rfl rfl rfl (o_cmp rfl rfl rfl) ?_
      refine go_p rfl rfl rfl (o_move rfl) ?_
      apply go_and [(1, _), (4, _), (7, _), (8, _)] 3 82 (t := 79) ⟨rfl, rfl, rfl, rfl, trivial⟩ rfl
      · intro hg_4 hk4
        refine go_wantp rfl rfl rfl hg_4 rfl rfl (o_move rfl) ?_
        refine go_wantp rfl rfl rfl hg_4 rfl rfl (o_cmp rfl rfl rfl) ?_
        refine go_p rfl rfl rfl (o_pickT rfl hg_4 rfl) ?_
        exact go_meet hk4 (rfl) ⟨rfl, rfl, rfl, rfl, trivial⟩
      · intro hg_4 hk4
        refine go_skip rfl rfl rfl hg_4 rfl rfl ?_
        refine go_skip rfl rfl rfl hg_4 rfl rfl ?_
        refine go_p rfl rfl rfl (o_pickF rfl hg_4 rfl) ?_
        exact go_meet hk4 (rfl) ⟨rfl, rfl, rfl, rfl, trivial⟩
      refine go_p rfl rfl rfl (o_move rfl) ?_
      apply go_or [(1, _), (4, _), (7, _), (8, _)] 3 86 (t := 83) ⟨rfl, rfl, rfl, rfl, trivial⟩ rfl
      · intro hg_5 hk5
        refine go_wantp rfl rfl rfl hg_5 rfl rfl (o_move rfl) ?_
        refine go_wantp rfl rfl rfl hg_5 rfl rfl (o_cmp rfl rfl rfl) ?_
        refine go_p rfl rfl rfl (o_pickF rfl hg_5 rfl) ?_
        exact go_meet hk5 (rfl) ⟨rfl, rfl, rfl, rfl, trivial⟩
      · intro hg_5 hk5
        refine go_skip rfl rfl rfl hg_5 rfl rfl ?_
        refine go_skip rfl rfl rfl hg_5 rfl rfl ?_
        refine go_p rfl rfl rfl (o_pickT rfl hg_5 rfl) ?_
        exact go_meet hk5 (rfl) ⟨rfl, rfl, rfl, rfl, trivial⟩
      refine go_nil ?_
      refine g_cond rfl (fun hc8 => ?_) (fun hc8 => ?_)
      · replace hm := cond_t hc8 hm
        refine g_seq ?_
        refine g_region ?_
        refine go_p rfl rfl rfl (o_assign rfl) ?_
        refine go_nil ?_
        refine g_seq ?_
        obtain ⟨o_2, hj2, hm2⟩ := bind_some hm
        refine g_cut_m [(1, _), (4, _), (7, _)] [(0, _)] (fun (st : Int) (hid : Unit) => match st, hid with | n1, _ => [(13, .i64 n1)]) (fun F (st : Int) (hid : Unit) => match st, hid with | n1, _ => [(nthF F 0)]) (fun st => st = o_2) ⟨rfl, rfl, rfl, trivial⟩ ⟨rfl, trivial⟩ ?_ ?_
        · skip
          refine g_block ?_
          refine g_loop_m [(1, _), (4, _), (7, _)] [(0, _)] (fun (st : Int) (hid : Unit) => match st, hid with | n2, _ => [(13, .i64 n2)]) (fun F (st : Int) (hid : Unit) => match st, hid with | n2, _ => [(nthF F 0)]) () hj2 (fun _ => rfl) ⟨rfl, rfl, rfl, trivial⟩ ⟨rfl, trivial⟩ ⟨rfl, trivial⟩ rfl ?_
          rintro n n2 _ hj2
          rw [m_syntagmaref04_one_l1] at hj2
          refine g_norm (L' := [(13, .i64 n2), (1, _), (4, _), (7, _)]) (ms' := [_]) rfl rfl ?_
          refine g_seq ?_
          refine g_seq ?_
          refine g_region ?_
          refine go_p rfl rfl rfl (o_move rfl) ?_
          refine go_p rfl rfl rfl (o_move rfl) ?_
          refine go_p rfl rfl rfl (o_len_str Try.runUnderlying9 rfl) ?_
          refine go_p rfl rfl rfl (o_cmp rfl rfl rfl) ?_
          refine go_p rfl rfl rfl (o_move rfl) ?_
          obtain ⟨p3, hp_6, hj2⟩ := bind_some hj2
          refine go_two [(1, _), (4, _), (7, _), (13, _)] 5 96 p3 (t := 91) ⟨rfl, rfl, rfl, rfl, trivial⟩ rfl (fun hg_6 hk6 => ?_) (fun hg_6 hk6 => ?_) ?_
          · replace hp_6 := cond_t hg_6 hp_6
            refine go_wantp rfl rfl rfl hg_6 rfl rfl (o_move rfl) ?_
            refine go_wantp rfl rfl rfl hg_6 rfl rfl (o_move rfl) ?_
            obtain ⟨c4, hx13, hp_6⟩ := bind_some hp_6
            refine go_wantp rfl rfl rfl hg_6 rfl rfl (o_index_m Try.runUnderlying9 rfl rfl hx13) ?_
            refine go_wantp rfl rfl rfl hg_6 rfl rfl (o_cmp rfl rfl rfl) ?_
            refine go_p rfl rfl rfl (o_pickT rfl hg_6 rfl) ?_
            exact go_meet hk6 (congrArg (fun b => some (D.bool b)) (some_eq hp_6)) ⟨rfl, rfl, rfl, rfl, trivial⟩
          · replace hp_6 := cond_f hg_6 hp_6
            refine go_skip rfl rfl rfl hg_6 rfl rfl ?_
            refine go_skip rfl rfl rfl hg_6 rfl rfl ?_
            refine go_skip rfl rfl rfl hg_6 rfl rfl ?_
            refine go_skip rfl rfl rfl hg_6 rfl rfl ?_
            refine go_p rfl rfl rfl (o_pickF rfl hg_6 rfl) ?_
            exact go_meet hk6 (congrArg (fun b => some (D.bool b)) (some_eq hp_6)) ⟨rfl, rfl, rfl, rfl, trivial⟩
          refine go_p rfl rfl rfl (o_move rfl) ?_
          obtain ⟨p4, hp_7, hj2⟩ := bind_some hj2
          refine go_two [(1, _), (4, _), (7, _), (13, _)] 5 102 p4 (t := 97) ⟨rfl, rfl, rfl, rfl, trivial⟩ rfl (fun hg_7 hk7 => ?_) (fun hg_7 hk7 => ?_) ?_
          · replace hp_7 := cond_t hg_7 hp_7
            refine go_wantp rfl rfl rfl hg_7 rfl rfl (o_move rfl) ?_
            refine go_wantp rfl rfl rfl hg_7 rfl rfl (o_move rfl) ?_
            obtain ⟨c5, hx14, hp_7⟩ := bind_some hp_7
            refine go_wantp rfl rfl rfl hg_7 rfl rfl (o_index_m Try.runUnderlying9 rfl rfl hx14) ?_
            refine go_wantp rfl rfl rfl hg_7 rfl rfl (o_cmp rfl rfl rfl) ?_
            refine go_p rfl rfl rfl (o_pickT rfl hg_7 rfl) ?_
            exact go_meet hk7 (congrArg (fun b => some (D.bool b)) (some_eq hp_7)) ⟨rfl, rfl, rfl, rfl, trivial⟩
          · replace hp_7 := cond_f hg_7 hp_7
            refine go_skip rfl rfl rfl hg_7 rfl rfl ?_
            refine go_skip rfl rfl rfl hg_7 rfl rfl ?_
            refine go_skip rfl rfl rfl hg_7 rfl rfl ?_
            refine go_skip rfl rfl rfl hg_7 rfl rfl ?_
            refine go_p rfl rfl rfl (o_pickF rfl hg_7 rfl) ?_
            exact go_meet hk7 (congrArg (fun b => some (D.bool b)) (some_eq hp_7)) ⟨rfl, rfl, rfl, rfl, trivial⟩
          refine go_nil ?_
          refine g_cond rfl (fun hc9 => ?_) (fun hc9 => ?_)
          · replace hj2 := cond_t hc9 hj2
            refine g_skip ?_
            refine g_block ?_
            refine g_region ?_
            refine go_p rfl rfl rfl (o_move rfl) ?_
            obtain ⟨hg15, hj2⟩ := grd_some hj2
            refine go_p rfl rfl rfl (o_add rfl rfl (i64_id hg15)) ?_
            refine go_p rfl rfl rfl (o_assign rfl) ?_
            refine go_nil ?_
            exact ⟨_, (), hj2, ⟨rfl, trivial⟩, ⟨rfl, rfl, rfl, trivial⟩, [], rfl⟩
          · replace hj2 := cond_f hc9 hj2
            refine g_exit ?_
            exact ⟨_, (), some_eq hj2, ⟨rfl, trivial⟩, ⟨rfl, rfl, rfl, trivial⟩, [], rfl⟩
        · rintro n1 _ hst
          subst hst
          refine k_norm (L' := [(13, .i64 n1), (1, _), (4, _), (7, _)]) (ms' := [_]) rfl rfl ?_
          refine g_seq ?_
          refine g_region ?_
          refine go_p rfl rfl rfl (o_move rfl) ?_
          refine go_p rfl rfl rfl (o_move rfl) ?_
          obtain ⟨s6, hx16, hm2⟩ := bind_some hm2
          refine go_p rfl rfl rfl (o_slice_str_m Try.runUnderlying9 rfl rfl ⟨_, rfl⟩ hx16) ?_
          obtain ⟨⟨x4, x5⟩, hx17, hm2⟩ := bind_some hm2
          refine go_p rfl rfl rfl (o_call0 Try.call128 rfl (w_syntagmaref01_Parse hx17)) ?_
          refine go_p rfl rfl rfl (o_move rfl) ?_
          refine go_p rfl rfl rfl (o_extract rfl rfl) ?_
          refine go_p rfl rfl rfl (o_extract rfl rfl) ?_
          refine go_p rfl rfl rfl (o_assign rfl) ?_
          refine go_p rfl rfl rfl (o_assign rfl) ?_
          refine go_nil ?_
          refine g_seq ?_
          refine g_seq ?_
          refine g_region ?_
          refine go_p rfl rfl rfl (o_move rfl) ?_
          refine go_p rfl rfl rfl (o_cmp rfl rfl rfl) ?_
          refine go_nil ?_
          refine g_cond rfl (fun hc10 => ?_) (fun hc10 => ?_)
          · replace hm2 := cond_t hc10 hm2
            refine g_seq ?_
            refine g_region ?_
            refine go_p rfl rfl rfl (o_build (zs := [.v (.int .i64 0), .str [], .v (.int .i64 0), .v (.int .i64 0)]) Try.runUnderlying105 Try.zeroValue105 (pl_105 _ Try.runUnderlying105) rfl rfl rfl rfl) ?_
            refine go_p rfl rfl rfl (o_move rfl) ?_
            refine go_u rfl rfl (o_store_box 0 Try.sizeOf105 rfl rfl rfl rfl rfl rfl rfl rfl (Nat.le_of_ble_eq_true rfl)) ?_
            rintro _ _ rfl
            refine go_ms (ms' := [box b1 105 [_, _, _, _]]) rfl ?_
            refine go_p rfl rfl rfl (o_assign rfl) ?_
            refine go_p rfl rfl rfl (o_assign rfl) ?_
            refine go_nil ?_
            refine g_ret ?_
            exact retK (ret_many (ds := [_, _, _]) rfl (by decide) ⟨ret_cell 0 rfl rfl rfl Try.isAgg105 Try.sizeOf105 rfl, ⟨ret_tmp rfl, ⟨ret_tmp rfl, rfl⟩⟩⟩ (perm_drop _)) (congrArg (fun (p : (ApiToken × Int × Int)) => D.tup [ApiToken.d p.1, .i64 p.2.1, .i64 p.2.2]) (some_eq hm2))
          · replace hm2 := cond_f hc10 hm2
            refine g_skip ?_
            refine g_seq ?_
            refine g_region ?_
            refine go_p rfl rfl rfl (o_move rfl) ?_
            refine go_p rfl rfl rfl (o_move rfl) ?_
            refine go_p rfl rfl rfl (o_build (zs := [.v (.int .i64 0), .str [], .v (.int .i64 0), .v (.int .i64 0)]) Try.runUnderlying105 Try.zeroValue105 (pl_105 _ Try.runUnderlying105) rfl rfl rfl rfl) ?_
            refine go_p rfl rfl rfl (o_move rfl) ?_
            refine go_u rfl rfl (o_store_box 0 Try.sizeOf105 rfl rfl rfl rfl rfl rfl rfl rfl (Nat.le_of_ble_eq_true rfl)) ?_
            rintro _ _ rfl
            refine go_ms (ms' := [box b1 105 [_, _, _, _]]) rfl ?_
            refine go_p rfl rfl rfl (o_assign rfl) ?_
            refine go_p rfl rfl rfl (o_assign rfl) ?_
            refine go_nil ?_
            refine g_ret ?_
            exact retK (ret_many (ds := [_, _, _]) rfl (by decide) ⟨ret_cell 0 rfl rfl rfl Try.isAgg105 Try.sizeOf105 rfl, ⟨ret_tmp rfl, ⟨ret_tmp rfl, rfl⟩⟩⟩ (perm_drop _)) (congrArg (fun (p : (ApiToken × Int × Int)) => D.tup [ApiToken.d p.1, .i64 p.2.1, .i64 p.2.2]) (some_eq hm2))
      · replace hm := cond_f hc8 hm
        refine g_skip ?_
        refine g_seq ?_
        refine g_seq ?_
        refine g_region ?_
        refine go_p rfl rfl rfl (o_move rfl) ?_
        refine go_p rfl rfl rfl (o_cmp rfl rfl rfl) ?_
        refine go_nil ?_
        refine g_cond rfl (fun hc11 => ?_) (fun hc11 => ?_)
        · replace hm := cond_t hc11 hm
          refine g_seq ?_
          refine g_region ?_
          refine go_p rfl rfl rfl (o_move rfl) ?_
          obtain ⟨⟨x6, x7, x8⟩, hx18, hm⟩ := bind_some hm
          refine go_p rfl rfl rfl (o_call0 Try.call39 rfl (w_syntagmaref02_Take hx18)) ?_
          refine go_p rfl rfl rfl (o_move rfl) ?_
          refine go_p rfl rfl rfl (o_extract rfl rfl) ?_
          refine go_p rfl rfl rfl (o_extract rfl rfl) ?_
          refine go_p rfl rfl rfl (o_extract rfl rfl) ?_
          refine go_p rfl rfl rfl (o_assign rfl) ?_
          refine go_p rfl rfl rfl (o_assign rfl) ?_
          refine go_p rfl rfl rfl (o_assign rfl) ?_
          refine go_nil ?_
          refine g_seq ?_
          refine g_seq ?_
          refine g_region ?_
          refine go_p rfl rfl rfl (o_move rfl) ?_
          refine go_p rfl rfl rfl (o_cmp rfl rfl rfl) ?_
          refine go_nil ?_
          refine g_cond rfl (fun hc12 => ?_) (fun hc12 => ?_)
          · replace hm := cond_t hc12 hm
            refine g_seq ?_
            refine g_region ?_
            refine go_p rfl rfl rfl (o_build (zs := [.v (.int .i64 0), .str [], .v (.int .i64 0), .v (.int .i64 0)]) Try.runUnderlying105 Try.zeroValue105 (pl_105 _ Try.runUnderlying105) rfl rfl rfl rfl) ?_
            refine go_p rfl rfl rfl (o_move rfl) ?_
            refine go_u rfl rfl (o_store_box 0 Try.sizeOf105 rfl rfl rfl rfl rfl rfl rfl rfl (Nat.le_of_ble_eq_true rfl)) ?_
            rintro _ _ rfl
            refine go_ms (ms' := [box b1 105 [_, _, _, _]]) rfl ?_
            refine go_p rfl rfl rfl (o_assign rfl) ?_
            refine go_p rfl rfl rfl (o_assign rfl) ?_
            refine go_nil ?_
            refine g_ret ?_
            exact retK (ret_many (ds := [_, _, _]) rfl (by decide) ⟨ret_cell 0 rfl rfl rfl Try.isAgg105 Try.sizeOf105 rfl, ⟨ret_tmp rfl, ⟨ret_tmp rfl, rfl⟩⟩⟩ (perm_drop _)) (congrArg (fun (p : (ApiToken × Int × Int)) => D.tup [ApiToken.d p.1, .i64 p.2.1, .i64 p.2.2]) (some_eq hm))
          · replace hm := cond_f hc12 hm
            refine g_skip ?_
            refine g_seq ?_
            refine g_region ?_
            refine go_p rfl rfl rfl (o_move rfl) ?_
            refine go_p rfl rfl rfl (o_move rfl) ?_
            refine go_p rfl rfl rfl (o_build (zs := [.v (.int .i64 0), .str [], .v (.int .i64 0), .v (.int .i64 0)]) Try.runUnderlying105 Try.zeroValue105 (pl_105 _ Try.runUnderlying105) rfl rfl rfl rfl) ?_
            refine go_p rfl rfl rfl (o_move rfl) ?_
            refine go_u rfl rfl (o_store_box 0 Try.sizeOf105 rfl rfl rfl rfl rfl rfl rfl rfl (Nat.le_of_ble_eq_true rfl)) ?_
            rintro _ _ rfl
            refine go_ms (ms' := [box b1 105 [_, _, _, _]]) rfl ?_
            refine go_p rfl rfl rfl (o_assign rfl) ?_
            refine go_p rfl rfl rfl (o_assign rfl) ?_
            refine go_nil ?_
            refine g_ret ?_
            exact retK (ret_many (ds := [_, _, _]) rfl (by decide) ⟨ret_cell 0 rfl rfl rfl Try.isAgg105 Try.sizeOf105 rfl, ⟨ret_tmp rfl, ⟨ret_tmp rfl, rfl⟩⟩⟩ (perm_drop _)) (congrArg (fun (p : (ApiToken × Int × Int)) => D.tup [ApiToken.d p.1, .i64 p.2.1, .i64 p.2.2]) (some_eq hm))
        · replace hm := cond_f hc11 hm
          refine g_skip ?_
          refine g_seq ?_
          refine g_seq ?_
          refine g_region ?_
          refine go_p rfl rfl rfl (o_move rfl) ?_
          obtain ⟨x9, hx19, hm⟩ := bind_some hm
          refine go_p rfl rfl rfl (o_call0 Try.call129 rfl (w_syntagmaref04_sign hx19)) ?_
          refine go_p rfl rfl rfl (o_assign rfl) ?_
          refine go_nil ?_
          refine g_seq ?_
          refine g_region ?_
          refine go_p rfl rfl rfl (o_move rfl) ?_
          refine go_p rfl rfl rfl (o_cmp rfl rfl rfl) ?_
          refine go_nil ?_
          refine g_cond rfl (fun hc13 => ?_) (fun hc13 => ?_)
          · replace hm := cond_t hc13 hm
            refine g_seq ?_
            refine g_region ?_
            refine go_p rfl rfl rfl (o_move rfl) ?_
            refine go_p rfl rfl rfl (o_move rfl) ?_
            obtain ⟨s7, hx20, hm⟩ := bind_some hm
            refine go_p rfl rfl rfl (o_slice_str_m Try.runUnderlying9 rfl rfl ⟨_, rfl⟩ hx20) ?_
            refine go_p rfl rfl rfl (o_move rfl) ?_
            refine go_p rfl rfl rfl (o_build (zs := [.v (.int .i64 0), .str [], .v (.int .i64 0), .v (.int .i64 0)]) Try.runUnderlying105 Try.zeroValue105 (pl_105 _ Try.runUnderlying105) rfl rfl rfl rfl) ?_
            refine go_p rfl rfl rfl (o_move rfl) ?_
            refine go_u rfl rfl (o_store_box 0 Try.sizeOf105 rfl rfl rfl rfl rfl rfl rfl rfl (Nat.le_of_ble_eq_true rfl)) ?_
            rintro _ _ rfl
            refine go_ms (ms' := [box b1 105 [_, _, _, _]]) rfl ?_
            refine go_p rfl rfl rfl (o_assign rfl) ?_
            refine go_p rfl rfl rfl (o_assign rfl) ?_
            refine go_nil ?_
            refine g_ret ?_
            exact retK (ret_many (ds := [_, _, _]) rfl (by decide) ⟨ret_cell 0 rfl rfl rfl Try.isAgg105 Try.sizeOf105 rfl, ⟨ret_tmp rfl, ⟨ret_tmp rfl, rfl⟩⟩⟩ (perm_drop _)) (congrArg (fun (p : (ApiToken × Int × Int)) => D.tup [ApiToken.d p.1, .i64 p.2.1, .i64 p.2.2]) (some_eq hm))
          · replace hm := cond_f hc13 hm
            refine g_skip ?_
            refine g_seq ?_
            refine g_region ?_
            refine go_p rfl rfl rfl (o_build (zs := [.v (.int .i64 0), .str [], .v (.int .i64 0), .v (.int .i64 0)]) Try.runUnderlying105 Try.zeroValue105 (pl_105 _ Try.runUnderlying105) rfl rfl rfl rfl) ?_
            refine go_u rfl rfl (o_store_box 0 Try.sizeOf105 rfl rfl rfl rfl rfl rfl rfl rfl (Nat.le_of_ble_eq_true rfl)) ?_
            rintro _ _ rfl
            refine go_ms (ms' := [box b1 105 [_, _, _, _]]) rfl ?_
            refine go_p rfl rfl rfl (o_assign rfl) ?_
            refine go_p rfl rfl rfl (o_assign rfl) ?_
            refine go_nil ?_
            refine g_ret ?_
            exact retK (ret_many (ds := [_, _, _]) rfl (by decide) ⟨ret_cell 0 rfl rfl rfl Try.isAgg105 Try.sizeOf105 rfl, ⟨ret_tmp rfl, ⟨ret_tmp rfl, rfl⟩⟩⟩ (perm_drop _)) (congrArg (fun (p : (ApiToken × Int × Int)) => D.tup [ApiToken.d p.1, .i64 p.2.1, .i64 p.2.2]) (some_eq hm))

def m_syntagmaref04_All_l2 (s1 : (List UInt8)) : Nat → Int → Option Int
  | 0, _ => none
  | n + 1, i3 =>
    (bif (decide (i3 < (s1.length : Int))) then ((idx s1 i3).bind fun c5 =>
    some (!decide ((c5.toNat : Int) = 10))) else (some false)).bind fun p3 =>
    bif p3 then
      grd (InR (i3 + 1)) <|
      m_syntagmaref04_All_l2 s1 n (i3 + 1)
    else
      some i3

def m_syntagmaref04_All_l1 (s1 : (List UInt8)) : Nat → (Int × (List ApiToken)) → Option (Out ((List ApiToken) × Int × Int) (List ApiToken))
  | 0, _ => none
  | n + 1, (i1, l2) =>
    bif (decide (i1 < (s1.length : Int))) then
      (idx s1 i1).bind fun c1 =>
      (bif (decide ((c1.toNat : Int) = 32)) then (some true) else ((idx s1 i1).bind fun c2 =>
      some (decide ((c2.toNat : Int) = 9)))).bind fun p1 =>
      (bif p1 then (some true) else ((idx s1 i1).bind fun c3 =>
      some (decide ((c3.toNat : Int) = 10)))).bind fun p2 =>
      bif p2 then
        grd (InR (i1 + 1)) <|
        m_syntagmaref04_All_l1 s1 n ((i1 + 1), l2)
      else
        (idx s1 i1).bind fun c4 =>
        bif (decide ((c4.toNat : Int) = 35)) then
          (m_syntagmaref04_All_l2 s1 FU i1 : Option Int).bind fun i2 =>
          m_syntagmaref04_All_l1 s1 n (i2, l2)
        else
          (m_syntagmaref04_one s1 i1).bind fun (x1, x2, x3) =>
          bif (!decide (x3 = 0)) then
            some (Out.ret ([], i1, x3))
          else
            grd ((l2.length + ([(⟨x1.kind, x1.s, x1.n_, x1.pos⟩ : ApiToken)] : List _).length) * 40 ≤ 140737488355328) <|
            grd (InR (i1 + x2)) <|
            m_syntagmaref04_All_l1 s1 n ((i1 + x2), (l2 ++ [(⟨x1.kind, x1.s, x1.n_, x1.pos⟩ : ApiToken)]))
    else
      some (Out.go (l2))
def m_syntagmaref04_All (s1 : (List UInt8)) : Option ((List ApiToken) × Int × Int) :=
  ((m_syntagmaref04_All_l1 s1 FU (0, []) : Option (Out ((List ApiToken) × Int × Int) (List ApiToken)))).bind (fun oo => oo.on (fun r1 => some r1) (fun l1 =>
  some (l1, (s1.length : Int), 0)))
theorem w_syntagmaref04_All {s1 : (List UInt8)} {r1 : (List ApiToken)} {r2 : Int} {r3 : Int} (hm : m_syntagmaref04_All s1 = some (r1, r2, r3)) : Fn0 Try.prog 59 [.str s1] (.tup [.list 4 ApiToken.d r1, .i64 r2, .i64 r3]) := by
  unfold m_syntagmaref04_All at hm
  refine fn_intro Try.func59 rfl Try.ntmps59 rfl fun H0 fr w0 => ?_
  refine g_seq ?_
  refine g_region ?_
  refine go_p rfl rfl rfl (o_assign rfl) ?_
  refine go_conv (nilE (i := 2) (sz := 4) (f := ApiToken.d) rfl).refines ?_
  refine go_p rfl rfl rfl (o_assign rfl) ?_
  refine go_p rfl rfl rfl (o_assign rfl) ?_
  refine go_nil ?_
  refine g_seq ?_
  refine g_region ?_
  refine go_op rfl rfl rfl (o_buildSlice_row (xs := []) (f := ApiToken.d) (l := []) Try.runUnderlying101 Try.sizeOf105 Try.zeroValue105 rfl rfl rfl (fun _ => ⟨rfl, rfl, rfl⟩) rfl (by simp [maxLen])) ?_
  rintro _ _ ⟨a_r1, rfl, rfl⟩
  refine go_p rfl rfl rfl (o_assign rfl) ?_
  refine go_p rfl rfl rfl (o_assign rfl) ?_
  refine go_nil ?_
  refine g_seq ?_
  obtain ⟨o_1, hj1, hm1⟩ := bind_some hm
  refine g_cut_m [(0, _)] [] (fun (st : (List ApiToken)) (hid : (Option Addr × Nat)) => match st, hid with | l1, (a_r1, cap_r1) => [(5, .v (.slice a_r1 l1.length cap_r1))]) (fun F (st : (List ApiToken)) (hid : (Option Addr × Nat)) => match st, hid with | l1, (a_r1, cap_r1) => [row a_r1 cap_r1 105 4 ApiToken.d l1]) (fun st => Out.go (st) = o_1) ⟨rfl, trivial⟩ trivial ?_ ?_
  · skip
    refine g_block ?_
    refine g_loop_m [(0, _)] [] (fun (st : (Int × (List ApiToken))) (hid : (Option Addr × Nat)) => match st, hid with | (i1, l2), (a_r1, cap_r1) => [(5, .v (.slice a_r1 l2.length cap_r1)), (6, .i64 i1)]) (fun F (st : (Int × (List ApiToken))) (hid : (Option Addr × Nat)) => match st, hid with | (i1, l2), (a_r1, cap_r1) => [row a_r1 cap_r1 105 4 ApiToken.d l2]) (_, _) hj1 (fun _ => rfl) ⟨rfl, trivial⟩ trivial ⟨rfl, rfl, trivial⟩ rfl ?_
    rintro n ⟨i1, l2⟩ ⟨a_r1, cap_r1⟩ hj1
    rw [m_syntagmaref04_All_l1] at hj1
    refine g_norm (L' := [(5, .v (.slice a_r1 l2.length cap_r1)), (6, .i64 i1), (0, _)]) (ms' := [row a_r1 cap_r1 105 4 ApiToken.d l2]) rfl rfl ?_
    refine g_seq ?_
    refine g_seq ?_
    refine g_region ?_
    refine go_p rfl rfl rfl (o_move rfl) ?_
    refine go_p rfl rfl rfl (o_move rfl) ?_
    refine go_p rfl rfl rfl (o_len_str Try.runUnderlying9 rfl) ?_
    refine go_p rfl rfl rfl (o_cmp rfl rfl rfl) ?_
    refine go_nil ?_
    refine g_cond rfl (fun hc1 => ?_) (fun hc1 => ?_)
    · replace hj1 := cond_t hc1 hj1
      refine g_skip ?_
      refine g_block ?_
      refine g_seq ?_
      refine g_seq ?_
      refine g_region ?_
      refine go_p rfl rfl rfl (o_move rfl) ?_
      refine go_p rfl rfl rfl (o_move rfl) ?_
      obtain ⟨c1, hx1, hj1⟩ := bind_some hj1
      refine go_p rfl rfl rfl (o_index_m Try.runUnderlying9 rfl rfl hx1) ?_
      refine go_p rfl rfl rfl (o_cmp rfl rfl rfl) ?_
      refine go_p rfl rfl rfl (o_move rfl) ?_
      obtain ⟨p1, hp_1, hj1⟩ := bind_some hj1
      refine go_two [(0, _), (5, _), (6, _)] 5 24 p1 (t := 19) ⟨rfl, rfl, rfl, trivial⟩ rfl (fun hg_1 hk1 => ?_) (fun hg_1 hk1 => ?_) ?_
      · replace hp_1 := cond_t hg_1 hp_1
        refine go_skip rfl rfl rfl hg_1 rfl rfl ?_
        refine go_skip rfl rfl rfl hg_1 rfl rfl ?_
        refine go_skip rfl rfl rfl hg_1 rfl rfl ?_
        refine go_skip rfl rfl rfl hg_1 rfl rfl ?_
        refine go_p rfl rfl rfl (o_pickT rfl hg_1 rfl) ?_
        exact go_meet hk1 (congrArg (fun b => some (D.bool b)) (some_eq hp_1)) ⟨rfl, rfl, rfl, trivial⟩
      · replace hp_1 := cond_f hg_1 hp_1
        refine go_wantp rfl rfl rfl hg_1 rfl rfl (o_move rfl) ?_
        refine go_wantp rfl rfl rfl hg_1 rfl rfl (o_move rfl) ?_
        obtain ⟨c2, hx2, hp_1⟩ := bind_some hp_1
        refine go_wantp rfl rfl rfl hg_1 rfl rfl (o_index_m Try.runUnderlying9 rfl rfl hx2) ?_
        refine go_wantp rfl rfl rfl hg_1 rfl rfl (o_cmp rfl rfl rfl) ?_
        refine go_p rfl rfl rfl (o_pickF rfl hg_1 rfl) ?_
        exact go_meet hk1 (congrArg (fun b => some (D.bool b)) (some_eq hp_1)) ⟨rfl, rfl, rfl, trivial⟩
      refine go_p rfl rfl rfl (o_move rfl) ?_
      obtain ⟨p2, hp_2, hj1⟩ := bind_some hj1
      refine go_two [(0, _), (5, _), (6, _)] 5 30 p2 (t := 25) ⟨rfl, rfl, rfl, trivial⟩ rfl (fun hg_2 hk2 => ?_) (fun hg_2 hk2 => ?_) ?_
      · replace hp_2 := cond_t hg_2 hp_2
        refine go_skip rfl rfl rfl hg_2 rfl rfl ?_
        refine go_skip rfl rfl rfl hg_2 rfl rfl ?_
        refine go_skip rfl rfl rfl hg_2 rfl rfl ?_
        refine go_skip rfl rfl rfl hg_2 rfl rfl ?_
        refine go_p rfl rfl rfl (o_pickT rfl hg_2 rfl) ?_
        exact go_meet hk2 (congrArg (fun b => some (D.bool b)) (some_eq hp_2)) ⟨rfl, rfl, rfl, trivial⟩
      · replace hp_2 := cond_f hg_2 hp_2
        refine go_wantp rfl rfl rfl hg_2 rfl rfl (o_move rfl) ?_
        refine go_wantp rfl rfl rfl hg_2 rfl rfl (o_move rfl) ?_
        obtain ⟨c3, hx3, hp_2⟩ := bind_some hp_2
        refine go_wantp rfl rfl rfl hg_2 rfl rfl (o_index_m Try.runUnderlying9 rfl rfl hx3) ?_
        refine go_wantp rfl rfl rfl hg_2 rfl rfl (o_cmp rfl rfl rfl) ?_
        refine go_p rfl rfl rfl (o_pickF rfl hg_2 rfl) ?_
        exact go_meet hk2 (congrArg (fun b => some (D.bool b)) (some_eq hp_2)) ⟨rfl, rfl, rfl, trivial⟩
      refine go_nil ?_
      refine g_cond rfl (fun hc2 => ?_) (fun hc2 => ?_)
      · replace hj1 := cond_t hc2 hj1
        refine g_seq ?_
        refine g_region ?_
        refine go_p rfl rfl rfl (o_move rfl) ?_
        obtain ⟨hg4, hj1⟩ := grd_some hj1
        refine go_p rfl rfl rfl (o_add rfl rfl (i64_id hg4)) ?_
        refine go_p rfl rfl rfl (o_assign rfl) ?_
        refine go_nil ?_
        refine g_exit ?_
        exact ⟨_, (_, _), hj1, ⟨rfl, rfl, trivial⟩, ⟨rfl, trivial⟩, [], rfl⟩
      · replace hj1 := cond_f hc2 hj1
        refine g_skip ?_
        refine g_seq ?_
        refine g_seq ?_
        refine g_region ?_
        refine go_p rfl rfl rfl (o_move rfl) ?_
        refine go_p rfl rfl rfl (o_move rfl) ?_
        obtain ⟨c4, hx5, hj1⟩ := bind_some hj1
        refine go_p rfl rfl rfl (o_index_m Try.runUnderlying9 rfl rfl hx5) ?_
        refine go_p rfl rfl rfl (o_cmp rfl rfl rfl) ?_
        refine go_nil ?_
        refine g_cond rfl (fun hc3 => ?_) (fun hc3 => ?_)
        · replace hj1 := cond_t hc3 hj1
          refine g_seq ?_
          obtain ⟨o_2, hj2, hm2⟩ := bind_some hj1
          refine g_cut_m [(0, _), (5, _)] [(0, _)] (fun (st : Int) (hid : Unit) => match st, hid with | i2, _ => [(6, .i64 i2)]) (fun F (st : Int) (hid : Unit) => match st, hid with | i2, _ => [(nthF F 0)]) (fun st => st = o_2) ⟨rfl, rfl, trivial⟩ ⟨rfl, trivial⟩ ?_ ?_
          · skip
            refine g_block ?_
            refine g_loop_m [(0, _), (5, _)] [(0, _)] (fun (st : Int) (hid : Unit) => match st, hid with | i3, _ => [(6, .i64 i3)]) (fun F (st : Int) (hid : Unit) => match st, hid with | i3, _ => [(nthF F 0)]) () hj2 (fun _ => rfl) ⟨rfl, rfl, trivial⟩ ⟨rfl, trivial⟩ ⟨rfl, trivial⟩ rfl ?_
            rintro n i3 _ hj2
            rw [m_syntagmaref04_All_l2] at hj2
            refine g_norm (L' := [(6, .i64 i3), (0, _), (5, _)]) (ms' := [_]) rfl rfl ?_
            refine g_seq ?_
            refine g_seq ?_
            refine g_region ?_
            refine go_p rfl rfl rfl (o_move rfl) ?_
            refine go_p rfl rfl rfl (o_move rfl) ?_
            refine go_p rfl rfl rfl (o_len_str Try.runUnderlying9 rfl) ?_
            refine go_p rfl rfl rfl (o_cmp rfl rfl rfl) ?_
            refine go_p rfl rfl rfl (o_move rfl) ?_
            obtain ⟨p3, hp_3, hj2⟩ := bind_some hj2
            refine go_two [(0, _), (5, _), (6, _)] 5 46 p3 (t := 41) ⟨rfl, rfl, rfl, trivial⟩ rfl (fun hg_3 hk3 => ?_) (fun hg_3 hk3 => ?_) ?_
            · replace hp_3 := cond_t hg_3 hp_3
              refine go_wantp rfl rfl rfl hg_3 rfl rfl (o_move rfl) ?_
              refine go_wantp rfl rfl rfl hg_3 rfl rfl (o_move rfl) ?_
              obtain ⟨c5, hx6, hp_3⟩ := bind_some hp_3
              refine go_wantp rfl rfl rfl hg_3 rfl rfl (o_index_m Try.runUnderlying9 rfl rfl hx6) ?_
              refine go_wantp rfl rfl rfl hg_3 rfl rfl (o_cmp rfl rfl rfl) ?_
              refine go_p rfl rfl rfl (o_pickT rfl hg_3 rfl) ?_
              exact go_meet hk3 (congrArg (fun b => some (D.bool b)) (some_eq hp_3)) ⟨rfl, rfl, rfl, trivial⟩
            · replace hp_3 := cond_f hg_3 hp_3
              refine go_skip rfl rfl rfl hg_3 rfl rfl ?_
              refine go_skip rfl rfl rfl hg_3 rfl rfl ?_
              refine go_skip rfl rfl rfl hg_3 rfl rfl ?_
              refine go_skip rfl rfl rfl hg_3 rfl rfl ?_
              refine go_p rfl rfl rfl (o_pickF rfl hg_3 rfl) ?_
              exact go_meet hk3 (congrArg (fun b => some (D.bool b)) (some_eq hp_3)) ⟨rfl, rfl, rfl, trivial⟩
            refine go_nil ?_
            refine g_cond rfl (fun hc4 => ?_) (fun hc4 => ?_)
            · replace hj2 := cond_t hc4 hj2
              refine g_skip ?_
              refine g_block ?_
              refine g_region ?_
              refine go_p rfl rfl rfl (o_move rfl) ?_
              obtain ⟨hg7, hj2⟩ := grd_some hj2
              refine go_p rfl rfl rfl (o_add rfl rfl (i64_id hg7)) ?_
              refine go_p rfl rfl rfl (o_assign rfl) ?_
              refine go_nil ?_
              exact ⟨_, (), hj2, ⟨rfl, trivial⟩, ⟨rfl, rfl, trivial⟩, [], rfl⟩
            · replace hj2 := cond_f hc4 hj2
              refine g_exit ?_
              exact ⟨_, (), some_eq hj2, ⟨rfl, trivial⟩, ⟨rfl, rfl, trivial⟩, [], rfl⟩
          · rintro i2 _ hst
            subst hst
            refine k_norm (L' := [(6, .i64 i2), (0, _), (5, _)]) (ms' := [_]) rfl rfl ?_
            refine g_exit ?_
            exact ⟨_, (_, _), hm2, ⟨rfl, rfl, trivial⟩, ⟨rfl, trivial⟩, [], rfl⟩
        · replace hj1 := cond_f hc3 hj1
          refine g_skip ?_
          refine g_seq ?_
          refine g_region ?_
          refine go_p rfl rfl rfl (o_move rfl) ?_
          refine go_p rfl rfl rfl (o_move rfl) ?_
          obtain ⟨⟨x1, x2, x3⟩, hx8, hj1⟩ := bind_some hj1
          refine go_p rfl rfl rfl (o_call0 Try.call94 rfl (w_syntagmaref04_one hx8)) ?_
          refine go_p rfl rfl rfl (o_move rfl) ?_
          refine go_p rfl rfl rfl (o_extract rfl rfl) ?_
          refine go_p rfl rfl rfl (o_extract rfl rfl) ?_
          refine go_p rfl rfl rfl (o_extract rfl rfl) ?_
          refine go_op rfl rfl rfl (o_alloc_own Try.zeroValue105 (cs := [.i64 0, .str ([] : List UInt8), .i64 0, .i64 0]) rfl) ?_
          rintro _ _ ⟨b1, rfl, rfl⟩
          refine go_u rfl rfl (o_store_box 0 Try.sizeOf105 rfl rfl rfl rfl rfl rfl rfl rfl (Nat.le_of_ble_eq_true rfl)) ?_
          rintro _ _ rfl
          refine go_ms (ms' := [box b1 105 [_, _, _, _], _]) rfl ?_
          refine go_p rfl rfl rfl (o_assign rfl) ?_
          refine go_p rfl rfl rfl (o_assign rfl) ?_
          refine go_nil ?_
          refine g_seq ?_
          refine g_seq ?_
          refine g_region ?_
          refine go_p rfl rfl rfl (o_move rfl) ?_
          refine go_p rfl rfl rfl (o_cmp rfl rfl rfl) ?_
          refine go_nil ?_
          refine g_cond rfl (fun hc5 => ?_) (fun hc5 => ?_)
          · replace hj1 := cond_t hc5 hj1
            refine g_seq ?_
            refine g_region ?_
            refine go_p rfl rfl rfl (o_move rfl) ?_
            refine go_p rfl rfl rfl (o_move rfl) ?_
            refine go_p rfl rfl rfl (o_assign rfl) ?_
            refine go_conv (nilE (i := 2) (sz := 4) (f := ApiToken.d) rfl).refines ?_
            refine go_p rfl rfl rfl (o_assign rfl) ?_
            refine go_p rfl rfl rfl (o_assign rfl) ?_
            refine go_nil ?_
            refine g_ret ?_
            obtain rfl := some_eq hj1
            replace hm1 := on_ret hm1
            exact retK (ret_many (ds := [_, _, _]) rfl (by decide) ⟨ret_tmp rfl, ⟨ret_tmp rfl, ⟨ret_tmp rfl, rfl⟩⟩⟩ (perm_drop _)) (congrArg (fun (p : ((List ApiToken) × Int × Int)) => D.tup [.list 4 ApiToken.d p.1, .i64 p.2.1, .i64 p.2.2]) (some_eq hm1))
          · replace hj1 := cond_f hc5 hj1
            refine g_skip ?_
            refine g_seq ?_
            refine g_region ?_
            refine go_p rfl rfl rfl (o_move rfl) ?_
            refine go_p rfl rfl rfl (o_load_box_agg 0 Try.isAgg105 Try.sizeOf105 rfl rfl rfl rfl (Nat.le_of_ble_eq_true rfl)) ?_
            refine go_p rfl rfl rfl (o_buildSlice (xs := [_]) (f := ApiToken.d) (l := [(⟨x1.kind, x1.s, x1.n_, x1.pos⟩ : ApiToken)]) Try.runUnderlying101 Try.sizeOf105 Try.zeroValue105 rfl rfl rfl (fun _ => ⟨rfl, rfl, rfl⟩) rfl) ?_
            obtain ⟨hg9, hj1⟩ := grd_some hj1
            refine go_op rfl rfl rfl (o_append (a := _) 1 Try.underlying101 Try.type105 rfl rfl rfl rfl rfl rfl rfl (fun _ => rfl) (fun _ => rfl) hg9 (app_len hg9 rfl)) ?_
            rintro _ _ ⟨a_r1, cap_r1, rfl, rfl⟩
            refine go_ms (ms' := [box b1 105 [_, _, _, _], _]) rfl ?_
            refine go_p rfl rfl rfl (o_assign rfl) ?_
            refine go_nil ?_
            refine g_region ?_
            refine go_p rfl rfl rfl (o_move rfl) ?_
            refine go_p rfl rfl rfl (o_move rfl) ?_
            obtain ⟨hg10, hj1⟩ := grd_some hj1
            refine go_p rfl rfl rfl (o_add rfl rfl (i64_id hg10)) ?_
            refine go_p rfl rfl rfl (o_assign rfl) ?_
            refine go_nil ?_
            exact ⟨_, (_, _), hj1, ⟨rfl, rfl, trivial⟩, ⟨rfl, trivial⟩, [_], rfl⟩
    · replace hj1 := cond_f hc1 hj1
      refine g_exit ?_
      exact ⟨_, (_, _), some_eq hj1, ⟨rfl, trivial⟩, ⟨rfl, trivial⟩, [], rfl⟩
  · rintro l1 ⟨a_r1, cap_r1⟩ hst
    subst hst
    replace hm1 := on_go hm1
    refine k_norm (L' := [(5, .v (.slice a_r1 l1.length cap_r1)), (0, _)]) (ms' := [row a_r1 cap_r1 105 4 ApiToken.d l1]) rfl rfl ?_
    refine g_seq ?_
    refine g_region ?_
    refine go_p rfl rfl rfl (o_move rfl) ?_
    refine go_p rfl rfl rfl (o_move rfl) ?_
    refine go_p rfl rfl rfl (o_len_str Try.runUnderlying9 rfl) ?_
    refine go_p rfl rfl rfl (o_assign rfl) ?_
    refine go_p rfl rfl rfl (o_assign rfl) ?_
    refine go_p rfl rfl rfl (o_assign rfl) ?_
    refine go_nil ?_
    refine g_conv (peekE (i := 2) 0 rfl rfl rfl).refines ?_
    refine g_ret ?_
    exact retK (ret_many (ds := [_, _, _]) rfl (by decide) ⟨ret_tmp rfl, ⟨ret_tmp rfl, ⟨ret_tmp rfl, rfl⟩⟩⟩ (perm_drop _)) (congrArg (fun (p : ((List ApiToken) × Int × Int)) => D.tup [.list 4 ApiToken.d p.1, .i64 p.2.1, .i64 p.2.2]) (some_eq hm1))

theorem fi_105_0 : FieldIs Try.prog 105 0 0 1 false := ⟨⟨_, _, Try.runUnderlying105, rfl, rfl, Try.sizeOf3, by decide, Try.isAgg3⟩⟩
theorem fi_105_1 : FieldIs Try.prog 105 1 1 1 false := ⟨⟨_, _, Try.runUnderlying105, rfl, rfl, Try.sizeOf9, by decide, Try.isAgg9⟩⟩
theorem fi_105_2 : FieldIs Try.prog 105 2 2 1 false := ⟨⟨_, _, Try.runUnderlying105, rfl, rfl, Try.sizeOf2, by decide, Try.isAgg2⟩⟩
def m_syntagmalaw04_works  : Option Bool :=
  (m_lex_All ([102, 117, 110, 32, 120, 32, 45, 62, 32, 49, 50] : List UInt8)).bind fun (x1, x2, x3) =>
  (bif (((decide (x3 = 0)) && (decide (x2 = 11))) && (decide ((x1.length : Int) = 4))) then ((idx x1 0).bind fun x4 =>
  some (decide (x4.kind = 1))) else (some false)).bind fun p1 =>
  (bif p1 then ((idx x1 2).bind fun x5 =>
  some (decide ((x5.s : List UInt8) = ([45, 62] : List UInt8)))) else (some false)).bind fun p2 =>
  (bif p2 then ((idx x1 3).bind fun x6 =>
  some (decide (x6.n_ = 12))) else (some false)).bind fun p3 =>
  some p3
theorem w_syntagmalaw04_works  {r : Bool} (hm : m_syntagmalaw04_works = some r) : Fn0 Try.prog 60 [] (.bool r) := by
  unfold m_syntagmalaw04_works at hm
  refine fn_intro Try.func60 rfl Try.ntmps60 rfl fun H0 fr w0 => ?_
  refine g_seq ?_
  refine g_region ?_
  refine go_p rfl rfl rfl (o_assign rfl) ?_
  refine go_nil ?_
  refine g_seq ?_
  refine g_region ?_
  obtain ⟨⟨x1, x2, x3⟩, hx1, hm⟩ := bind_some hm
  refine go_p rfl rfl rfl (o_call0 Try.call58 rfl (w_lex_All hx1)) ?_
  refine go_p rfl rfl rfl (o_move rfl) ?_
  refine go_p rfl rfl rfl (o_extract rfl rfl) ?_
  refine go_p rfl rfl rfl (o_extract rfl rfl) ?_
  refine go_p rfl rfl rfl (o_extract rfl rfl) ?_
  refine go_p rfl rfl rfl (o_assign rfl) ?_
  refine go_p rfl rfl rfl (o_assign rfl) ?_
  refine go_p rfl rfl rfl (o_assign rfl) ?_
  refine go_nil ?_
  refine g_seq ?_
  refine g_region ?_
  refine go_p rfl rfl rfl (o_move rfl) ?_
  refine go_p rfl rfl rfl (o_cmp rfl rfl rfl) ?_
  refine go_p rfl rfl rfl (o_move rfl) ?_
  apply go_and [(1, _)] 3 14 (t := 11) ⟨rfl, trivial⟩ rfl
  · intro hg_1 hk1
    refine go_wantp rfl rfl rfl hg_1 rfl rfl (o_move rfl) ?_
    refine go_wantp rfl rfl rfl hg_1 rfl rfl (o_cmp rfl rfl rfl) ?_
    refine go_p rfl rfl rfl (o_pickT rfl hg_1 rfl) ?_
    exact go_meet hk1 (rfl) ⟨rfl, trivial⟩
  · intro hg_1 hk1
    refine go_skip rfl rfl rfl hg_1 rfl rfl ?_
    refine go_skip rfl rfl rfl hg_1 rfl rfl ?_
    refine go_p rfl rfl rfl (o_pickF rfl hg_1 rfl) ?_
    exact go_meet hk1 (rfl) ⟨rfl, trivial⟩
  refine go_p rfl rfl rfl (o_move rfl) ?_
  apply go_and [(1, _)] 4 19 (t := 15) ⟨rfl, trivial⟩ rfl
  · intro hg_2 hk2
    refine go_wantp rfl rfl rfl hg_2 rfl rfl (o_move rfl) ?_
    refine go_wantp rfl rfl rfl hg_2 rfl rfl (o_len Try.runUnderlying101 rfl) ?_
    refine go_wantp rfl rfl rfl hg_2 rfl rfl (o_cmp rfl rfl rfl) ?_
    refine go_p rfl rfl rfl (o_pickT rfl hg_2 rfl) ?_
    exact go_meet hk2 (rfl) ⟨rfl, trivial⟩
  · intro hg_2 hk2
    refine go_skip rfl rfl rfl hg_2 rfl rfl ?_
    refine go_skip rfl rfl rfl hg_2 rfl rfl ?_
    refine go_skip rfl rfl rfl hg_2 rfl rfl ?_
    refine go_p rfl rfl rfl (o_pickF rfl hg_2 rfl) ?_
    exact go_meet hk2 (rfl) ⟨rfl, trivial⟩
  refine go_p rfl rfl rfl (o_move rfl) ?_
  obtain ⟨p1, hp_3, hm⟩ := bind_some hm
  refine go_two [(1, _)] 6 26 p1 (t := 20) ⟨rfl, trivial⟩ rfl (fun hg_3 hk3 => ?_) (fun hg_3 hk3 => ?_) ?_
  · replace hp_3 := cond_t hg_3 hp_3
    refine go_wantp rfl rfl rfl hg_3 rfl rfl (o_move rfl) ?_
    obtain ⟨x4, hx2, hp_3⟩ := bind_some hp_3
    refine go_wantp rfl rfl rfl hg_3 rfl rfl (o_indexAddr_m Try.runUnderlying101 Try.sizeOf105 rfl rfl hx2) ?_
    refine go_wantp rfl rfl rfl hg_3 rfl rfl (o_fieldAddr fi_105_0 rfl rfl rfl) ?_
    refine go_wantp rfl rfl rfl hg_3 rfl rfl (o_load Try.isAgg3 rfl rfl) ?_
    refine go_wantp rfl rfl rfl hg_3 rfl rfl (o_cmp rfl rfl rfl) ?_
    refine go_p rfl rfl rfl (o_pickT rfl hg_3 rfl) ?_
    exact go_meet hk3 (congrArg (fun b => some (D.bool b)) (some_eq hp_3)) ⟨rfl, trivial⟩
  · replace hp_3 := cond_f hg_3 hp_3
    refine go_skip rfl rfl rfl hg_3 rfl rfl ?_
    refine go_skip rfl rfl rfl hg_3 rfl rfl ?_
    refine go_skip rfl rfl rfl hg_3 rfl rfl ?_
    refine go_skip rfl rfl rfl hg_3 rfl rfl ?_
    refine go_skip rfl rfl rfl hg_3 rfl rfl ?_
    refine go_p rfl rfl rfl (o_pickF rfl hg_3 rfl) ?_
    exact go_meet hk3 (congrArg (fun b => some (D.bool b)) (some_eq hp_3)) ⟨rfl, trivial⟩
  refine go_p rfl rfl rfl (o_move rfl) ?_
  obtain ⟨p2, hp_4, hm⟩ := bind_some hm
  refine go_two [(1, _)] 6 33 p2 (t := 27) ⟨rfl, trivial⟩ rfl (fun hg_4 hk4 => ?_) (fun hg_4 hk4 => ?_) ?_
  · replace hp_4 := cond_t hg_4 hp_4
    refine go_wantp rfl rfl rfl hg_4 rfl rfl (o_move rfl) ?_
    obtain ⟨x5, hx3, hp_4⟩ := bind_some hp_4
    refine go_wantp rfl rfl rfl hg_4 rfl rfl (o_indexAddr_m Try.runUnderlying101 Try.sizeOf105 rfl rfl hx3) ?_
    refine go_wantp rfl rfl rfl hg_4 rfl rfl (o_fieldAddr fi_105_1 rfl rfl rfl) ?_
    refine go_wantp rfl rfl rfl hg_4 rfl rfl (o_load Try.isAgg9 rfl rfl) ?_
    refine go_wantp rfl rfl rfl hg_4 rfl rfl (o_cmps rfl rfl rfl) ?_
    refine go_p rfl rfl rfl (o_pickT rfl hg_4 rfl) ?_
    exact go_meet hk4 (congrArg (fun b => some (D.bool b)) (some_eq hp_4)) ⟨rfl, trivial⟩
  · replace hp_4 := cond_f hg_4 hp_4
    refine go_skip rfl rfl rfl hg_4 rfl rfl ?_
    refine go_skip rfl rfl rfl hg_4 rfl rfl ?_
    refine go_skip rfl rfl rfl hg_4 rfl rfl ?_
    refine go_skip rfl rfl rfl hg_4 rfl rfl ?_
    refine go_skip rfl rfl rfl hg_4 rfl rfl ?_
    refine go_p rfl rfl rfl (o_pickF rfl hg_4 rfl) ?_
    exact go_meet hk4 (congrArg (fun b => some (D.bool b)) (some_eq hp_4)) ⟨rfl, trivial⟩
  refine go_p rfl rfl rfl (o_move rfl) ?_
  obtain ⟨p3, hp_5, hm⟩ := bind_some hm
  refine go_two [] 6 40 p3 (t := 34) trivial rfl (fun hg_5 hk5 => ?_) (fun hg_5 hk5 => ?_) ?_
  · replace hp_5 := cond_t hg_5 hp_5
    refine go_wantp rfl rfl rfl hg_5 rfl rfl (o_move rfl) ?_
    obtain ⟨x6, hx4, hp_5⟩ := bind_some hp_5
    refine go_wantp rfl rfl rfl hg_5 rfl rfl (o_indexAddr_m Try.runUnderlying101 Try.sizeOf105 rfl rfl hx4) ?_
    refine go_wantp rfl rfl rfl hg_5 rfl rfl (o_fieldAddr fi_105_2 rfl rfl rfl) ?_
    refine go_wantp rfl rfl rfl hg_5 rfl rfl (o_load Try.isAgg2 rfl rfl) ?_
    refine go_wantp rfl rfl rfl hg_5 rfl rfl (o_cmp rfl rfl rfl) ?_
    refine go_p rfl rfl rfl (o_pickT rfl hg_5 rfl) ?_
    exact go_meet hk5 (congrArg (fun b => some (D.bool b)) (some_eq hp_5)) trivial
  · replace hp_5 := cond_f hg_5 hp_5
    refine go_skip rfl rfl rfl hg_5 rfl rfl ?_
    refine go_skip rfl rfl rfl hg_5 rfl rfl ?_
    refine go_skip rfl rfl rfl hg_5 rfl rfl ?_
    refine go_skip rfl rfl rfl hg_5 rfl rfl ?_
    refine go_skip rfl rfl rfl hg_5 rfl rfl ?_
    refine go_p rfl rfl rfl (o_pickF rfl hg_5 rfl) ?_
    exact go_meet hk5 (congrArg (fun b => some (D.bool b)) (some_eq hp_5)) trivial
  refine go_p rfl rfl rfl (o_assign rfl) ?_
  refine go_nil ?_
  refine g_ret ?_
  exact retK (ret_one' rfl (ret_tmp rfl) (perm_drop _)) (congrArg (fun (p : Bool) => (.bool p : D)) (some_eq hm))

def ApiToken.eqv (x y : ApiToken) : Bool := ((x.kind == y.kind) && ((x.s == y.s) && ((x.n_ == y.n_) && ((x.pos == y.pos) && true))))
theorem eqf_105 : ∀ fs : Array Field, Try.prog.underlying 105 = some (.struct fs) → EqFields Try.prog fs.toList 0 [.int, .str, .int, .int] := by
  intro fs h
  have := h.symm.trans Try.underlying105
  simp only [Option.some.injEq, TypeDesc.struct.injEq] at this
  subst this
  exact ⟨by decide, rfl, Try.isAgg3, ⟨_, Try.underlying3⟩, ⟨by decide, rfl, Try.isAgg9, Try.underlying9, ⟨by decide, rfl, Try.isAgg2, ⟨_, Try.underlying2⟩, ⟨by decide, rfl, Try.isAgg3, ⟨_, Try.underlying3⟩, trivial⟩⟩⟩⟩
def m_syntagmalaw04_LexTokens_l1 (x2 : (List ApiToken)) (x5 : (List ApiToken)) : Nat → Int → Option (Out Bool Unit)
  | 0, _ => none
  | n + 1, i1 =>
    bif (decide (i1 < (x2.length : Int))) then
      (idx x2 i1).bind fun x8 =>
      (idx x5 i1).bind fun x9 =>
      bif (!(ApiToken.eqv x8 x9)) then
        some (Out.ret false)
      else
        grd (InR (i1 + 1)) <|
        m_syntagmalaw04_LexTokens_l1 x2 x5 n (i1 + 1)
    else
      some (Out.go (()))
def m_syntagmalaw04_LexTokens (s1 : (List UInt8)) : Option Bool :=
  (m_syntagmalaw04_short s1).bind fun x1 =>
  (m_lex_All x1).bind fun (x2, x3, x4) =>
  (m_syntagmaref04_All x1).bind fun (x5, x6, x7) =>
  bif (((!decide (x3 = x6)) || (!decide (x4 = x7))) || (!decide ((x2.length : Int) = (x5.length : Int)))) then
    some false
  else
    ((m_syntagmalaw04_LexTokens_l1 x2 x5 FU 0 : Option (Out Bool Unit))).bind (fun oo => oo.on (fun r1 => some r1) (fun _ =>
    (m_syntagmalaw04_works).bind fun x10 =>
    some x10))
theorem w_syntagmalaw04_LexTokens {s1 : (List UInt8)} {r : Bool} (hm : m_syntagmalaw04_LexTokens s1 = some r) : Fn0 Try.prog 13 [.str s1] (.bool r) := by
  unfold m_syntagmalaw04_LexTokens at hm
  refine fn_intro Try.func13 rfl Try.ntmps13 rfl fun H0 fr w0 => ?_
  refine g_seq ?_
  refine g_region ?_
  refine go_p rfl rfl rfl (o_assign rfl) ?_
  refine go_nil ?_
  refine g_seq ?_
  refine g_region ?_
  refine go_p rfl rfl rfl (o_move rfl) ?_
  obtain ⟨x1, hx1, hm⟩ := bind_some hm
  refine go_p rfl rfl rfl (o_call0 Try.call57 rfl (w_syntagmalaw04_short hx1)) ?_
  refine go_p rfl rfl rfl (o_assign rfl) ?_
  refine go_nil ?_
  refine g_seq ?_
  refine g_region ?_
  refine go_p rfl rfl rfl (o_move rfl) ?_
  obtain ⟨⟨x2, x3, x4⟩, hx2, hm⟩ := bind_some hm
  refine go_p rfl rfl rfl (o_call0 Try.call58 rfl (w_lex_All hx2)) ?_
  refine go_p rfl rfl rfl (o_move rfl) ?_
  refine go_p rfl rfl rfl (o_extract rfl rfl) ?_
  refine go_p rfl rfl rfl (o_extract rfl rfl) ?_
  refine go_p rfl rfl rfl (o_extract rfl rfl) ?_
  refine go_p rfl rfl rfl (o_assign rfl) ?_
  refine go_p rfl rfl rfl (o_assign rfl) ?_
  refine go_p rfl rfl rfl (o_assign rfl) ?_
  refine go_nil ?_
  refine g_seq ?_
  refine g_region ?_
  refine go_p rfl rfl rfl (o_move rfl) ?_
  obtain ⟨⟨x5, x6, x7⟩, hx3, hm⟩ := bind_some hm
  refine go_p rfl rfl rfl (o_call0 Try.call59 rfl (w_syntagmaref04_All hx3)) ?_
  refine go_p rfl rfl rfl (o_move rfl) ?_
  refine go_p rfl rfl rfl (o_extract rfl rfl) ?_
  refine go_p rfl rfl rfl (o_extract rfl rfl) ?_
  refine go_p rfl rfl rfl (o_extract rfl rfl) ?_
  refine go_p rfl rfl rfl (o_assign rfl) ?_
  refine go_p rfl rfl rfl (o_assign rfl) ?_
  refine go_p rfl rfl rfl (o_assign rfl) ?_
  refine go_nil ?_
  refine g_seq ?_
  refine g_seq ?_
  refine g_region ?_
  refine go_p rfl rfl rfl (o_move rfl) ?_
  refine go_p rfl rfl rfl (o_move rfl) ?_
  refine go_p rfl rfl rfl (o_cmp rfl rfl rfl) ?_
  refine go_p rfl rfl rfl (o_move rfl) ?_
  apply go_or [(3, _), (6, _)] 4 31 (t := 27) ⟨rfl, rfl, trivial⟩ rfl
  · intro hg_1 hk1
    refine go_wantp rfl rfl rfl hg_1 rfl rfl (o_move rfl) ?_
    refine go_wantp rfl rfl rfl hg_1 rfl rfl (o_move rfl) ?_
    refine go_wantp rfl rfl rfl hg_1 rfl rfl (o_cmp rfl rfl rfl) ?_
    refine go_p rfl rfl rfl (o_pickF rfl hg_1 rfl) ?_
    exact go_meet hk1 (rfl) ⟨rfl, rfl, trivial⟩
  · intro hg_1 hk1
    refine go_skip rfl rfl rfl hg_1 rfl rfl ?_
    refine go_skip rfl rfl rfl hg_1 rfl rfl ?_
    refine go_skip rfl rfl rfl hg_1 rfl rfl ?_
    refine go_p rfl rfl rfl (o_pickT rfl hg_1 rfl) ?_
    exact go_meet hk1 (rfl) ⟨rfl, rfl, trivial⟩
  refine go_p rfl rfl rfl (o_move rfl) ?_
  apply go_or [(3, _), (6, _)] 6 38 (t := 32) ⟨rfl, rfl, trivial⟩ rfl
  · intro hg_2 hk2
    refine go_wantp rfl rfl rfl hg_2 rfl rfl (o_move rfl) ?_
    refine go_wantp rfl rfl rfl hg_2 rfl rfl (o_len Try.runUnderlying101 rfl) ?_
    refine go_wantp rfl rfl rfl hg_2 rfl rfl (o_move rfl) ?_
    refine go_wantp rfl rfl rfl hg_2 rfl rfl (o_len Try.runUnderlying101 rfl) ?_
    refine go_wantp rfl rfl rfl hg_2 rfl rfl (o_cmp rfl rfl rfl) ?_
    refine go_p rfl rfl rfl (o_pickF rfl hg_2 rfl) ?_
    exact go_meet hk2 (rfl) ⟨rfl, rfl, trivial⟩
  · intro hg_2 hk2
    refine go_skip rfl rfl rfl hg_2 rfl rfl ?_
    refine go_skip rfl rfl rfl hg_2 rfl rfl ?_
    refine go_skip rfl rfl rfl hg_2 rfl rfl ?_
    refine go_skip rfl rfl rfl hg_2 rfl rfl ?_
    refine go_skip rfl rfl rfl hg_2 rfl rfl ?_
    refine go_p rfl rfl rfl (o_pickT rfl hg_2 rfl) ?_
    exact go_meet hk2 (rfl) ⟨rfl, rfl, trivial⟩
  refine go_nil ?_
  refine g_cond rfl (fun hc1 => ?_) (fun hc1 => ?_)
  · replace hm := cond_t hc1 hm
    refine g_seq ?_
    refine g_region ?_
    refine go_p rfl rfl rfl (o_assign rfl) ?_
    refine go_nil ?_
    refine g_ret ?_
    exact retK (ret_one' rfl (ret_tmp rfl) (perm_drop _)) (congrArg (fun (p : Bool) => (.bool p : D)) (some_eq hm))
  · replace hm := cond_f hc1 hm
    refine g_skip ?_
    refine g_seq ?_
    refine g_seq ?_
    refine g_region ?_
    refine go_p rfl rfl rfl (o_assign rfl) ?_
    refine go_nil ?_
    obtain ⟨o_1, hj1, hm1⟩ := bind_some hm
    refine g_cut_m [] [] (fun (st : Unit) (hid : Unit) => match st, hid with | _, _ => []) (fun F (st : Unit) (hid : Unit) => match st, hid with | _, _ => []) (fun st => Out.go (st) = o_1) trivial trivial ?_ ?_
    · skip
      refine g_block ?_
      refine g_loop_m [(3, _), (6, _)] [] (fun (st : Int) (hid : Unit) => match st, hid with | i1, _ => [(9, .i64 i1)]) (fun F (st : Int) (hid : Unit) => match st, hid with | i1, _ => []) () hj1 (fun _ => rfl) ⟨rfl, rfl, trivial⟩ trivial ⟨rfl, trivial⟩ rfl ?_
      rintro n i1 _ hj1
      rw [m_syntagmalaw04_LexTokens_l1] at hj1
      refine g_norm (L' := [(9, .i64 i1), (3, _), (6, _)]) (ms' := []) rfl rfl ?_
      refine g_seq ?_
      refine g_seq ?_
      refine g_region ?_
      refine go_p rfl rfl rfl (o_move rfl) ?_
      refine go_p rfl rfl rfl (o_move rfl) ?_
      refine go_p rfl rfl rfl (o_len Try.runUnderlying101 rfl) ?_
      refine go_p rfl rfl rfl (o_cmp rfl rfl rfl) ?_
      refine go_nil ?_
      refine g_cond rfl (fun hc2 => ?_) (fun hc2 => ?_)
      · replace hj1 := cond_t hc2 hj1
        refine g_skip ?_
        refine g_seq ?_
        refine g_block ?_
        refine g_seq ?_
        obtain ⟨x8, hx4, hj1⟩ := bind_some hj1
        obtain ⟨x9, hx5, hj1⟩ := bind_some hj1
        refine g_draw 9 Try_mixed (by decide +kernel) ?_
        refine gd_p rfl rfl rfl (o_move rfl) ?_
        refine gd_p rfl rfl rfl (o_move rfl) ?_
        refine gd_p rfl rfl rfl (o_indexAddr_m Try.runUnderlying101 Try.sizeOf105 rfl rfl hx4) ?_
        refine gd_p rfl rfl rfl (o_load_agg Try.isAgg105 Try.sizeOf105 rfl rfl) ?_
        refine gd_p rfl rfl rfl (o_move rfl) ?_
        refine gd_p rfl rfl rfl (o_move rfl) ?_
        refine gd_p rfl rfl rfl (o_indexAddr_m Try.runUnderlying101 Try.sizeOf105 rfl rfl hx5) ?_
        refine gd_p rfl rfl rfl (o_load_agg Try.isAgg105 Try.sizeOf105 rfl rfl) ?_
        refine gd_p rfl rfl rfl (o_neqagg (ks := [.int, .str, .int, .int]) Try.underlying105 (by kernel_rfl) (by kernel_rfl) (eqf_105 _ Try.underlying105) rfl rfl rfl) ?_
        refine gd_nil ?_
        refine go_nil ?_
        refine g_cond rfl (fun hc3 => ?_) (fun hc3 => ?_)
        · replace hj1 := cond_t hc3 hj1
          refine g_seq ?_
          refine g_region ?_
          refine go_p rfl rfl rfl (o_assign rfl) ?_
          refine go_nil ?_
          refine g_ret ?_
          obtain rfl := some_eq hj1
          replace hm1 := on_ret hm1
          exact retK (ret_one' rfl (ret_tmp rfl) (perm_drop _)) (congrArg (fun (p : Bool) => (.bool p : D)) (some_eq hm1))
        · replace hj1 := cond_f hc3 hj1
          refine g_skip ?_
          refine g_region ?_
          refine go_p rfl rfl rfl (o_move rfl) ?_
          obtain ⟨hg6, hj1⟩ := grd_some hj1
          refine go_p rfl rfl rfl (o_add rfl rfl (i64_id hg6)) ?_
          refine go_p rfl rfl rfl (o_assign rfl) ?_
          refine go_nil ?_
          exact ⟨_, (), hj1, ⟨rfl, trivial⟩, ⟨rfl, rfl, trivial⟩, [], rfl⟩
      · replace hj1 := cond_f hc2 hj1
        refine g_exit ?_
        exact ⟨_, (), some_eq hj1, trivial, trivial, [], rfl⟩
    · rintro _ _ hst
      subst hst
      replace hm1 := on_go hm1
      refine k_norm (L' := []) (ms' := []) rfl rfl ?_
      refine g_seq ?_
      refine g_region ?_
      obtain ⟨x10, hx7, hm1⟩ := bind_some hm1
      refine go_p rfl rfl rfl (o_call0 Try.call60 rfl (w_syntagmalaw04_works hx7)) ?_
      refine go_p rfl rfl rfl (o_assign rfl) ?_
      refine go_nil ?_
      refine g_ret ?_
      exact retK (ret_one' rfl (ret_tmp rfl) (perm_drop _)) (congrArg (fun (p : Bool) => (.bool p : D)) (some_eq hm1))

end Go.Proofs.Ytfcifodaohhcbaa
