/- Part 8 of the proof: a program logic, what the functions compute, and what these answer; no condition. -/
import Derived.Test.YtkfnogdccpcmhaaGreatDoorp7
set_option linter.unusedVariables false
set_option linter.unusedSimpArgs false
set_option maxRecDepth 100000
set_option maxHeartbeats 2000000
namespace Go.Proofs.YtkfnogdccpcmhaaGreatDoor
open Go.V Tryz
theorem w_rb_heads {t1 : ApiType} {kind1 : Int} {l1 : (List Int)} {r1 : (List Int)} {r_1 : (List RSeq)} {r_2 : Bool} (hm : m_rb_heads t1 kind1 l1 r1 = some (r_1, r_2)) : Fn0 Tryz.prog 105 [ApiType.d t1, .i64 kind1, .list 1 D.i64 l1, .list 1 D.i64 r1] (.tup [.list 2 RSeq.d r_1, .bool r_2]) := by
 unfold m_rb_heads at hm;refine fn_intro func105 rfl ntmps105 rfl fun H0 fr w0 => ?_;refine g_seq (gRg ?_);refine go_p rfl rfl rfl (o_box rfl rfl) ?_;refine go_p rfl rfl rfl (oAs rfl) ?_;refine go_conv (nilE (i := 8) (sz := 2) (f := RSeq.d) rfl).refines ?_;refine go_p rfl rfl rfl (oAs rfl) ?_;refine gNl (g_seq (g_seq (gRg ?_)));refine go_p rfl rfl rfl (oMv rfl) ?_;refine go_p rfl rfl rfl (o_cmp rfl rfl rfl) ?_;refine go_p rfl rfl rfl (oMv rfl) ?_
 apply go_and [(1, _), (2, _), (3, _), (4, _)] 4 25 (t := 21) ⟨rfl, rfl, rfl, rfl, trivial⟩ rfl
 ·intro hg_1 hk1
  refine gWp rfl rfl rfl hg_1 rfl rfl (oMv rfl) ?_;refine gWp rfl rfl rfl hg_1 rfl rfl (o_len runUnderlying25 rfl) ?_;refine gWp rfl rfl rfl hg_1 rfl rfl (o_cmp rfl rfl rfl) ?_;refine go_p rfl rfl rfl (o_pickT rfl hg_1 rfl) ?_;exact gMt hk1 (rfl) ⟨rfl, rfl, rfl, rfl, trivial⟩
 ·intro hg_1 hk1
  refine gKp rfl rfl rfl hg_1 rfl rfl ?_;refine gKp rfl rfl rfl hg_1 rfl rfl ?_;refine gKp rfl rfl rfl hg_1 rfl rfl ?_;refine go_p rfl rfl rfl (o_pickF rfl hg_1 rfl) ?_;exact gMt hk1 (rfl) ⟨rfl, rfl, rfl, rfl, trivial⟩
 refine gNl ?_;refine gCd rfl (fun hc1 => ?_) (fun hc1 => ?_)
 ·replace hm := cond_t hc1 hm
  refine g_seq (gRg ?_);refine go_p rfl rfl rfl (oAs rfl) ?_;refine go_conv (nilE (i := 8) (sz := 2) (f := RSeq.d) rfl).refines ?_;refine go_p rfl rfl rfl (oAs rfl) ?_;refine gNl (g_ret ?_);exact retK (ret_many (ds := [_, _]) rfl (by decide) ⟨ret_tmp rfl, ⟨ret_tmp rfl, rfl⟩⟩ (perm_drop _)) (congrArg (fun (p : ((List RSeq) × Bool)) => D.tup [.list 2 RSeq.d p.1, .bool p.2]) (some_eq hm))
 ·replace hm := cond_f hc1 hm
  refine gSp (g_seq (gRg ?_));refine go_op rfl rfl rfl (o_buildSlice_row (xs := []) (f := RSeq.d) (l := []) runUnderlying81 sizeOf80 zeroValue80 rfl rfl rfl (fun _ => ⟨rfl, rfl, rfl⟩) rfl (by simp [maxLen])) ?_;rintro _ _ ⟨a_r1, rfl, rfl⟩;refine go_p rfl rfl rfl (oAs rfl) ?_;refine gNl (g_seq (g_seq (gRg ?_)));refine go_p rfl rfl rfl (oMv rfl) ?_;refine go_p rfl rfl rfl (o_cmp rfl rfl rfl) ?_;refine gNl ?_;refine gCd rfl (fun hc2 => ?_) (fun hc2 => ?_)
  ·replace hm := cond_t hc2 hm
   refine g_seq (gRg ?_);refine go_p rfl rfl rfl (o_build (zs := [.v (.slice none 0 0), .v (.slice none 0 0)]) runUnderlying80 zeroValue80 (pl_80 _ runUnderlying80) rfl rfl rfl rfl) ?_;refine go_p rfl rfl rfl (o_build (zs := [.v (.slice none 0 0), .v (.slice none 0 0)]) runUnderlying80 zeroValue80 (pl_80 _ runUnderlying80) rfl rfl rfl rfl) ?_;refine go_op rfl rfl rfl (o_alloc_own zeroValue80 (cs := [.list 1 D.i64 [], .list 1 D.i64 []]) rfl) ?_;rintro _ _ ⟨b1, rfl, rfl⟩;refine go_op rfl rfl rfl (o_alloc_own zeroValue80 (cs := [.list 1 D.i64 [], .list 1 D.i64 []]) rfl) ?_;rintro _ _ ⟨b2, rfl, rfl⟩;refine go_u rfl rfl (oSb 1 sizeOf80 rfl rfl rfl rfl rfl rfl rfl rfl (Nat.le_of_ble_eq_true rfl)) ?_;rintro _ _ rfl;refine go_conv (refines_newrow (T := 3) (sz := 1) (f := D.i64)) ?_;refine go_conv (refines_newrow (T := 3) (sz := 1) (f := D.i64)) ?_;refine go_ms (ms' := [_, _, box b2 80 [_, _], box b1 80 [_, _], _]) rfl ?_;refine go_u rfl rfl (oSb 2 sizeOf80 rfl rfl rfl rfl rfl rfl rfl rfl (Nat.le_of_ble_eq_true rfl)) ?_;rintro _ _ rfl;refine go_conv (refines_newrow (T := 3) (sz := 1) (f := D.i64)) ?_;refine go_conv (refines_newrow (T := 3) (sz := 1) (f := D.i64)) ?_;refine go_ms (ms' := [_, _, _, _, box b2 80 [_, _], box b1 80 [_, _], _]) rfl ?_;refine gNl (g_seq (g_seq (gRg ?_)));refine go_p rfl rfl rfl (oAs rfl) ?_;refine gNl ?_;obtain ⟨o_1, hj1, hm1⟩ := bind_some hm;refine g_cut_m [(3, _), (4, _), (11, _), (12, _)] [(6, _)] (fun (st : ((List Int) × (List Int) × (List Int) × (List Int))) (hid : (Option Addr × Nat) × (Option Addr × Nat) × (Option Addr × Nat) × (Option Addr × Nat)) => match st, hid with | (l2, l3, l4, l5), ((a_r5, cap_r5), (a_r4, cap_r4), (a_r3, cap_r3), (a_r2, cap_r2)) => []) (fun F (st : ((List Int) × (List Int) × (List Int) × (List Int))) (hid : (Option Addr × Nat) × (Option Addr × Nat) × (Option Addr × Nat) × (Option Addr × Nat)) => match st, hid with | (l2, l3, l4, l5), ((a_r5, cap_r5), (a_r4, cap_r4), (a_r3, cap_r3), (a_r2, cap_r2)) => [row a_r5 cap_r5 3 1 D.i64 l2, row a_r4 cap_r4 3 1 D.i64 l3, row a_r3 cap_r3 3 1 D.i64 l4, row a_r2 cap_r2 3 1 D.i64 l5, box b2 80 [.v (.slice a_r4 l3.length cap_r4), .v (.slice a_r5 l2.length cap_r5)], box b1 80 [.v (.slice a_r2 l5.length cap_r2), .v (.slice a_r3 l4.length cap_r3)], (nthF F 0)]) (fun st => st = o_1) ⟨rfl, rfl, rfl, rfl, trivial⟩ ⟨rfl, trivial⟩ ?_ ?_
   ·skip
    refine g_block ?_;refine g_loop_m [(2, _), (3, _), (4, _), (11, _), (12, _)] [(6, _)] (fun (st : (Int × (List Int) × (List Int) × (List Int) × (List Int))) (hid : (Option Addr × Nat) × (Option Addr × Nat) × (Option Addr × Nat) × (Option Addr × Nat)) => match st, hid with | (i1, l6, l7, l8, l9), ((a_r5, cap_r5), (a_r4, cap_r4), (a_r3, cap_r3), (a_r2, cap_r2)) => [(13, .i64 i1)]) (fun F (st : (Int × (List Int) × (List Int) × (List Int) × (List Int))) (hid : (Option Addr × Nat) × (Option Addr × Nat) × (Option Addr × Nat) × (Option Addr × Nat)) => match st, hid with | (i1, l6, l7, l8, l9), ((a_r5, cap_r5), (a_r4, cap_r4), (a_r3, cap_r3), (a_r2, cap_r2)) => [row a_r5 cap_r5 3 1 D.i64 l6, row a_r4 cap_r4 3 1 D.i64 l7, row a_r3 cap_r3 3 1 D.i64 l8, row a_r2 cap_r2 3 1 D.i64 l9, box b2 80 [.v (.slice a_r4 l7.length cap_r4), .v (.slice a_r5 l6.length cap_r5)], box b1 80 [.v (.slice a_r2 l9.length cap_r2), .v (.slice a_r3 l8.length cap_r3)], (nthF F 0)]) ((_, _), (_, _), (_, _), (_, _)) hj1 (fun _ => rfl) ⟨rfl, rfl, rfl, rfl, rfl, trivial⟩ ⟨rfl, trivial⟩ ⟨rfl, trivial⟩ rfl ?_;rintro n ⟨i1, l6, l7, l8, l9⟩ ⟨⟨a_r5, cap_r5⟩, ⟨a_r4, cap_r4⟩, ⟨a_r3, cap_r3⟩, ⟨a_r2, cap_r2⟩⟩ hj1;rw [m_rb_heads_l1] at hj1;refine g_norm (L' := [(13, .i64 i1), (2, _), (3, _), (4, _), (11, _), (12, _)]) (ms' := [row a_r5 cap_r5 3 1 D.i64 l6, row a_r4 cap_r4 3 1 D.i64 l7, row a_r3 cap_r3 3 1 D.i64 l8, row a_r2 cap_r2 3 1 D.i64 l9, box b2 80 [.v (.slice a_r4 l7.length cap_r4), .v (.slice a_r5 l6.length cap_r5)], box b1 80 [.v (.slice a_r2 l9.length cap_r2), .v (.slice a_r3 l8.length cap_r3)], _]) rfl rfl ?_;refine g_seq (g_seq (gRg ?_));refine go_p rfl rfl rfl (oMv rfl) ?_;refine go_p rfl rfl rfl (oMv rfl) ?_;refine go_p rfl rfl rfl (o_len runUnderlying25 rfl) ?_;refine go_p rfl rfl rfl (o_cmp rfl rfl rfl) ?_;refine gNl ?_;refine gCd rfl (fun hc3 => ?_) (fun hc3 => ?_)
    ·replace hj1 := cond_t hc3 hj1
     refine gSp (g_seq (g_block ?_));obtain ⟨x1, hx1, hj1⟩ := bind_some hj1;obtain ⟨x2, hx2, hj1⟩ := bind_some hj1;obtain ⟨hg3, hj1⟩ := grd_some hj1;obtain ⟨x3, hx4, hj1⟩ := bind_some hj1;obtain ⟨x4, hx5, hj1⟩ := bind_some hj1;obtain ⟨hg6, hj1⟩ := grd_some hj1;refine g_draw_cc 3 [12, 25, 27, 29] [13, 14, 15, 16, 17, 18, 19, 20, 21, 22, 23, 24, 26, 28] [14] (by decide +kernel) (by decide +kernel) Tryz_mixed (by decide +kernel) (by decide +kernel) rfl ?_;refine gdc_p rfl rfl rfl rfl rfl rfl (oFb fi_80_1 rfl) ?_;refine gdc_p rfl rfl rfl rfl rfl rfl (oLb 5 isAgg25 rfl rfl rfl rfl) ?_;refine gdc_p rfl rfl rfl rfl rfl rfl (oFa fi_24_0 rfl rfl rfl) ?_;refine gdc_p rfl rfl rfl rfl rfl rfl (o_load isAgg22 rfl rfl) ?_;refine gdc_p rfl rfl rfl rfl rfl rfl (oMv rfl) ?_;refine gdc_p rfl rfl rfl rfl rfl rfl (oMv rfl) ?_;refine gdc_p rfl rfl rfl rfl rfl rfl (oIm runUnderlying25 sizeOf3 rfl rfl hx1) ?_;refine gdc_p rfl rfl rfl rfl rfl rfl (o_load isAgg3 rfl rfl) ?_;refine gdc_p rfl rfl rfl rfl rfl rfl (oIm runUnderlying22 sizeOf44 rfl rfl hx2) ?_;refine gdc_p rfl rfl rfl rfl rfl rfl (oFa fi_44_1 rfl rfl rfl) ?_;refine gdc_p rfl rfl rfl rfl rfl rfl (o_load isAgg3 rfl rfl) ?_;refine gdc_p rfl rfl rfl rfl rfl rfl (o_buildSlice (xs := [_]) (f := D.i64) (l := [_]) runUnderlying25 sizeOf3 zeroValue3 rfl rfl rfl (fun _ => ⟨rfl, rfl, rfl⟩) rfl) ?_;refine gdc_e rfl ?_;refine gdc_p rfl rfl rfl rfl rfl rfl (oFb fi_80_0 rfl) ?_;refine gdc_f rfl rfl rfl rfl rfl (oLb 4 isAgg25 rfl rfl rfl rfl) ?_;refine gdc_p rfl rfl rfl rfl rfl rfl (oFa fi_24_0 rfl rfl rfl) ?_;refine gdc_p rfl rfl rfl rfl rfl rfl (o_load isAgg22 rfl rfl) ?_;refine gdc_p rfl rfl rfl rfl rfl rfl (oMv rfl) ?_;refine gdc_p rfl rfl rfl rfl rfl rfl (oMv rfl) ?_;refine gdc_p rfl rfl rfl rfl rfl rfl (oIm runUnderlying25 sizeOf3 rfl rfl hx4) ?_;refine gdc_p rfl rfl rfl rfl rfl rfl (o_load isAgg3 rfl rfl) ?_;refine gdc_p rfl rfl rfl rfl rfl rfl (oIm runUnderlying22 sizeOf44 rfl rfl hx5) ?_;refine gdc_p rfl rfl rfl rfl rfl rfl (oFa fi_44_2 rfl rfl rfl) ?_;refine gdc_p rfl rfl rfl rfl rfl rfl (o_load isAgg3 rfl rfl) ?_;refine gdc_p rfl rfl rfl rfl rfl rfl (o_buildSlice (xs := [_]) (f := D.i64) (l := [_]) runUnderlying25 sizeOf3 zeroValue3 rfl rfl rfl (fun _ => ⟨rfl, rfl, rfl⟩) rfl) ?_;refine gdc_e rfl ?_;refine gdc_p rfl rfl rfl rfl rfl rfl (oFb fi_80_1 rfl) ?_;refine gdc_e rfl ?_;refine gdc_p rfl rfl rfl rfl rfl rfl (oFb fi_80_0 rfl) ?_;refine gdc_e rfl ?_;refine gdc_nil ?_;refine gdc2_t rfl rfl rfl rfl (o_append (a := _) 2 underlying25 type3 rfl rfl rfl rfl rfl rfl rfl (fun _ => rfl) (fun _ => rfl) hg3 (app_len hg3 rfl)) ?_;rintro _ _ ⟨a_r3, cap_r3, rfl, rfl⟩;refine ⟨fun _ => ⟨trivial, oLb 4 isAgg25 rfl rfl rfl rfl⟩, ?_⟩;refine gdc2_t rfl rfl rfl rfl (o_append (a := _) 1 underlying25 type3 rfl rfl rfl rfl rfl rfl rfl (fun _ => rfl) (fun _ => rfl) hg6 (app_len hg6 rfl)) ?_
     rintro _ _ ⟨a_r4, cap_r4, rfl, rfl⟩;refine ⟨fun hc => absurd hc (by decide), ?_⟩;refine gdc2_u rfl rfl rfl (oSb 5 sizeOf25 rfl rfl rfl rfl rfl rfl rfl rfl (Nat.le_of_ble_eq_true rfl)) ?_;rintro _ _ rfl;refine ⟨fun hc => absurd hc (by decide), ?_⟩;refine gdc2_u rfl rfl rfl (oSb 4 sizeOf25 rfl rfl rfl rfl rfl rfl rfl rfl (Nat.le_of_ble_eq_true rfl)) ?_;rintro _ _ rfl;refine ⟨fun hc => absurd hc (by decide), ?_⟩;refine gdc2_nil ?_;refine gRg ?_;refine go_p rfl rfl rfl (oMv rfl) ?_;obtain ⟨hg7, hj1⟩ := grd_some hj1;refine go_p rfl rfl rfl (o_add rfl rfl (i64_id hg7)) ?_;refine go_p rfl rfl rfl (oAs rfl) ?_;refine gNl ?_;exact ⟨_, ((_, _), (_, _), (_, _), (_, _)), hj1, ⟨rfl, trivial⟩, ⟨rfl, rfl, rfl, rfl, rfl, trivial⟩, [], rfl⟩
    ·replace hj1 := cond_f hc3 hj1
     refine g_exit ?_;exact ⟨_, ((_, _), (_, _), (_, _), (_, _)), some_eq hj1, trivial, ⟨rfl, rfl, rfl, rfl, trivial⟩, [], rfl⟩
   ·rintro ⟨l2, l3, l4, l5⟩ ⟨⟨a_r5, cap_r5⟩, ⟨a_r4, cap_r4⟩, ⟨a_r3, cap_r3⟩, ⟨a_r2, cap_r2⟩⟩ hst
    subst hst;refine k_norm (L' := [(3, _), (4, _), (11, _), (12, _)]) (ms' := [row a_r5 cap_r5 3 1 D.i64 l2, row a_r4 cap_r4 3 1 D.i64 l3, row a_r3 cap_r3 3 1 D.i64 l4, row a_r2 cap_r2 3 1 D.i64 l5, box b2 80 [.v (.slice a_r4 l3.length cap_r4), .v (.slice a_r5 l2.length cap_r5)], box b1 80 [.v (.slice a_r2 l5.length cap_r2), .v (.slice a_r3 l4.length cap_r3)], _]) rfl rfl ?_;refine g_seq (g_seq (gRg ?_));refine go_p rfl rfl rfl (oAs rfl) ?_;refine gNl ?_;obtain ⟨o_2, hj2, hm2⟩ := bind_some hm1;refine g_cut_m [(11, _), (12, _)] [(6, _)] (fun (st : ((List Int) × (List Int) × (List Int) × (List Int))) (hid : (Option Addr × Nat) × (Option Addr × Nat) × (Option Addr × Nat) × (Option Addr × Nat)) => match st, hid with | (l10, l11, l12, l13), ((a_r5, cap_r5), (a_r4, cap_r4), (a_r3, cap_r3), (a_r2, cap_r2)) => []) (fun F (st : ((List Int) × (List Int) × (List Int) × (List Int))) (hid : (Option Addr × Nat) × (Option Addr × Nat) × (Option Addr × Nat) × (Option Addr × Nat)) => match st, hid with | (l10, l11, l12, l13), ((a_r5, cap_r5), (a_r4, cap_r4), (a_r3, cap_r3), (a_r2, cap_r2)) => [row a_r5 cap_r5 3 1 D.i64 l10, row a_r4 cap_r4 3 1 D.i64 l11, row a_r3 cap_r3 3 1 D.i64 l12, row a_r2 cap_r2 3 1 D.i64 l13, box b2 80 [.v (.slice a_r4 l11.length cap_r4), .v (.slice a_r5 l10.length cap_r5)], box b1 80 [.v (.slice a_r2 l13.length cap_r2), .v (.slice a_r3 l12.length cap_r3)], (nthF F 0)]) (fun st => st = o_2) ⟨rfl, rfl, trivial⟩ ⟨rfl, trivial⟩ ?_ ?_
    ·skip
     refine g_block ?_;refine g_loop_m [(3, _), (4, _), (11, _), (12, _)] [(6, _)] (fun (st : (Int × (List Int) × (List Int) × (List Int) × (List Int))) (hid : (Option Addr × Nat) × (Option Addr × Nat) × (Option Addr × Nat) × (Option Addr × Nat)) => match st, hid with | (i2, l14, l15, l16, l17), ((a_r5, cap_r5), (a_r4, cap_r4), (a_r3, cap_r3), (a_r2, cap_r2)) => [(14, .i64 i2)]) (fun F (st : (Int × (List Int) × (List Int) × (List Int) × (List Int))) (hid : (Option Addr × Nat) × (Option Addr × Nat) × (Option Addr × Nat) × (Option Addr × Nat)) => match st, hid with | (i2, l14, l15, l16, l17), ((a_r5, cap_r5), (a_r4, cap_r4), (a_r3, cap_r3), (a_r2, cap_r2)) => [row a_r5 cap_r5 3 1 D.i64 l14, row a_r4 cap_r4 3 1 D.i64 l15, row a_r3 cap_r3 3 1 D.i64 l16, row a_r2 cap_r2 3 1 D.i64 l17, box b2 80 [.v (.slice a_r4 l15.length cap_r4), .v (.slice a_r5 l14.length cap_r5)], box b1 80 [.v (.slice a_r2 l17.length cap_r2), .v (.slice a_r3 l16.length cap_r3)], (nthF F 0)]) ((_, _), (_, _), (_, _), (_, _)) hj2 (fun _ => rfl) ⟨rfl, rfl, rfl, rfl, trivial⟩ ⟨rfl, trivial⟩ ⟨rfl, trivial⟩ rfl ?_;rintro n ⟨i2, l14, l15, l16, l17⟩ ⟨⟨a_r5, cap_r5⟩, ⟨a_r4, cap_r4⟩, ⟨a_r3, cap_r3⟩, ⟨a_r2, cap_r2⟩⟩ hj2;rw [m_rb_heads_l2] at hj2;refine g_norm (L' := [(14, .i64 i2), (3, _), (4, _), (11, _), (12, _)]) (ms' := [row a_r5 cap_r5 3 1 D.i64 l14, row a_r4 cap_r4 3 1 D.i64 l15, row a_r3 cap_r3 3 1 D.i64 l16, row a_r2 cap_r2 3 1 D.i64 l17, box b2 80 [.v (.slice a_r4 l15.length cap_r4), .v (.slice a_r5 l14.length cap_r5)], box b1 80 [.v (.slice a_r2 l17.length cap_r2), .v (.slice a_r3 l16.length cap_r3)], _]) rfl rfl ?_;refine g_seq (g_seq (gRg ?_));refine go_p rfl rfl rfl (oMv rfl) ?_;refine go_p rfl rfl rfl (oMv rfl) ?_;refine go_p rfl rfl rfl (o_len runUnderlying25 rfl) ?_;refine go_p rfl rfl rfl (o_cmp rfl rfl rfl) ?_;refine gNl ?_;refine gCd rfl (fun hc4 => ?_) (fun hc4 => ?_)
     ·replace hj2 := cond_t hc4 hj2
      refine gSp (g_seq (g_block ?_));obtain ⟨x5, hx8, hj2⟩ := bind_some hj2;obtain ⟨x6, hx9, hj2⟩ := bind_some hj2;obtain ⟨hg10, hj2⟩ := grd_some hj2;obtain ⟨x7, hx11, hj2⟩ := bind_some hj2;obtain ⟨x8, hx12, hj2⟩ := bind_some hj2;obtain ⟨hg13, hj2⟩ := grd_some hj2;refine g_draw_cc 3 [12, 25, 27, 29] [13, 14, 15, 16, 17, 18, 19, 20, 21, 22, 23, 24, 26, 28] [14] (by decide +kernel) (by decide +kernel) Tryz_mixed (by decide +kernel) (by decide +kernel) rfl ?_;refine gdc_p rfl rfl rfl rfl rfl rfl (oFb fi_80_0 rfl) ?_;refine gdc_p rfl rfl rfl rfl rfl rfl (oLb 5 isAgg25 rfl rfl rfl rfl) ?_;refine gdc_p rfl rfl rfl rfl rfl rfl (oFa fi_24_0 rfl rfl rfl) ?_;refine gdc_p rfl rfl rfl rfl rfl rfl (o_load isAgg22 rfl rfl) ?_;refine gdc_p rfl rfl rfl rfl rfl rfl (oMv rfl) ?_;refine gdc_p rfl rfl rfl rfl rfl rfl (oMv rfl) ?_;refine gdc_p rfl rfl rfl rfl rfl rfl (oIm runUnderlying25 sizeOf3 rfl rfl hx8) ?_;refine gdc_p rfl rfl rfl rfl rfl rfl (o_load isAgg3 rfl rfl) ?_;refine gdc_p rfl rfl rfl rfl rfl rfl (oIm runUnderlying22 sizeOf44 rfl rfl hx9) ?_;refine gdc_p rfl rfl rfl rfl rfl rfl (oFa fi_44_1 rfl rfl rfl) ?_;refine gdc_p rfl rfl rfl rfl rfl rfl (o_load isAgg3 rfl rfl) ?_;refine gdc_p rfl rfl rfl rfl rfl rfl (o_buildSlice (xs := [_]) (f := D.i64) (l := [_]) runUnderlying25 sizeOf3 zeroValue3 rfl rfl rfl (fun _ => ⟨rfl, rfl, rfl⟩) rfl) ?_;refine gdc_e rfl ?_;refine gdc_p rfl rfl rfl rfl rfl rfl (oFb fi_80_1 rfl) ?_;refine gdc_f rfl rfl rfl rfl rfl (oLb 4 isAgg25 rfl rfl rfl rfl) ?_;refine gdc_p rfl rfl rfl rfl rfl rfl (oFa fi_24_0 rfl rfl rfl) ?_;refine gdc_p rfl rfl rfl rfl rfl rfl (o_load isAgg22 rfl rfl) ?_;refine gdc_p rfl rfl rfl rfl rfl rfl (oMv rfl) ?_;refine gdc_p rfl rfl rfl rfl rfl rfl (oMv rfl) ?_;refine gdc_p rfl rfl rfl rfl rfl rfl (oIm runUnderlying25 sizeOf3 rfl rfl hx11) ?_;refine gdc_p rfl rfl rfl rfl rfl rfl (o_load isAgg3 rfl rfl) ?_;refine gdc_p rfl rfl rfl rfl rfl rfl (oIm runUnderlying22 sizeOf44 rfl rfl hx12) ?_;refine gdc_p rfl rfl rfl rfl rfl rfl (oFa fi_44_2 rfl rfl rfl) ?_;refine gdc_p rfl rfl rfl rfl rfl rfl (o_load isAgg3 rfl rfl) ?_;refine gdc_p rfl rfl rfl rfl rfl rfl (o_buildSlice (xs := [_]) (f := D.i64) (l := [_]) runUnderlying25 sizeOf3 zeroValue3 rfl rfl rfl (fun _ => ⟨rfl, rfl, rfl⟩) rfl) ?_;refine gdc_e rfl ?_;refine gdc_p rfl rfl rfl rfl rfl rfl (oFb fi_80_0 rfl) ?_;refine gdc_e rfl ?_;refine gdc_p rfl rfl rfl rfl rfl rfl (oFb fi_80_1 rfl) ?_;refine gdc_e rfl ?_;refine gdc_nil ?_;refine gdc2_t rfl rfl rfl rfl (o_append (a := _) 3 underlying25 type3 rfl rfl rfl rfl rfl rfl rfl (fun _ => rfl) (fun _ => rfl) hg10 (app_len hg10 rfl)) ?_;rintro _ _ ⟨a_r2, cap_r2, rfl, rfl⟩;refine ⟨fun _ => ⟨trivial, oLb 4 isAgg25 rfl rfl rfl rfl⟩, ?_⟩
      refine gdc2_t rfl rfl rfl rfl (o_append (a := _) 0 underlying25 type3 rfl rfl rfl rfl rfl rfl rfl (fun _ => rfl) (fun _ => rfl) hg13 (app_len hg13 rfl)) ?_;rintro _ _ ⟨a_r5, cap_r5, rfl, rfl⟩;refine ⟨fun hc => absurd hc (by decide), ?_⟩;refine gdc2_u rfl rfl rfl (oSb 5 sizeOf25 rfl rfl rfl rfl rfl rfl rfl rfl (Nat.le_of_ble_eq_true rfl)) ?_;rintro _ _ rfl;refine ⟨fun hc => absurd hc (by decide), ?_⟩;refine gdc2_u rfl rfl rfl (oSb 4 sizeOf25 rfl rfl rfl rfl rfl rfl rfl rfl (Nat.le_of_ble_eq_true rfl)) ?_;rintro _ _ rfl;refine ⟨fun hc => absurd hc (by decide), ?_⟩;refine gdc2_nil ?_;refine gRg ?_;refine go_p rfl rfl rfl (oMv rfl) ?_;obtain ⟨hg14, hj2⟩ := grd_some hj2;refine go_p rfl rfl rfl (o_add rfl rfl (i64_id hg14)) ?_;refine go_p rfl rfl rfl (oAs rfl) ?_;refine gNl ?_;exact ⟨_, ((_, _), (_, _), (_, _), (_, _)), hj2, ⟨rfl, trivial⟩, ⟨rfl, rfl, rfl, rfl, trivial⟩, [], rfl⟩
     ·replace hj2 := cond_f hc4 hj2
      refine g_exit ?_;exact ⟨_, ((_, _), (_, _), (_, _), (_, _)), some_eq hj2, trivial, ⟨rfl, rfl, trivial⟩, [], rfl⟩
    ·rintro ⟨l10, l11, l12, l13⟩ ⟨⟨a_r5, cap_r5⟩, ⟨a_r4, cap_r4⟩, ⟨a_r3, cap_r3⟩, ⟨a_r2, cap_r2⟩⟩ hst
     subst hst;refine k_norm (L' := [(11, _), (12, _)]) (ms' := [row a_r5 cap_r5 3 1 D.i64 l10, row a_r4 cap_r4 3 1 D.i64 l11, row a_r3 cap_r3 3 1 D.i64 l12, row a_r2 cap_r2 3 1 D.i64 l13, box b2 80 [.v (.slice a_r4 l11.length cap_r4), .v (.slice a_r5 l10.length cap_r5)], box b1 80 [.v (.slice a_r2 l13.length cap_r2), .v (.slice a_r3 l12.length cap_r3)], _]) rfl rfl ?_;refine g_seq ?_;obtain ⟨x9, hx15, hm2⟩ := bind_some hm2;obtain ⟨x10, hx16, hm2⟩ := bind_some hm2;obtain ⟨x11, hx17, hm2⟩ := bind_some hm2;obtain ⟨x12, hx18, hm2⟩ := bind_some hm2;refine g_draw 17 Tryz_mixed (by decide +kernel) ?_;refine gd_p rfl rfl rfl (oFb fi_80_0 rfl) ?_;refine gd_p rfl rfl rfl (oLb 5 isAgg25 rfl rfl rfl rfl) ?_;refine gd_p rfl rfl rfl (.view (peekE (i := 100) 3 rfl rfl rfl) (o_call0 call61 rfl (w_rb_Set hx15))) ?_;refine gd_p rfl rfl rfl (oFb fi_80_1 rfl) ?_;refine gd_p rfl rfl rfl (oLb 5 isAgg25 rfl rfl rfl rfl) ?_;refine gd_p rfl rfl rfl (.view (peekE (i := 103) 2 rfl rfl rfl) (o_call0 call61 rfl (w_rb_Set hx16))) ?_;refine gd_p rfl rfl rfl (o_build (zs := [.list 1 D.i64 [], .list 1 D.i64 []]) runUnderlying80 zeroValue80 (pl_80 _ runUnderlying80) rfl rfl rfl rfl) ?_;refine gd_p rfl rfl rfl (oFb fi_80_0 rfl) ?_;refine gd_p rfl rfl rfl (oLb 4 isAgg25 rfl rfl rfl rfl) ?_;refine gd_p rfl rfl rfl (.view (peekE (i := 107) 1 rfl rfl rfl) (o_call0 call61 rfl (w_rb_Set hx17))) ?_;refine gd_p rfl rfl rfl (oFb fi_80_1 rfl) ?_;refine gd_p rfl rfl rfl (oLb 4 isAgg25 rfl rfl rfl rfl) ?_;refine gd_p rfl rfl rfl (.view (peekE (i := 110) 0 rfl rfl rfl) (o_call0 call61 rfl (w_rb_Set hx18))) ?_;refine gd_p rfl rfl rfl (o_build (zs := [.list 1 D.i64 [], .list 1 D.i64 []]) runUnderlying80 zeroValue80 (pl_80 _ runUnderlying80) rfl rfl rfl rfl) ?_;refine gd_p rfl rfl rfl (o_buildSlice (xs := [_, _]) (f := RSeq.d) (l := [(⟨x9, x10⟩ : RSeq), (⟨x11, x12⟩ : RSeq)]) runUnderlying81 sizeOf80 zeroValue80 rfl rfl rfl (fun _ => ⟨rfl, rfl, rfl⟩) rfl) ?_;refine gd_p rfl rfl rfl (oAs rfl) ?_;refine gd_p rfl rfl rfl (oAs rfl) ?_;refine gd_nil ?_;refine gNl (g_ret ?_);exact retK (ret_many (ds := [_, _]) rfl (by decide) ⟨ret_tmp rfl, ⟨ret_tmp rfl, rfl⟩⟩ (perm_drop _)) (congrArg (fun (p : ((List RSeq) × Bool)) => D.tup [.list 2 RSeq.d p.1, .bool p.2]) (some_eq hm2))
  ·replace hm := cond_f hc2 hm
   refine gSp (g_seq (gRg ?_));refine go_p rfl rfl rfl (o_buildSlice (xs := []) (f := D.str) (l := []) runUnderlying65 sizeOf9 zeroValue9 rfl rfl rfl (fun _ => ⟨rfl, rfl, rfl⟩) rfl) ?_;refine go_p rfl rfl rfl (oAs rfl) ?_;refine gNl (g_seq (g_seq (gRg ?_)));refine go_p rfl rfl rfl (oMv rfl) ?_;refine go_p rfl rfl rfl (o_cmp rfl rfl rfl) ?_;refine gNl ?_;obtain ⟨o_3, hj3, hm3⟩ := bind_some hm;refine g_cut_m [(1, _), (2, _), (3, _), (4, _), (10, _)] [(0, _)] (fun (st : (List (List UInt8))) (hid : Unit) => match st, hid with | all1, _ => [(15, .list 1 D.str all1)]) (fun F (st : (List (List UInt8))) (hid : Unit) => match st, hid with | all1, _ => [(nthF F 0)]) (fun st => st = o_3) ⟨rfl, rfl, rfl, rfl, rfl, trivial⟩ ⟨rfl, trivial⟩ ?_ ?_
   ·skip
    refine gCd rfl (fun hc5 => ?_) (fun hc5 => ?_)
    ·replace hj3 := cond_t hc5 hj3
     refine gRg ?_;refine go_p rfl rfl rfl (o_load_agg isAgg24 sizeOf24 rfl rfl) ?_;refine go_p rfl rfl rfl (oMv rfl) ?_;obtain ⟨x13, hx19, hj3⟩ := bind_some hj3;refine go_p rfl rfl rfl (o_call0 call136 rfl (w_rb_names hx19)) ?_;refine go_p rfl rfl rfl (oAs rfl) ?_;refine gNl ?_;exact ⟨_, (), some_eq hj3, ⟨rfl, trivial⟩, ⟨rfl, rfl, rfl, rfl, rfl, trivial⟩, [], rfl⟩
    ·replace hj3 := cond_f hc5 hj3
     refine gSp ?_;exact ⟨_, (), some_eq hj3, ⟨rfl, trivial⟩, ⟨rfl, rfl, rfl, rfl, rfl, trivial⟩, [], rfl⟩
   ·rintro all1 _ hst
    subst hst;refine k_norm (L' := [(15, .list 1 D.str all1), (1, _), (2, _), (3, _), (4, _), (10, _)]) (ms' := [_]) rfl rfl ?_;refine g_seq (g_seq (gRg ?_));refine go_p rfl rfl rfl (oMv rfl) ?_;refine go_p rfl rfl rfl (o_cmp rfl rfl rfl) ?_;refine gNl ?_;obtain ⟨o_4, hj4, hm4⟩ := bind_some hm3;refine g_cut_m [(2, _), (3, _), (4, _), (10, _)] [(0, _)] (fun (st : (List (List UInt8))) (hid : Unit) => match st, hid with | all2, _ => [(15, .list 1 D.str all2)]) (fun F (st : (List (List UInt8))) (hid : Unit) => match st, hid with | all2, _ => [(nthF F 0)]) (fun st => st = o_4) ⟨rfl, rfl, rfl, rfl, trivial⟩ ⟨rfl, trivial⟩ ?_ ?_
    ·skip
     refine gCd rfl (fun hc6 => ?_) (fun hc6 => ?_)
     ·replace hj4 := cond_t hc6 hj4
      refine gRg ?_;refine go_p rfl rfl rfl (o_load_agg isAgg24 sizeOf24 rfl rfl) ?_;refine go_p rfl rfl rfl (oMv rfl) ?_;obtain ⟨x14, hx20, hj4⟩ := bind_some hj4;refine go_p rfl rfl rfl (o_call0 call136 rfl (w_rb_names hx20)) ?_;refine go_p rfl rfl rfl (oAs rfl) ?_;refine gNl ?_;exact ⟨_, (), some_eq hj4, ⟨rfl, trivial⟩, ⟨rfl, rfl, rfl, rfl, trivial⟩, [], rfl⟩
     ·replace hj4 := cond_f hc6 hj4
      refine gSp ?_;exact ⟨_, (), some_eq hj4, ⟨rfl, trivial⟩, ⟨rfl, rfl, rfl, rfl, trivial⟩, [], rfl⟩
    ·rintro all2 _ hst
     subst hst;refine k_norm (L' := [(15, .list 1 D.str all2), (2, _), (3, _), (4, _), (10, _)]) (ms' := [_]) rfl rfl ?_;refine g_seq (g_seq (gRg ?_));refine go_p rfl rfl rfl (oAs rfl) ?_;refine gNl ?_;obtain ⟨o_5, hj5, hm5⟩ := bind_some hm4;refine g_cut_m [] [] (fun (st : (List RSeq)) (hid : (Option Addr × Nat)) => match st, hid with | l18, (a_r1, cap_r1) => [(10, .v (.slice a_r1 l18.length cap_r1))]) (fun F (st : (List RSeq)) (hid : (Option Addr × Nat)) => match st, hid with | l18, (a_r1, cap_r1) => [row a_r1 cap_r1 80 2 RSeq.d l18]) (fun st => Out.go (st) = o_5) trivial trivial ?_ ?_
     ·skip
      refine g_block ?_;refine g_loop_m [(2, _), (3, _), (4, _), (15, _)] [] (fun (st : (Int × (List RSeq))) (hid : (Option Addr × Nat)) => match st, hid with | (i3, l19), (a_r1, cap_r1) => [(10, .v (.slice a_r1 l19.length cap_r1)), (16, .i64 i3)]) (fun F (st : (Int × (List RSeq))) (hid : (Option Addr × Nat)) => match st, hid with | (i3, l19), (a_r1, cap_r1) => [row a_r1 cap_r1 80 2 RSeq.d l19]) (_, _) hj5 (fun _ => rfl) ⟨rfl, rfl, rfl, rfl, trivial⟩ trivial ⟨rfl, rfl, trivial⟩ rfl ?_;rintro n ⟨i3, l19⟩ ⟨a_r1, cap_r1⟩ hj5;rw [m_rb_heads_l3] at hj5;refine g_norm (L' := [(10, .v (.slice a_r1 l19.length cap_r1)), (16, .i64 i3), (2, _), (3, _), (4, _), (15, _)]) (ms' := [row a_r1 cap_r1 80 2 RSeq.d l19]) rfl rfl ?_;refine g_seq (g_seq (gRg ?_));refine go_p rfl rfl rfl (oMv rfl) ?_;refine go_p rfl rfl rfl (oMv rfl) ?_;refine go_p rfl rfl rfl (o_len runUnderlying65 rfl) ?_;refine go_p rfl rfl rfl (o_cmp rfl rfl rfl) ?_;refine gNl ?_;refine gCd rfl (fun hc7 => ?_) (fun hc7 => ?_)
      ·replace hj5 := cond_t hc7 hj5
       refine gSp (g_seq (g_block (g_seq ?_)));obtain ⟨x15, hx21, hj5⟩ := bind_some hj5;obtain ⟨x16, hx22, hj5⟩ := bind_some hj5;obtain ⟨x17, hx23, hj5⟩ := bind_some hj5;obtain ⟨x18, hx24, hj5⟩ := bind_some hj5;refine g_draw 16 Tryz_mixed (by decide +kernel) ?_;refine gd_p rfl rfl rfl (o_load_agg isAgg24 sizeOf24 rfl rfl) ?_;refine gd_p rfl rfl rfl (oMv rfl) ?_;refine gd_p rfl rfl rfl (oMv rfl) ?_;refine gd_p rfl rfl rfl (oMv rfl) ?_;refine gd_p rfl rfl rfl (oIm runUnderlying65 sizeOf9 rfl rfl hx21) ?_;refine gd_p rfl rfl rfl (o_load isAgg9 rfl rfl) ?_;refine gd_p rfl rfl rfl (o_call0 call137 rfl (w_rb_parts hx22)) ?_;refine gd_p rfl rfl rfl (o_load_agg isAgg24 sizeOf24 rfl rfl) ?_;refine gd_p rfl rfl rfl (oMv rfl) ?_;refine gd_p rfl rfl rfl (oMv rfl) ?_;refine gd_p rfl rfl rfl (oMv rfl) ?_;refine gd_p rfl rfl rfl (oIm runUnderlying65 sizeOf9 rfl rfl hx23) ?_;refine gd_p rfl rfl rfl (o_load isAgg9 rfl rfl) ?_;refine gd_p rfl rfl rfl (o_call0 call137 rfl (w_rb_parts hx24)) ?_;refine gd_p rfl rfl rfl (oAs rfl) ?_;refine gd_p rfl rfl rfl (oAs rfl) ?_;refine gd_nil ?_;refine gNl (g_seq (g_seq (gRg ?_)));refine go_p rfl rfl rfl (oMv rfl) ?_;refine go_p rfl rfl rfl (o_len runUnderlying25 rfl) ?_;refine go_p rfl rfl rfl (o_cmp rfl rfl rfl) ?_;refine go_p rfl rfl rfl (oMv rfl) ?_
       apply go_or [(2, _), (3, _), (4, _), (10, _), (15, _), (16, _), (17, _), (18, _)] 4 152 (t := 148) ⟨rfl, rfl, rfl, rfl, rfl, rfl, rfl, rfl, trivial⟩ rfl
       ·intro hg_2 hk2
        refine gWp rfl rfl rfl hg_2 rfl rfl (oMv rfl) ?_;refine gWp rfl rfl rfl hg_2 rfl rfl (o_len runUnderlying25 rfl) ?_;refine gWp rfl rfl rfl hg_2 rfl rfl (o_cmp rfl rfl rfl) ?_;refine go_p rfl rfl rfl (o_pickF rfl hg_2 rfl) ?_;exact gMt hk2 (rfl) ⟨rfl, rfl, rfl, rfl, rfl, rfl, rfl, rfl, trivial⟩
       ·intro hg_2 hk2
        refine gKp rfl rfl rfl hg_2 rfl rfl ?_;refine gKp rfl rfl rfl hg_2 rfl rfl ?_;refine gKp rfl rfl rfl hg_2 rfl rfl ?_;refine go_p rfl rfl rfl (o_pickT rfl hg_2 rfl) ?_;exact gMt hk2 (rfl) ⟨rfl, rfl, rfl, rfl, rfl, rfl, rfl, rfl, trivial⟩
       refine gNl ?_;refine gCd rfl (fun hc8 => ?_) (fun hc8 => ?_)
       ·replace hj5 := cond_t hc8 hj5
        refine g_seq (gRg ?_);refine go_p rfl rfl rfl (oAs rfl) ?_;refine go_conv (nilE (i := 8) (sz := 2) (f := RSeq.d) rfl).refines ?_;refine go_p rfl rfl rfl (oAs rfl) ?_;refine gNl (g_ret ?_);obtain rfl := some_eq hj5
        replace hm5 := on_ret hm5
        exact retK (ret_many (ds := [_, _]) rfl (by decide) ⟨ret_tmp rfl, ⟨ret_tmp rfl, rfl⟩⟩ (perm_drop _)) (congrArg (fun (p : ((List RSeq) × Bool)) => D.tup [.list 2 RSeq.d p.1, .bool p.2]) (some_eq hm5))
       ·replace hj5 := cond_f hc8 hj5
        refine gSp (gRg ?_);refine go_p rfl rfl rfl (oMv rfl) ?_;refine go_p rfl rfl rfl (oMv rfl) ?_;refine go_p rfl rfl rfl (oMv rfl) ?_;refine go_p rfl rfl rfl (o_build (zs := [.list 1 D.i64 [], .list 1 D.i64 []]) runUnderlying80 zeroValue80 (pl_80 _ runUnderlying80) rfl rfl rfl rfl) ?_;refine go_p rfl rfl rfl (o_buildSlice (xs := [_]) (f := RSeq.d) (l := [(⟨x16, x18⟩ : RSeq)]) runUnderlying81 sizeOf80 zeroValue80 rfl rfl rfl (fun _ => ⟨rfl, rfl, rfl⟩) rfl) ?_;obtain ⟨hg25, hj5⟩ := grd_some hj5;refine go_op rfl rfl rfl (o_append (a := _) 0 underlying81 type80 rfl rfl rfl rfl rfl rfl rfl (fun _ => rfl) (fun _ => rfl) hg25 (app_len hg25 rfl)) ?_;rintro _ _ ⟨a_r1, cap_r1, rfl, rfl⟩;refine go_ms (ms' := [_]) rfl ?_;refine go_p rfl rfl rfl (oAs rfl) ?_;refine gNl (gRg ?_);refine go_p rfl rfl rfl (oMv rfl) ?_;obtain ⟨hg26, hj5⟩ := grd_some hj5;refine go_p rfl rfl rfl (o_add rfl rfl (i64_id hg26)) ?_;refine go_p rfl rfl rfl (oAs rfl) ?_;refine gNl ?_;exact ⟨_, (_, _), hj5, ⟨rfl, rfl, trivial⟩, ⟨rfl, rfl, rfl, rfl, trivial⟩, [], rfl⟩
      ·replace hj5 := cond_f hc7 hj5
       refine g_exit ?_;exact ⟨_, (_, _), some_eq hj5, ⟨rfl, trivial⟩, trivial, [], rfl⟩
     ·rintro l18 ⟨a_r1, cap_r1⟩ hst
      subst hst
      replace hm5 := on_go hm5
      refine k_norm (L' := [(10, .v (.slice a_r1 l18.length cap_r1))]) (ms' := [row a_r1 cap_r1 80 2 RSeq.d l18]) rfl rfl ?_;refine g_seq (gRg ?_);refine go_p rfl rfl rfl (oMv rfl) ?_;refine go_p rfl rfl rfl (oAs rfl) ?_;refine go_p rfl rfl rfl (oAs rfl) ?_;refine gNl ?_;refine g_conv (peekE (i := 8) 0 rfl rfl rfl).refines ?_;refine g_ret ?_;exact retK (ret_many (ds := [_, _]) rfl (by decide) ⟨ret_tmp rfl, ⟨ret_tmp rfl, rfl⟩⟩ (perm_drop _)) (congrArg (fun (p : ((List RSeq) × Bool)) => D.tup [.list 2 RSeq.d p.1, .bool p.2]) (some_eq hm5))
noncomputable def m_rb_of_l1 (t1 : ApiType) (l1 : (List Int)) (kind1 : Int) : Nat -> (Int × (List Int)) -> Option (List Int)
 | 0, _ => none
 | n + 1, (i1, l3) =>
  bif (decide (i1 < (l1.length : Int))) then
   (idx l1 i1).bind fun x1 =>
   (idx t1.l x1).bind fun x2 =>
   bif (decide (x2.kind = kind1)) then
    (idx l1 i1).bind fun x3 =>
    grd ((l3.length + ([x3] : List _).length) * 8 <= 140737488355328) <|
    grd (InR (i1 + 1)) <|
    m_rb_of_l1 t1 l1 kind1 n ((i1 + 1), (l3 ++ [x3]))
   else
    grd (InR (i1 + 1)) <|
    m_rb_of_l1 t1 l1 kind1 n ((i1 + 1), l3)
  else
   some l3
noncomputable def m_rb_of (t1 : ApiType) (l1 : (List Int)) (kind1 : Int) : Option (List Int) :=
 (m_rb_of_l1 t1 l1 kind1 FU (0, []) : Option (List Int)).bind fun l2 =>
 some l2
theorem w_rb_of {t1 : ApiType} {l1 : (List Int)} {kind1 : Int} {r_1 : (List Int)} (hm : m_rb_of t1 l1 kind1 = some r_1) : Fn0 Tryz.prog 106 [ApiType.d t1, .list 1 D.i64 l1, .i64 kind1] (.list 1 D.i64 r_1) := by
 unfold m_rb_of at hm;refine fn_intro func106 rfl ntmps106 rfl fun H0 fr w0 => ?_;refine g_seq (gRg ?_);refine go_p rfl rfl rfl (o_box rfl rfl) ?_;refine go_p rfl rfl rfl (oAs rfl) ?_;refine go_conv (nilE (i := 6) (sz := 1) (f := D.i64) rfl).refines ?_;refine gNl (g_seq (gRg ?_));refine go_op rfl rfl rfl (o_buildSlice_row (xs := []) (f := D.i64) (l := []) runUnderlying25 sizeOf3 zeroValue3 rfl rfl rfl (fun _ => ⟨rfl, rfl, rfl⟩) rfl (by simp [maxLen])) ?_;rintro _ _ ⟨a_r1, rfl, rfl⟩;refine go_p rfl rfl rfl (oAs rfl) ?_;refine gNl (g_seq (g_seq (gRg ?_)));refine go_p rfl rfl rfl (oAs rfl) ?_;refine gNl ?_;obtain ⟨o_1, hj1, hm1⟩ := bind_some hm;refine g_cut_m [] [] (fun (st : (List Int)) (hid : (Option Addr × Nat)) => match st, hid with | l2, (a_r1, cap_r1) => [(7, .v (.slice a_r1 l2.length cap_r1))]) (fun F (st : (List Int)) (hid : (Option Addr × Nat)) => match st, hid with | l2, (a_r1, cap_r1) => [row a_r1 cap_r1 3 1 D.i64 l2]) (fun st => st = o_1) trivial trivial ?_ ?_
 ·skip
  refine g_block ?_;refine g_loop_m [(1, _), (2, _), (3, _)] [] (fun (st : (Int × (List Int))) (hid : (Option Addr × Nat)) => match st, hid with | (i1, l3), (a_r1, cap_r1) => [(7, .v (.slice a_r1 l3.length cap_r1)), (8, .i64 i1)]) (fun F (st : (Int × (List Int))) (hid : (Option Addr × Nat)) => match st, hid with | (i1, l3), (a_r1, cap_r1) => [row a_r1 cap_r1 3 1 D.i64 l3]) (_, _) hj1 (fun _ => rfl) ⟨rfl, rfl, rfl, trivial⟩ trivial ⟨rfl, rfl, trivial⟩ rfl ?_;rintro n ⟨i1, l3⟩ ⟨a_r1, cap_r1⟩ hj1;rw [m_rb_of_l1] at hj1;refine g_norm (L' := [(7, .v (.slice a_r1 l3.length cap_r1)), (8, .i64 i1), (1, _), (2, _), (3, _)]) (ms' := [row a_r1 cap_r1 3 1 D.i64 l3]) rfl rfl ?_;refine g_seq (g_seq (gRg ?_));refine go_p rfl rfl rfl (oMv rfl) ?_;refine go_p rfl rfl rfl (oMv rfl) ?_;refine go_p rfl rfl rfl (o_len runUnderlying25 rfl) ?_;refine go_p rfl rfl rfl (o_cmp rfl rfl rfl) ?_;refine gNl ?_;refine gCd rfl (fun hc1 => ?_) (fun hc1 => ?_)
  ·replace hj1 := cond_t hc1 hj1
   refine gSp (g_seq (g_block (g_seq ?_)));obtain ⟨x1, hx1, hj1⟩ := bind_some hj1;obtain ⟨x2, hx2, hj1⟩ := bind_some hj1;refine g_draw 11 Tryz_mixed (by decide +kernel) ?_;refine gd_p rfl rfl rfl (oFa fi_24_0 rfl rfl rfl) ?_;refine gd_p rfl rfl rfl (o_load isAgg22 rfl rfl) ?_;refine gd_p rfl rfl rfl (oMv rfl) ?_;refine gd_p rfl rfl rfl (oMv rfl) ?_;refine gd_p rfl rfl rfl (oIm runUnderlying25 sizeOf3 rfl rfl hx1) ?_;refine gd_p rfl rfl rfl (o_load isAgg3 rfl rfl) ?_;refine gd_p rfl rfl rfl (oIm runUnderlying22 sizeOf44 rfl rfl hx2) ?_;refine gd_p rfl rfl rfl (oFa fi_44_0 rfl rfl rfl) ?_;refine gd_p rfl rfl rfl (o_load isAgg3 rfl rfl) ?_;refine gd_p rfl rfl rfl (oMv rfl) ?_;refine gd_p rfl rfl rfl (o_cmp rfl rfl rfl) ?_;refine gd_nil ?_;refine gNl ?_;refine gCd rfl (fun hc2 => ?_) (fun hc2 => ?_)
   ·replace hj1 := cond_t hc2 hj1
    refine gRg ?_;refine go_p rfl rfl rfl (oMv rfl) ?_;refine go_p rfl rfl rfl (oMv rfl) ?_;refine go_p rfl rfl rfl (oMv rfl) ?_;obtain ⟨x3, hx3, hj1⟩ := bind_some hj1;refine go_p rfl rfl rfl (oIm runUnderlying25 sizeOf3 rfl rfl hx3) ?_;refine go_p rfl rfl rfl (o_load isAgg3 rfl rfl) ?_;refine go_p rfl rfl rfl (o_buildSlice (xs := [_]) (f := D.i64) (l := [_]) runUnderlying25 sizeOf3 zeroValue3 rfl rfl rfl (fun _ => ⟨rfl, rfl, rfl⟩) rfl) ?_;obtain ⟨hg4, hj1⟩ := grd_some hj1;refine go_op rfl rfl rfl (o_append (a := _) 0 underlying25 type3 rfl rfl rfl rfl rfl rfl rfl (fun _ => rfl) (fun _ => rfl) hg4 (app_len hg4 rfl)) ?_;rintro _ _ ⟨a_r1, cap_r1, rfl, rfl⟩;refine go_ms (ms' := [_]) rfl ?_;refine go_p rfl rfl rfl (oAs rfl) ?_;refine gNl (gRg ?_);refine go_p rfl rfl rfl (oMv rfl) ?_;obtain ⟨hg5, hj1⟩ := grd_some hj1;refine go_p rfl rfl rfl (o_add rfl rfl (i64_id hg5)) ?_;refine go_p rfl rfl rfl (oAs rfl) ?_;refine gNl ?_;exact ⟨_, (_, _), hj1, ⟨rfl, rfl, trivial⟩, ⟨rfl, rfl, rfl, trivial⟩, [], rfl⟩
   ·replace hj1 := cond_f hc2 hj1
    refine gSp (gRg ?_);refine go_p rfl rfl rfl (oMv rfl) ?_;obtain ⟨hg6, hj1⟩ := grd_some hj1;refine go_p rfl rfl rfl (o_add rfl rfl (i64_id hg6)) ?_;refine go_p rfl rfl rfl (oAs rfl) ?_;refine gNl ?_;exact ⟨_, (_, _), hj1, ⟨rfl, rfl, trivial⟩, ⟨rfl, rfl, rfl, trivial⟩, [], rfl⟩
  ·replace hj1 := cond_f hc1 hj1
   refine g_exit ?_;exact ⟨_, (_, _), some_eq hj1, ⟨rfl, trivial⟩, trivial, [], rfl⟩
 ·rintro l2 ⟨a_r1, cap_r1⟩ hst
  subst hst;refine k_norm (L' := [(7, .v (.slice a_r1 l2.length cap_r1))]) (ms' := [row a_r1 cap_r1 3 1 D.i64 l2]) rfl rfl ?_;refine g_seq (gRg ?_);refine go_p rfl rfl rfl (oMv rfl) ?_;refine go_p rfl rfl rfl (oAs rfl) ?_;refine gNl ?_;refine g_conv (peekE (i := 6) 0 rfl rfl rfl).refines ?_;refine g_ret ?_;exact retK (ret_one' rfl (ret_tmp rfl) (perm_drop _)) (congrArg (fun (p : (List Int)) => (.list 1 D.i64 p : D)) (some_eq hm1))
noncomputable def m_rb_Leads_l2 (t1 : ApiType) (q1 : RSeq) (i1 : Int) : Nat -> Int -> Option (Out ((List RSeq) × Bool) Unit)
 | 0, _ => none
 | n + 1, k1 =>
  bif (decide (k1 < (q1.r.length : Int))) then
   (idx q1.l i1).bind fun x15 =>
   (idx t1.l x15).bind fun x16 =>
   (idx q1.r k1).bind fun x17 =>
   (idx t1.l x17).bind fun x18 =>
   bif (((decide (x16.kind = 11)) && (decide (x18.kind = 11))) && (decide (x16.a = x18.a))) then
    some (Out.ret ([], true))
   else
    grd (InR (k1 + 1)) <|
    m_rb_Leads_l2 t1 q1 i1 n (k1 + 1)
  else
   some (Out.go (()))
noncomputable def m_rb_Leads_l1 (t1 : ApiType) (q1 : RSeq) : Nat -> Int -> Option (Out ((List RSeq) × Bool) Unit)
 | 0, _ => none
 | n + 1, i1 =>
  bif (decide (i1 < (q1.l.length : Int))) then
   ((m_rb_Leads_l2 t1 q1 i1 FU 0 : Option (Out ((List RSeq) × Bool) Unit))).bind (fun oo => oo.on (fun r1 => some (Out.ret r1)) (fun _ =>
   grd (InR (i1 + 1)) <|
   m_rb_Leads_l1 t1 q1 n (i1 + 1)))
  else
   some (Out.go (()))
noncomputable def m_rb_Leads_l3 (t1 : ApiType) (q1 : RSeq) : Nat -> (Int × (List Int)) -> Option (List Int)
 | 0, _ => none
 | n + 1, (i2, l2) =>
  bif (decide (i2 <= 8)) then
   (m_rb_find t1 q1.l i2).bind fun x19 =>
   bif (decide (0 <= x19)) then
    grd ((l2.length + ([i2] : List _).length) * 8 <= 140737488355328) <|
    grd (InR (i2 + 1)) <|
    m_rb_Leads_l3 t1 q1 n ((i2 + 1), (l2 ++ [i2]))
   else
    grd (InR (i2 + 1)) <|
    m_rb_Leads_l3 t1 q1 n ((i2 + 1), l2)
  else
   some l2
noncomputable def m_rb_Leads (t1 : ApiType) (q1 : RSeq) : Option ((List RSeq) × Bool) :=
 (m_rb_find t1 q1.l 2).bind fun x1 =>
 (bif (decide (0 <= x1)) then (some true) else ((m_rb_find t1 q1.r 1).bind fun x2 =>
 some (decide (0 <= x2)))).bind fun p1 =>
 bif p1 then
  some ([], true)
 else
  (m_rb_first t1 q1.l 9 10).bind fun x3 =>
  bif (decide (0 <= x3)) then
   (idx q1.l x3).bind fun x4 =>
   (idx t1.l x4).bind fun x5 =>
   bif (decide (x5.kind = 10)) then
    (m_rb_swap q1.l x3 [x5.a, x5.b]).bind fun x6 =>
    some ([(⟨x6, q1.r⟩ : RSeq)], true)
   else
    (m_rb_swap q1.l x3 [x5.a]).bind fun x7 =>
    (m_rb_swap q1.l x3 [x5.b]).bind fun x8 =>
    some ([(⟨x7, q1.r⟩ : RSeq), (⟨x8, q1.r⟩ : RSeq)], true)
  else
   (m_rb_first t1 q1.r 9 10).bind fun x9 =>
   bif (decide (0 <= x9)) then
    (idx q1.r x9).bind fun x10 =>
    (idx t1.l x10).bind fun x11 =>
    bif (decide (x11.kind = 9)) then
     (m_rb_swap q1.r x9 [x11.a, x11.b]).bind fun x12 =>
     some ([(⟨q1.l, x12⟩ : RSeq)], true)
    else
     (m_rb_swap q1.r x9 [x11.a]).bind fun x13 =>
     (m_rb_swap q1.r x9 [x11.b]).bind fun x14 =>
     some ([(⟨q1.l, x13⟩ : RSeq), (⟨q1.l, x14⟩ : RSeq)], true)
   else
    ((m_rb_Leads_l1 t1 q1 FU 0 : Option (Out ((List RSeq) × Bool) Unit))).bind (fun oo => oo.on (fun r2 => some r2) (fun _ =>
    (m_rb_Leads_l3 t1 q1 FU (3, []) : Option (List Int)).bind fun l1 =>
    bif (decide ((l1.length : Int) = 0)) then
     some ([], false)
    else
     bif (decide (1 < (l1.length : Int))) then
      some ([], true)
     else
      (idx l1 0).bind fun x20 =>
      (idx l1 0).bind fun x21 =>
      (m_rb_of t1 q1.l x21).bind fun x22 =>
      (idx l1 0).bind fun x23 =>
      (m_rb_of t1 q1.r x23).bind fun x24 =>
      (m_rb_heads t1 x20 x22 x24).bind fun (x25, x26) =>
      some (x25, x26)))
theorem w_rb_Leads {t1 : ApiType} {q1 : RSeq} {r_1 : (List RSeq)} {r_2 : Bool} (hm : m_rb_Leads t1 q1 = some (r_1, r_2)) : Fn0 Tryz.prog 62 [ApiType.d t1, RSeq.d q1] (.tup [.list 2 RSeq.d r_1, .bool r_2]) := by
 unfold m_rb_Leads at hm;refine fn_intro func62 rfl ntmps62 rfl fun H0 fr w0 => ?_;refine g_seq (gRg ?_);refine go_p rfl rfl rfl (o_box rfl rfl) ?_;refine go_p rfl rfl rfl (o_box rfl rfl) ?_;refine go_p rfl rfl rfl (oAs rfl) ?_;refine go_conv (nilE (i := 4) (sz := 2) (f := RSeq.d) rfl).refines ?_;refine go_p rfl rfl rfl (oAs rfl) ?_;refine gNl (g_seq (g_seq (gRg ?_)));refine go_p rfl rfl rfl (o_load_agg isAgg24 sizeOf24 rfl rfl) ?_;refine go_p rfl rfl rfl (oFa fi_80_0 rfl rfl rfl) ?_;refine go_p rfl rfl rfl (o_load isAgg25 rfl rfl) ?_;obtain ⟨x1, hx1, hm⟩ := bind_some hm;refine go_p rfl rfl rfl (o_call0 call102 rfl (w_rb_find hx1)) ?_;refine go_p rfl rfl rfl (o_cmp rfl rfl rfl) ?_;refine go_p rfl rfl rfl (oMv rfl) ?_;obtain ⟨p1, hp_1, hm⟩ := bind_some hm;refine go_two [(2, _), (3, _)] 6 27 p1 (t := 21) ⟨rfl, rfl, trivial⟩ rfl (fun hg_1 hk1 => ?_) (fun hg_1 hk1 => ?_) ?_
 ·replace hp_1 := cond_t hg_1 hp_1
  refine gKp rfl rfl rfl hg_1 rfl rfl ?_;refine gKp rfl rfl rfl hg_1 rfl rfl ?_;refine gKp rfl rfl rfl hg_1 rfl rfl ?_;refine gKp rfl rfl rfl hg_1 rfl rfl ?_;refine gKp rfl rfl rfl hg_1 rfl rfl ?_;refine go_p rfl rfl rfl (o_pickT rfl hg_1 rfl) ?_;exact gMt hk1 (congrArg (fun b => some (D.bool b)) (some_eq hp_1)) ⟨rfl, rfl, trivial⟩
 ·replace hp_1 := cond_f hg_1 hp_1
  refine gWp rfl rfl rfl hg_1 rfl rfl (o_load_agg isAgg24 sizeOf24 rfl rfl) ?_;refine gWp rfl rfl rfl hg_1 rfl rfl (oFa fi_80_1 rfl rfl rfl) ?_;refine gWp rfl rfl rfl hg_1 rfl rfl (o_load isAgg25 rfl rfl) ?_;obtain ⟨x2, hx2, hp_1⟩ := bind_some hp_1;refine gWp rfl rfl rfl hg_1 rfl rfl (o_call0 call102 rfl (w_rb_find hx2)) ?_;refine gWp rfl rfl rfl hg_1 rfl rfl (o_cmp rfl rfl rfl) ?_;refine go_p rfl rfl rfl (o_pickF rfl hg_1 rfl) ?_;exact gMt hk1 (congrArg (fun b => some (D.bool b)) (some_eq hp_1)) ⟨rfl, rfl, trivial⟩
 refine gNl ?_;refine gCd rfl (fun hc1 => ?_) (fun hc1 => ?_)
 ·replace hm := cond_t hc1 hm
  refine g_seq (gRg ?_);refine go_p rfl rfl rfl (oAs rfl) ?_;refine go_conv (nilE (i := 4) (sz := 2) (f := RSeq.d) rfl).refines ?_;refine go_p rfl rfl rfl (oAs rfl) ?_;refine gNl (g_ret ?_);exact retK (ret_many (ds := [_, _]) rfl (by decide) ⟨ret_tmp rfl, ⟨ret_tmp rfl, rfl⟩⟩ (perm_drop _)) (congrArg (fun (p : ((List RSeq) × Bool)) => D.tup [.list 2 RSeq.d p.1, .bool p.2]) (some_eq hm))
 ·replace hm := cond_f hc1 hm
  refine gSp (g_seq (g_seq (gRg ?_)));refine go_p rfl rfl rfl (o_load_agg isAgg24 sizeOf24 rfl rfl) ?_;refine go_p rfl rfl rfl (oFa fi_80_0 rfl rfl rfl) ?_;refine go_p rfl rfl rfl (o_load isAgg25 rfl rfl) ?_;obtain ⟨x3, hx3, hm⟩ := bind_some hm;refine go_p rfl rfl rfl (o_call0 call103 rfl (w_rb_first hx3)) ?_;refine go_p rfl rfl rfl (oAs rfl) ?_;refine gNl (g_seq (gRg ?_));refine go_p rfl rfl rfl (oMv rfl) ?_;refine go_p rfl rfl rfl (o_cmp rfl rfl rfl) ?_;refine gNl ?_;refine gCd rfl (fun hc2 => ?_) (fun hc2 => ?_)
  ·replace hm := cond_t hc2 hm
   refine g_seq ?_;obtain ⟨x4, hx4, hm⟩ := bind_some hm;obtain ⟨x5, hx5, hm⟩ := bind_some hm;refine g_draw_f 10 [9] Tryz_mixed (by decide +kernel) (by decide +kernel) rfl (by decide +kernel) ?_;refine gdf_p rfl rfl rfl rfl (oFa fi_24_0 rfl rfl rfl) ?_;refine gdf_p rfl rfl rfl rfl (o_load isAgg22 rfl rfl) ?_;refine gdf_p rfl rfl rfl rfl (oFa fi_80_0 rfl rfl rfl) ?_;refine gdf_p rfl rfl rfl rfl (o_load isAgg25 rfl rfl) ?_;refine gdf_p rfl rfl rfl rfl (oMv rfl) ?_;refine gdf_p rfl rfl rfl rfl (oIm runUnderlying25 sizeOf3 rfl rfl hx4) ?_;refine gdf_p rfl rfl rfl rfl (o_load isAgg3 rfl rfl) ?_;refine gdf_p rfl rfl rfl rfl (oIm runUnderlying22 sizeOf44 rfl rfl hx5) ?_;refine gdf_p rfl rfl rfl rfl (o_load_agg isAgg44 sizeOf44 rfl rfl) ?_;refine gdf_fresh (R := fun d A => ∃ b, d = .v (.pointer (some ⟨b, 0, none⟩)) /\ A = box b 44 [.i64 0, .i64 0, .i64 0, .list 2 ApiTField.d []]) rfl rfl rfl (OpT.mono (o_alloc_own zeroValue44 (cs := [.i64 0, .i64 0, .i64 0, .list 2 ApiTField.d []]) rfl) (by rintro d ms' ⟨b, rfl, rfl⟩; exact ⟨_, ⟨b, rfl, rfl⟩, rfl⟩)) ?_;refine gdf_nil ?_;rintro _ _ ⟨b1, rfl, rfl⟩;refine go_u rfl rfl (oSb 0 sizeOf44 rfl rfl rfl rfl rfl rfl rfl rfl (Nat.le_of_ble_eq_true rfl)) ?_;rintro _ _ rfl;refine go_ms (ms' := [box b1 44 [_, _, _, _]]) rfl ?_;refine gNl (g_seq (g_seq (gRg ?_)));refine go_p rfl rfl rfl (oFb fi_44_0 rfl) ?_;refine go_p rfl rfl rfl (oLb 0 isAgg3 rfl rfl rfl rfl) ?_;refine go_p rfl rfl rfl (o_cmp rfl rfl rfl) ?_;refine gNl ?_;refine gCd rfl (fun hc3 => ?_) (fun hc3 => ?_)
   ·replace hm := cond_t hc3 hm
    refine g_seq ?_;obtain ⟨x6, hx6, hm⟩ := bind_some hm;refine g_draw 15 Tryz_mixed (by decide +kernel) ?_;refine gd_p rfl rfl rfl (oFa fi_80_0 rfl rfl rfl) ?_;refine gd_p rfl rfl rfl (o_load isAgg25 rfl rfl) ?_;refine gd_p rfl rfl rfl (oMv rfl) ?_;refine gd_p rfl rfl rfl (oFb fi_44_1 rfl) ?_;refine gd_p rfl rfl rfl (oLb 0 isAgg3 rfl rfl rfl rfl) ?_;refine gd_p rfl rfl rfl (oFb fi_44_2 rfl) ?_;refine gd_p rfl rfl rfl (oLb 0 isAgg3 rfl rfl rfl rfl) ?_;refine gd_p rfl rfl rfl (o_buildSlice (xs := [_, _]) (f := D.i64) (l := [_, _]) runUnderlying25 sizeOf3 zeroValue3 rfl rfl rfl (fun _ => ⟨rfl, rfl, rfl⟩) rfl) ?_;refine gd_p rfl rfl rfl (o_call0 call104 rfl (w_rb_swap hx6)) ?_;refine gd_p rfl rfl rfl (oFa fi_80_1 rfl rfl rfl) ?_;refine gd_p rfl rfl rfl (o_load isAgg25 rfl rfl) ?_;refine gd_p rfl rfl rfl (o_build (zs := [.list 1 D.i64 [], .list 1 D.i64 []]) runUnderlying80 zeroValue80 (pl_80 _ runUnderlying80) rfl rfl rfl rfl) ?_;refine gd_p rfl rfl rfl (o_buildSlice (xs := [_]) (f := RSeq.d) (l := [(⟨x6, q1.r⟩ : RSeq)]) runUnderlying81 sizeOf80 zeroValue80 rfl rfl rfl (fun _ => ⟨rfl, rfl, rfl⟩) rfl) ?_;refine gd_p rfl rfl rfl (oAs rfl) ?_;refine gd_p rfl rfl rfl (oAs rfl) ?_;refine gd_nil ?_;refine gNl (g_ret ?_);exact retK (ret_many (ds := [_, _]) rfl (by decide) ⟨ret_tmp rfl, ⟨ret_tmp rfl, rfl⟩⟩ (perm_drop _)) (congrArg (fun (p : ((List RSeq) × Bool)) => D.tup [.list 2 RSeq.d p.1, .bool p.2]) (some_eq hm))
   ·replace hm := cond_f hc3 hm
    refine gSp (g_seq ?_);obtain ⟨x7, hx7, hm⟩ := bind_some hm;obtain ⟨x8, hx8, hm⟩ := bind_some hm;refine g_draw 23 Tryz_mixed (by decide +kernel) ?_;refine gd_p rfl rfl rfl (oFa fi_80_0 rfl rfl rfl) ?_;refine gd_p rfl rfl rfl (o_load isAgg25 rfl rfl) ?_;refine gd_p rfl rfl rfl (oMv rfl) ?_;refine gd_p rfl rfl rfl (oFb fi_44_1 rfl) ?_;refine gd_p rfl rfl rfl (oLb 0 isAgg3 rfl rfl rfl rfl) ?_;refine gd_p rfl rfl rfl (o_buildSlice (xs := [_]) (f := D.i64) (l := [_]) runUnderlying25 sizeOf3 zeroValue3 rfl rfl rfl (fun _ => ⟨rfl, rfl, rfl⟩) rfl) ?_;refine gd_p rfl rfl rfl (o_call0 call104 rfl (w_rb_swap hx7)) ?_;refine gd_p rfl rfl rfl (oFa fi_80_1 rfl rfl rfl) ?_;refine gd_p rfl rfl rfl (o_load isAgg25 rfl rfl) ?_;refine gd_p rfl rfl rfl (o_build (zs := [.list 1 D.i64 [], .list 1 D.i64 []]) runUnderlying80 zeroValue80 (pl_80 _ runUnderlying80) rfl rfl rfl rfl) ?_;refine gd_p rfl rfl rfl (oFa fi_80_0 rfl rfl rfl) ?_;refine gd_p rfl rfl rfl (o_load isAgg25 rfl rfl) ?_;refine gd_p rfl rfl rfl (oMv rfl) ?_;refine gd_p rfl rfl rfl (oFb fi_44_2 rfl) ?_;refine gd_p rfl rfl rfl (oLb 0 isAgg3 rfl rfl rfl rfl) ?_;refine gd_p rfl rfl rfl (o_buildSlice (xs := [_]) (f := D.i64) (l := [_]) runUnderlying25 sizeOf3 zeroValue3 rfl rfl rfl (fun _ => ⟨rfl, rfl, rfl⟩) rfl) ?_;refine gd_p rfl rfl rfl (o_call0 call104 rfl (w_rb_swap hx8)) ?_;refine gd_p rfl rfl rfl (oFa fi_80_1 rfl rfl rfl) ?_;refine gd_p rfl rfl rfl (o_load isAgg25 rfl rfl) ?_;refine gd_p rfl rfl rfl (o_build (zs := [.list 1 D.i64 [], .list 1 D.i64 []]) runUnderlying80 zeroValue80 (pl_80 _ runUnderlying80) rfl rfl rfl rfl) ?_;refine gd_p rfl rfl rfl (o_buildSlice (xs := [_, _]) (f := RSeq.d) (l := [(⟨x7, q1.r⟩ : RSeq), (⟨x8, q1.r⟩ : RSeq)]) runUnderlying81 sizeOf80 zeroValue80 rfl rfl rfl (fun _ => ⟨rfl, rfl, rfl⟩) rfl) ?_;refine gd_p rfl rfl rfl (oAs rfl) ?_;refine gd_p rfl rfl rfl (oAs rfl) ?_;refine gd_nil ?_;refine gNl (g_ret ?_);exact retK (ret_many (ds := [_, _]) rfl (by decide) ⟨ret_tmp rfl, ⟨ret_tmp rfl, rfl⟩⟩ (perm_drop _)) (congrArg (fun (p : ((List RSeq) × Bool)) => D.tup [.list 2 RSeq.d p.1, .bool p.2]) (some_eq hm))
  ·replace hm := cond_f hc2 hm
   refine gSp (g_seq (g_seq (gRg ?_)));refine go_p rfl rfl rfl (o_load_agg isAgg24 sizeOf24 rfl rfl) ?_;refine go_p rfl rfl rfl (oFa fi_80_1 rfl rfl rfl) ?_;refine go_p rfl rfl rfl (o_load isAgg25 rfl rfl) ?_;obtain ⟨x9, hx9, hm⟩ := bind_some hm;refine go_p rfl rfl rfl (o_call0 call103 rfl (w_rb_first hx9)) ?_;refine go_p rfl rfl rfl (oAs rfl) ?_;refine gNl (g_seq (gRg ?_));refine go_p rfl rfl rfl (oMv rfl) ?_;refine go_p rfl rfl rfl (o_cmp rfl rfl rfl) ?_;refine gNl ?_;refine gCd rfl (fun hc4 => ?_) (fun hc4 => ?_)
   ·replace hm := cond_t hc4 hm
    refine g_seq ?_;obtain ⟨x10, hx10, hm⟩ := bind_some hm;obtain ⟨x11, hx11, hm⟩ := bind_some hm;refine g_draw_f 10 [9] Tryz_mixed (by decide +kernel) (by decide +kernel) rfl (by decide +kernel) ?_;refine gdf_p rfl rfl rfl rfl (oFa fi_24_0 rfl rfl rfl) ?_;refine gdf_p rfl rfl rfl rfl (o_load isAgg22 rfl rfl) ?_;refine gdf_p rfl rfl rfl rfl (oFa fi_80_1 rfl rfl rfl) ?_;refine gdf_p rfl rfl rfl rfl (o_load isAgg25 rfl rfl) ?_;refine gdf_p rfl rfl rfl rfl (oMv rfl) ?_;refine gdf_p rfl rfl rfl rfl (oIm runUnderlying25 sizeOf3 rfl rfl hx10) ?_;refine gdf_p rfl rfl rfl rfl (o_load isAgg3 rfl rfl) ?_;refine gdf_p rfl rfl rfl rfl (oIm runUnderlying22 sizeOf44 rfl rfl hx11) ?_;refine gdf_p rfl rfl rfl rfl (o_load_agg isAgg44 sizeOf44 rfl rfl) ?_;refine gdf_fresh (R := fun d A => ∃ b, d = .v (.pointer (some ⟨b, 0, none⟩)) /\ A = box b 44 [.i64 0, .i64 0, .i64 0, .list 2 ApiTField.d []]) rfl rfl rfl (OpT.mono (o_alloc_own zeroValue44 (cs := [.i64 0, .i64 0, .i64 0, .list 2 ApiTField.d []]) rfl) (by rintro d ms' ⟨b, rfl, rfl⟩; exact ⟨_, ⟨b, rfl, rfl⟩, rfl⟩)) ?_;refine gdf_nil ?_;rintro _ _ ⟨b2, rfl, rfl⟩;refine go_u rfl rfl (oSb 0 sizeOf44 rfl rfl rfl rfl rfl rfl rfl rfl (Nat.le_of_ble_eq_true rfl)) ?_;rintro _ _ rfl;refine go_ms (ms' := [box b2 44 [_, _, _, _]]) rfl ?_;refine gNl (g_seq (g_seq (gRg ?_)));refine go_p rfl rfl rfl (oFb fi_44_0 rfl) ?_;refine go_p rfl rfl rfl (oLb 0 isAgg3 rfl rfl rfl rfl) ?_;refine go_p rfl rfl rfl (o_cmp rfl rfl rfl) ?_;refine gNl ?_;refine gCd rfl (fun hc5 => ?_) (fun hc5 => ?_)
    ·replace hm := cond_t hc5 hm
     refine g_seq ?_;obtain ⟨x12, hx12, hm⟩ := bind_some hm;refine g_draw 15 Tryz_mixed (by decide +kernel) ?_;refine gd_p rfl rfl rfl (oFa fi_80_0 rfl rfl rfl) ?_;refine gd_p rfl rfl rfl (o_load isAgg25 rfl rfl) ?_;refine gd_p rfl rfl rfl (oFa fi_80_1 rfl rfl rfl) ?_;refine gd_p rfl rfl rfl (o_load isAgg25 rfl rfl) ?_;refine gd_p rfl rfl rfl (oMv rfl) ?_;refine gd_p rfl rfl rfl (oFb fi_44_1 rfl) ?_;refine gd_p rfl rfl rfl (oLb 0 isAgg3 rfl rfl rfl rfl) ?_;refine gd_p rfl rfl rfl (oFb fi_44_2 rfl) ?_;refine gd_p rfl rfl rfl (oLb 0 isAgg3 rfl rfl rfl rfl) ?_;refine gd_p rfl rfl rfl (o_buildSlice (xs := [_, _]) (f := D.i64) (l := [_, _]) runUnderlying25 sizeOf3 zeroValue3 rfl rfl rfl (fun _ => ⟨rfl, rfl, rfl⟩) rfl) ?_;refine gd_p rfl rfl rfl (o_call0 call104 rfl (w_rb_swap hx12)) ?_;refine gd_p rfl rfl rfl (o_build (zs := [.list 1 D.i64 [], .list 1 D.i64 []]) runUnderlying80 zeroValue80 (pl_80 _ runUnderlying80) rfl rfl rfl rfl) ?_;refine gd_p rfl rfl rfl (o_buildSlice (xs := [_]) (f := RSeq.d) (l := [(⟨q1.l, x12⟩ : RSeq)]) runUnderlying81 sizeOf80 zeroValue80 rfl rfl rfl (fun _ => ⟨rfl, rfl, rfl⟩) rfl) ?_;refine gd_p rfl rfl rfl (oAs rfl) ?_;refine gd_p rfl rfl rfl (oAs rfl) ?_;refine gd_nil ?_;refine gNl (g_ret ?_);exact retK (ret_many (ds := [_, _]) rfl (by decide) ⟨ret_tmp rfl, ⟨ret_tmp rfl, rfl⟩⟩ (perm_drop _)) (congrArg (fun (p : ((List RSeq) × Bool)) => D.tup [.list 2 RSeq.d p.1, .bool p.2]) (some_eq hm))
    ·replace hm := cond_f hc5 hm
     refine gSp (g_seq ?_);obtain ⟨x13, hx13, hm⟩ := bind_some hm;obtain ⟨x14, hx14, hm⟩ := bind_some hm;refine g_draw 23 Tryz_mixed (by decide +kernel) ?_;refine gd_p rfl rfl rfl (oFa fi_80_0 rfl rfl rfl) ?_;refine gd_p rfl rfl rfl (o_load isAgg25 rfl rfl) ?_;refine gd_p rfl rfl rfl (oFa fi_80_1 rfl rfl rfl) ?_;refine gd_p rfl rfl rfl (o_load isAgg25 rfl rfl) ?_;refine gd_p rfl rfl rfl (oMv rfl) ?_;refine gd_p rfl rfl rfl (oFb fi_44_1 rfl) ?_;refine gd_p rfl rfl rfl (oLb 0 isAgg3 rfl rfl rfl rfl) ?_;refine gd_p rfl rfl rfl (o_buildSlice (xs := [_]) (f := D.i64) (l := [_]) runUnderlying25 sizeOf3 zeroValue3 rfl rfl rfl (fun _ => ⟨rfl, rfl, rfl⟩) rfl) ?_;refine gd_p rfl rfl rfl (o_call0 call104 rfl (w_rb_swap hx13)) ?_;refine gd_p rfl rfl rfl (o_build (zs := [.list 1 D.i64 [], .list 1 D.i64 []]) runUnderlying80 zeroValue80 (pl_80 _ runUnderlying80) rfl rfl rfl rfl) ?_;refine gd_p rfl rfl rfl (oFa fi_80_0 rfl rfl rfl) ?_;refine gd_p rfl rfl rfl (o_load isAgg25 rfl rfl) ?_;refine gd_p rfl rfl rfl (oFa fi_80_1 rfl rfl rfl) ?_;refine gd_p rfl rfl rfl (o_load isAgg25 rfl rfl) ?_;refine gd_p rfl rfl rfl (oMv rfl) ?_;refine gd_p rfl rfl rfl (oFb fi_44_2 rfl) ?_;refine gd_p rfl rfl rfl (oLb 0 isAgg3 rfl rfl rfl rfl) ?_;refine gd_p rfl rfl rfl (o_buildSlice (xs := [_]) (f := D.i64) (l := [_]) runUnderlying25 sizeOf3 zeroValue3 rfl rfl rfl (fun _ => ⟨rfl, rfl, rfl⟩) rfl) ?_;refine gd_p rfl rfl rfl (o_call0 call104 rfl (w_rb_swap hx14)) ?_;refine gd_p rfl rfl rfl (o_build (zs := [.list 1 D.i64 [], .list 1 D.i64 []]) runUnderlying80 zeroValue80 (pl_80 _ runUnderlying80) rfl rfl rfl rfl) ?_;refine gd_p rfl rfl rfl (o_buildSlice (xs := [_, _]) (f := RSeq.d) (l := [(⟨q1.l, x13⟩ : RSeq), (⟨q1.l, x14⟩ : RSeq)]) runUnderlying81 sizeOf80 zeroValue80 rfl rfl rfl (fun _ => ⟨rfl, rfl, rfl⟩) rfl) ?_;refine gd_p rfl rfl rfl (oAs rfl) ?_;refine gd_p rfl rfl rfl (oAs rfl) ?_;refine gd_nil ?_;refine gNl (g_ret ?_);exact retK (ret_many (ds := [_, _]) rfl (by decide) ⟨ret_tmp rfl, ⟨ret_tmp rfl, rfl⟩⟩ (perm_drop _)) (congrArg (fun (p : ((List RSeq) × Bool)) => D.tup [.list 2 RSeq.d p.1, .bool p.2]) (some_eq hm))
   ·replace hm := cond_f hc4 hm
    refine gSp (g_seq (g_seq (gRg ?_)));refine go_p rfl rfl rfl (oAs rfl) ?_;refine gNl ?_;obtain ⟨o_1, hj1, hm1⟩ := bind_some hm;refine g_cut_m [(2, _), (3, _)] [] (fun (st : Unit) (hid : Unit) => match st, hid with | _, _ => []) (fun F (st : Unit) (hid : Unit) => match st, hid with | _, _ => []) (fun st => Out.go (st) = o_1) ⟨rfl, rfl, trivial⟩ trivial ?_ ?_
    ·skip
     refine g_block ?_;refine g_loop_m [(2, _), (3, _)] [] (fun (st : Int) (hid : Unit) => match st, hid with | i1, _ => [(10, .i64 i1)]) (fun F (st : Int) (hid : Unit) => match st, hid with | i1, _ => []) () hj1 (fun _ => rfl) ⟨rfl, rfl, trivial⟩ trivial ⟨rfl, trivial⟩ rfl ?_;rintro n i1 _ hj1;rw [m_rb_Leads_l1] at hj1;refine g_norm (L' := [(10, .i64 i1), (2, _), (3, _)]) (ms' := []) rfl rfl ?_;refine g_seq (g_seq (gRg ?_));refine go_p rfl rfl rfl (oMv rfl) ?_;refine go_p rfl rfl rfl (oFa fi_80_0 rfl rfl rfl) ?_;refine go_p rfl rfl rfl (o_load isAgg25 rfl rfl) ?_;refine go_p rfl rfl rfl (o_len runUnderlying25 rfl) ?_;refine go_p rfl rfl rfl (o_cmp rfl rfl rfl) ?_;refine gNl ?_;refine gCd rfl (fun hc6 => ?_) (fun hc6 => ?_)
     ·replace hj1 := cond_t hc6 hj1
      refine gSp (g_seq (g_block (g_seq (gRg ?_))));refine go_p rfl rfl rfl (oAs rfl) ?_;refine gNl ?_;obtain ⟨o_2, hj2, hm2⟩ := bind_some hj1;refine g_cut_m [(2, _), (3, _), (10, _)] [] (fun (st : Unit) (hid : Unit) => match st, hid with | _, _ => []) (fun F (st : Unit) (hid : Unit) => match st, hid with | _, _ => []) (fun st => Out.go (st) = o_2) ⟨rfl, rfl, rfl, trivial⟩ trivial ?_ ?_
      ·skip
       refine g_block ?_;refine g_loop_m [(2, _), (3, _), (10, _)] [] (fun (st : Int) (hid : Unit) => match st, hid with | k1, _ => [(11, .i64 k1)]) (fun F (st : Int) (hid : Unit) => match st, hid with | k1, _ => []) () hj2 (fun _ => rfl) ⟨rfl, rfl, rfl, trivial⟩ trivial ⟨rfl, trivial⟩ rfl ?_;rintro n k1 _ hj2;rw [m_rb_Leads_l2] at hj2;refine g_norm (L' := [(11, .i64 k1), (2, _), (3, _), (10, _)]) (ms' := []) rfl rfl ?_;refine g_seq (g_seq (gRg ?_));refine go_p rfl rfl rfl (oMv rfl) ?_;refine go_p rfl rfl rfl (oFa fi_80_1 rfl rfl rfl) ?_;refine go_p rfl rfl rfl (o_load isAgg25 rfl rfl) ?_;refine go_p rfl rfl rfl (o_len runUnderlying25 rfl) ?_;refine go_p rfl rfl rfl (o_cmp rfl rfl rfl) ?_;refine gNl ?_;refine gCd rfl (fun hc7 => ?_) (fun hc7 => ?_)
       ·replace hj2 := cond_t hc7 hj2
        refine gSp (g_seq (g_block (g_seq ?_)));obtain ⟨x15, hx15, hj2⟩ := bind_some hj2;obtain ⟨x16, hx16, hj2⟩ := bind_some hj2;obtain ⟨x17, hx17, hj2⟩ := bind_some hj2;obtain ⟨x18, hx18, hj2⟩ := bind_some hj2;refine g_draw_x [] [20, 21] [9, 10, 11, 12, 13, 14, 15, 16, 17] [18, 19] [] Tryz_mixed (by decide +kernel) (by decide +kernel) rfl ?_;refine gdx_p rfl rfl rfl rfl rfl rfl (oFa fi_24_0 rfl rfl rfl) ?_;refine gdx_p rfl rfl rfl rfl rfl rfl (o_load isAgg22 rfl rfl) ?_;refine gdx_p rfl rfl rfl rfl rfl rfl (oFa fi_80_0 rfl rfl rfl) ?_;refine gdx_p rfl rfl rfl rfl rfl rfl (o_load isAgg25 rfl rfl) ?_;refine gdx_p rfl rfl rfl rfl rfl rfl (oMv rfl) ?_;refine gdx_p rfl rfl rfl rfl rfl rfl (oIm runUnderlying25 sizeOf3 rfl rfl hx15) ?_;refine gdx_p rfl rfl rfl rfl rfl rfl (o_load isAgg3 rfl rfl) ?_;refine gdx_p rfl rfl rfl rfl rfl rfl (oIm runUnderlying22 sizeOf44 rfl rfl hx16) ?_;refine gdx_p rfl rfl rfl rfl rfl rfl (o_load_agg isAgg44 sizeOf44 rfl rfl) ?_;refine gdx_p rfl rfl rfl rfl rfl rfl (oFa fi_24_0 rfl rfl rfl) ?_;refine gdx_p rfl rfl rfl rfl rfl rfl (o_load isAgg22 rfl rfl) ?_;refine gdx_p rfl rfl rfl rfl rfl rfl (oFa fi_80_1 rfl rfl rfl) ?_;refine gdx_p rfl rfl rfl rfl rfl rfl (o_load isAgg25 rfl rfl) ?_;refine gdx_p rfl rfl rfl rfl rfl rfl (oMv rfl) ?_;refine gdx_p rfl rfl rfl rfl rfl rfl (oIm runUnderlying25 sizeOf3 rfl rfl hx17) ?_;refine gdx_p rfl rfl rfl rfl rfl rfl (o_load isAgg3 rfl rfl) ?_;refine gdx_p rfl rfl rfl rfl rfl rfl (oIm runUnderlying22 sizeOf44 rfl rfl hx18) ?_;refine gdx_p rfl rfl rfl rfl rfl rfl (o_load_agg isAgg44 sizeOf44 rfl rfl) ?_;refine gdx_fresh (R0 := fun d A => ∃ b, d = .v (.pointer (some ⟨b, 0, none⟩)) /\ A = box b 44 [.i64 0, .i64 0, .i64 0, .list 2 ApiTField.d []]) rfl rfl rfl rfl (OpT.mono (o_alloc_own zeroValue44 (cs := [.i64 0, .i64 0, .i64 0, .list 2 ApiTField.d []]) rfl) (by rintro d ms' ⟨b, rfl, rfl⟩; exact ⟨_, ⟨b, rfl, rfl⟩, rfl⟩)) ?_;refine gdx_fresh (R0 := fun d A => ∃ b, d = .v (.pointer (some ⟨b, 0, none⟩)) /\ A = box b 44 [.i64 0, .i64 0, .i64 0, .list 2 ApiTField.d []]) rfl rfl rfl rfl (OpT.mono (o_alloc_own zeroValue44 (cs := [.i64 0, .i64 0, .i64 0, .list 2 ApiTField.d []]) rfl) (by rintro d ms' ⟨b, rfl, rfl⟩; exact ⟨_, ⟨b, rfl, rfl⟩, rfl⟩)) ?_;refine gdx_e rfl ?_;refine gdx_e rfl ?_;refine gdx_nil ?_;refine gf_nil [(18, 12), (19, 13)] rfl ?_;rintro _ _ ⟨b3, rfl, rfl⟩;rintro _ _ ⟨b4, rfl, rfl⟩
        show _ /\ _
        refine ⟨(trivial : True), ?_⟩;refine gde2_u rfl rfl rfl (oSb 0 sizeOf44 rfl rfl rfl rfl rfl rfl rfl rfl (Nat.le_of_ble_eq_true rfl)) ?_;rintro _ _ rfl;refine ⟨(trivial : True), ?_⟩;refine gde2_u rfl rfl rfl (oSb 1 sizeOf44 rfl rfl rfl rfl rfl rfl rfl rfl (Nat.le_of_ble_eq_true rfl)) ?_;rintro _ _ rfl;refine ⟨(trivial : True), ?_⟩;refine gde2_nil ?_;refine g_seq (gRg ?_);refine go_p rfl rfl rfl (oFb fi_44_0 rfl) ?_;refine go_p rfl rfl rfl (oLb 0 isAgg3 rfl rfl rfl rfl) ?_;refine go_p rfl rfl rfl (o_cmp rfl rfl rfl) ?_;refine go_p rfl rfl rfl (oMv rfl) ?_
        apply go_and [(2, _), (3, _), (10, _), (11, _), (12, _), (13, _)] 4 171 (t := 167) ⟨rfl, rfl, rfl, rfl, rfl, rfl, trivial⟩ rfl
        ·intro hg_2 hk2
         refine gWp rfl rfl rfl hg_2 rfl rfl (oFb fi_44_0 rfl) ?_;refine gWp rfl rfl rfl hg_2 rfl rfl (oLb 1 isAgg3 rfl rfl rfl rfl) ?_;refine gWp rfl rfl rfl hg_2 rfl rfl (o_cmp rfl rfl rfl) ?_;refine go_p rfl rfl rfl (o_pickT rfl hg_2 rfl) ?_;exact gMt hk2 (rfl) ⟨rfl, rfl, rfl, rfl, rfl, rfl, trivial⟩
        ·intro hg_2 hk2
         refine gKp rfl rfl rfl hg_2 rfl rfl ?_;refine gKp rfl rfl rfl hg_2 rfl rfl ?_;refine gKp rfl rfl rfl hg_2 rfl rfl ?_;refine go_p rfl rfl rfl (o_pickF rfl hg_2 rfl) ?_;exact gMt hk2 (rfl) ⟨rfl, rfl, rfl, rfl, rfl, rfl, trivial⟩
        refine go_p rfl rfl rfl (oMv rfl) ?_
        apply go_and [(2, _), (3, _), (10, _), (11, _)] 6 178 (t := 172) ⟨rfl, rfl, rfl, rfl, trivial⟩ rfl
        ·intro hg_3 hk3
         refine gWp rfl rfl rfl hg_3 rfl rfl (oFb fi_44_1 rfl) ?_;refine gWp rfl rfl rfl hg_3 rfl rfl (oLb 0 isAgg3 rfl rfl rfl rfl) ?_;refine gWp rfl rfl rfl hg_3 rfl rfl (oFb fi_44_1 rfl) ?_;refine gWp rfl rfl rfl hg_3 rfl rfl (oLb 1 isAgg3 rfl rfl rfl rfl) ?_;refine gWp rfl rfl rfl hg_3 rfl rfl (o_cmp rfl rfl rfl) ?_;refine go_p rfl rfl rfl (o_pickT rfl hg_3 rfl) ?_;exact gMt hk3 (rfl) ⟨rfl, rfl, rfl, rfl, trivial⟩
        ·intro hg_3 hk3
         refine gKp rfl rfl rfl hg_3 rfl rfl ?_;refine gKp rfl rfl rfl hg_3 rfl rfl ?_;refine gKp rfl rfl rfl hg_3 rfl rfl ?_;refine gKp rfl rfl rfl hg_3 rfl rfl ?_;refine gKp rfl rfl rfl hg_3 rfl rfl ?_;refine go_p rfl rfl rfl (o_pickF rfl hg_3 rfl) ?_;exact gMt hk3 (rfl) ⟨rfl, rfl, rfl, rfl, trivial⟩
        refine gNl ?_;refine gCd rfl (fun hc8 => ?_) (fun hc8 => ?_)
        ·replace hj2 := cond_t hc8 hj2
         refine g_seq (gRg ?_);refine go_p rfl rfl rfl (oAs rfl) ?_;refine go_conv (nilE (i := 4) (sz := 2) (f := RSeq.d) rfl).refines ?_;refine go_p rfl rfl rfl (oAs rfl) ?_;refine gNl (g_ret ?_);obtain rfl := some_eq hj2
         replace hm2 := on_ret hm2
         obtain rfl := some_eq hm2
         replace hm1 := on_ret hm1
         exact retK (ret_many (ds := [_, _]) rfl (by decide) ⟨ret_tmp rfl, ⟨ret_tmp rfl, rfl⟩⟩ (perm_drop _)) (congrArg (fun (p : ((List RSeq) × Bool)) => D.tup [.list 2 RSeq.d p.1, .bool p.2]) (some_eq hm1))
        ·replace hj2 := cond_f hc8 hj2
         refine gSp (gRg ?_);refine go_p rfl rfl rfl (oMv rfl) ?_;obtain ⟨hg19, hj2⟩ := grd_some hj2;refine go_p rfl rfl rfl (o_add rfl rfl (i64_id hg19)) ?_;refine go_p rfl rfl rfl (oAs rfl) ?_;refine gNl ?_;exact ⟨_, (), hj2, ⟨rfl, trivial⟩, ⟨rfl, rfl, rfl, trivial⟩, [_, _], rfl⟩
       ·replace hj2 := cond_f hc7 hj2
        refine g_exit ?_;exact ⟨_, (), some_eq hj2, trivial, ⟨rfl, rfl, rfl, trivial⟩, [], rfl⟩
      ·rintro _ _ hst
       subst hst
       replace hm2 := on_go hm2
       refine k_norm (L' := [(2, _), (3, _), (10, _)]) (ms' := []) rfl rfl ?_;refine gRg ?_;refine go_p rfl rfl rfl (oMv rfl) ?_;obtain ⟨hg20, hm2⟩ := grd_some hm2;refine go_p rfl rfl rfl (o_add rfl rfl (i64_id hg20)) ?_;refine go_p rfl rfl rfl (oAs rfl) ?_;refine gNl ?_;exact ⟨_, (), hm2, ⟨rfl, trivial⟩, ⟨rfl, rfl, trivial⟩, [], rfl⟩
     ·replace hj1 := cond_f hc6 hj1
      refine g_exit ?_;exact ⟨_, (), some_eq hj1, trivial, ⟨rfl, rfl, trivial⟩, [], rfl⟩
    ·rintro _ _ hst
     subst hst
     replace hm1 := on_go hm1
     refine k_norm (L' := [(2, _), (3, _)]) (ms' := []) rfl rfl ?_;refine g_seq (gRg ?_);refine go_op rfl rfl rfl (o_buildSlice_row (xs := []) (f := D.i64) (l := []) runUnderlying25 sizeOf3 zeroValue3 rfl rfl rfl (fun _ => ⟨rfl, rfl, rfl⟩) rfl (by simp [maxLen])) ?_;rintro _ _ ⟨a_r1, rfl, rfl⟩;refine go_p rfl rfl rfl (oAs rfl) ?_;refine gNl (g_seq (g_seq (gRg ?_)));refine go_p rfl rfl rfl (oAs rfl) ?_;refine gNl ?_;obtain ⟨o_3, hj3, hm3⟩ := bind_some hm1;refine g_cut_m [(2, _), (3, _)] [] (fun (st : (List Int)) (hid : (Option Addr × Nat)) => match st, hid with | l1, (a_r1, cap_r1) => [(14, .v (.slice a_r1 l1.length cap_r1))]) (fun F (st : (List Int)) (hid : (Option Addr × Nat)) => match st, hid with | l1, (a_r1, cap_r1) => [row a_r1 cap_r1 3 1 D.i64 l1]) (fun st => st = o_3) ⟨rfl, rfl, trivial⟩ trivial ?_ ?_
     ·skip
      refine g_block ?_;refine g_loop_m [(2, _), (3, _)] [] (fun (st : (Int × (List Int))) (hid : (Option Addr × Nat)) => match st, hid with | (i2, l2), (a_r1, cap_r1) => [(14, .v (.slice a_r1 l2.length cap_r1)), (15, .i64 i2)]) (fun F (st : (Int × (List Int))) (hid : (Option Addr × Nat)) => match st, hid with | (i2, l2), (a_r1, cap_r1) => [row a_r1 cap_r1 3 1 D.i64 l2]) (_, _) hj3 (fun _ => rfl) ⟨rfl, rfl, trivial⟩ trivial ⟨rfl, rfl, trivial⟩ rfl ?_;rintro n ⟨i2, l2⟩ ⟨a_r1, cap_r1⟩ hj3;rw [m_rb_Leads_l3] at hj3;refine g_norm (L' := [(14, .v (.slice a_r1 l2.length cap_r1)), (15, .i64 i2), (2, _), (3, _)]) (ms' := [row a_r1 cap_r1 3 1 D.i64 l2]) rfl rfl ?_;refine g_seq (g_seq (gRg ?_));refine go_p rfl rfl rfl (oMv rfl) ?_;refine go_p rfl rfl rfl (o_cmp rfl rfl rfl) ?_;refine gNl ?_;refine gCd rfl (fun hc9 => ?_) (fun hc9 => ?_)
      ·replace hj3 := cond_t hc9 hj3
       refine gSp (g_seq (g_block (g_seq (gRg ?_))));refine go_p rfl rfl rfl (o_load_agg isAgg24 sizeOf24 rfl rfl) ?_;refine go_p rfl rfl rfl (oFa fi_80_0 rfl rfl rfl) ?_;refine go_p rfl rfl rfl (o_load isAgg25 rfl rfl) ?_;refine go_p rfl rfl rfl (oMv rfl) ?_;obtain ⟨x19, hx21, hj3⟩ := bind_some hj3;refine go_p rfl rfl rfl (o_call0 call102 rfl (w_rb_find hx21)) ?_;refine go_p rfl rfl rfl (o_cmp rfl rfl rfl) ?_;refine gNl ?_;refine gCd rfl (fun hc10 => ?_) (fun hc10 => ?_)
       ·replace hj3 := cond_t hc10 hj3
        refine gRg ?_;refine go_p rfl rfl rfl (oMv rfl) ?_;refine go_p rfl rfl rfl (oMv rfl) ?_;refine go_p rfl rfl rfl (o_buildSlice (xs := [_]) (f := D.i64) (l := [_]) runUnderlying25 sizeOf3 zeroValue3 rfl rfl rfl (fun _ => ⟨rfl, rfl, rfl⟩) rfl) ?_;obtain ⟨hg22, hj3⟩ := grd_some hj3;refine go_op rfl rfl rfl (o_append (a := _) 0 underlying25 type3 rfl rfl rfl rfl rfl rfl rfl (fun _ => rfl) (fun _ => rfl) hg22 (app_len hg22 rfl)) ?_;rintro _ _ ⟨a_r1, cap_r1, rfl, rfl⟩;refine go_ms (ms' := [_]) rfl ?_;refine go_p rfl rfl rfl (oAs rfl) ?_;refine gNl (gRg ?_);refine go_p rfl rfl rfl (oMv rfl) ?_;obtain ⟨hg23, hj3⟩ := grd_some hj3;refine go_p rfl rfl rfl (o_add rfl rfl (i64_id hg23)) ?_;refine go_p rfl rfl rfl (oAs rfl) ?_;refine gNl ?_;exact ⟨_, (_, _), hj3, ⟨rfl, rfl, trivial⟩, ⟨rfl, rfl, trivial⟩, [], rfl⟩
       ·replace hj3 := cond_f hc10 hj3
        refine gSp (gRg ?_);refine go_p rfl rfl rfl (oMv rfl) ?_;obtain ⟨hg24, hj3⟩ := grd_some hj3;refine go_p rfl rfl rfl (o_add rfl rfl (i64_id hg24)) ?_;refine go_p rfl rfl rfl (oAs rfl) ?_;refine gNl ?_;exact ⟨_, (_, _), hj3, ⟨rfl, rfl, trivial⟩, ⟨rfl, rfl, trivial⟩, [], rfl⟩
      ·replace hj3 := cond_f hc9 hj3
       refine g_exit ?_;exact ⟨_, (_, _), some_eq hj3, ⟨rfl, trivial⟩, ⟨rfl, rfl, trivial⟩, [], rfl⟩
     ·rintro l1 ⟨a_r1, cap_r1⟩ hst
      subst hst;refine k_norm (L' := [(14, .v (.slice a_r1 l1.length cap_r1)), (2, _), (3, _)]) (ms' := [row a_r1 cap_r1 3 1 D.i64 l1]) rfl rfl ?_;refine g_seq (g_seq (gRg ?_));refine go_p rfl rfl rfl (oMv rfl) ?_;refine go_p rfl rfl rfl (.view (peekE (i := 194) 0 rfl rfl rfl) (o_len runUnderlying25 rfl)) ?_;refine go_p rfl rfl rfl (o_cmp rfl rfl rfl) ?_;refine gNl ?_;refine gCd rfl (fun hc11 => ?_) (fun hc11 => ?_)
      ·replace hm3 := cond_t hc11 hm3
       refine g_seq (gRg ?_);refine go_p rfl rfl rfl (oAs rfl) ?_;refine go_conv (nilE (i := 4) (sz := 2) (f := RSeq.d) rfl).refines ?_;refine go_p rfl rfl rfl (oAs rfl) ?_;refine gNl (g_ret ?_);exact retK (ret_many (ds := [_, _]) rfl (by decide) ⟨ret_tmp rfl, ⟨ret_tmp rfl, rfl⟩⟩ (perm_drop _)) (congrArg (fun (p : ((List RSeq) × Bool)) => D.tup [.list 2 RSeq.d p.1, .bool p.2]) (some_eq hm3))
      ·replace hm3 := cond_f hc11 hm3
       refine gSp (g_seq (g_seq (gRg ?_)));refine go_p rfl rfl rfl (oMv rfl) ?_;refine go_p rfl rfl rfl (.view (peekE (i := 197) 0 rfl rfl rfl) (o_len runUnderlying25 rfl)) ?_;refine go_p rfl rfl rfl (o_cmp rfl rfl rfl) ?_;refine gNl ?_;refine gCd rfl (fun hc12 => ?_) (fun hc12 => ?_)
       ·replace hm3 := cond_t hc12 hm3
        refine g_seq (gRg ?_);refine go_p rfl rfl rfl (oAs rfl) ?_;refine go_conv (nilE (i := 4) (sz := 2) (f := RSeq.d) rfl).refines ?_;refine go_p rfl rfl rfl (oAs rfl) ?_;refine gNl (g_ret ?_);exact retK (ret_many (ds := [_, _]) rfl (by decide) ⟨ret_tmp rfl, ⟨ret_tmp rfl, rfl⟩⟩ (perm_drop _)) (congrArg (fun (p : ((List RSeq) × Bool)) => D.tup [.list 2 RSeq.d p.1, .bool p.2]) (some_eq hm3))
       ·replace hm3 := cond_f hc12 hm3
        refine gSp (g_seq ?_);obtain ⟨x20, hx25, hm3⟩ := bind_some hm3;obtain ⟨x21, hx26, hm3⟩ := bind_some hm3;obtain ⟨x22, hx27, hm3⟩ := bind_some hm3;obtain ⟨x23, hx28, hm3⟩ := bind_some hm3;obtain ⟨x24, hx29, hm3⟩ := bind_some hm3;obtain ⟨⟨x25, x26⟩, hx30, hm3⟩ := bind_some hm3;refine g_draw 23 Tryz_mixed (by decide +kernel) ?_;refine gd_p rfl rfl rfl (o_load_agg isAgg24 sizeOf24 rfl rfl) ?_;refine gd_p rfl rfl rfl (oMv rfl) ?_;refine gd_p rfl rfl rfl (.view (peekE (i := 201) 0 rfl rfl rfl) (oIm runUnderlying25 sizeOf3 rfl rfl hx25)) ?_;refine gd_p rfl rfl rfl (o_load isAgg3 rfl rfl) ?_;refine gd_p rfl rfl rfl (o_load_agg isAgg24 sizeOf24 rfl rfl) ?_;refine gd_p rfl rfl rfl (oFa fi_80_0 rfl rfl rfl) ?_;refine gd_p rfl rfl rfl (o_load isAgg25 rfl rfl) ?_;refine gd_p rfl rfl rfl (oMv rfl) ?_;refine gd_p rfl rfl rfl (.view (peekE (i := 207) 0 rfl rfl rfl) (oIm runUnderlying25 sizeOf3 rfl rfl hx26)) ?_;refine gd_p rfl rfl rfl (o_load isAgg3 rfl rfl) ?_;refine gd_p rfl rfl rfl (o_call0 call106 rfl (w_rb_of hx27)) ?_;refine gd_p rfl rfl rfl (o_load_agg isAgg24 sizeOf24 rfl rfl) ?_;refine gd_p rfl rfl rfl (oFa fi_80_1 rfl rfl rfl) ?_;refine gd_p rfl rfl rfl (o_load isAgg25 rfl rfl) ?_;refine gd_p rfl rfl rfl (oMv rfl) ?_;refine gd_p rfl rfl rfl (.view (peekE (i := 214) 0 rfl rfl rfl) (oIm runUnderlying25 sizeOf3 rfl rfl hx28)) ?_;refine gd_p rfl rfl rfl (o_load isAgg3 rfl rfl) ?_;refine gd_p rfl rfl rfl (o_call0 call106 rfl (w_rb_of hx29)) ?_;refine gd_p rfl rfl rfl (o_call0 call105 rfl (w_rb_heads hx30)) ?_;refine gd_p rfl rfl rfl (o_extract rfl rfl) ?_;refine gd_p rfl rfl rfl (o_extract rfl rfl) ?_;refine gd_p rfl rfl rfl (oAs rfl) ?_;refine gd_p rfl rfl rfl (oAs rfl) ?_;refine gd_nil ?_;refine gNl (g_ret ?_);exact retK (ret_many (ds := [_, _]) rfl (by decide) ⟨ret_tmp rfl, ⟨ret_tmp rfl, rfl⟩⟩ (perm_drop _)) (congrArg (fun (p : ((List RSeq) × Bool)) => D.tup [.list 2 RSeq.d p.1, .bool p.2]) (some_eq hm3))
noncomputable def m_ba_SameInts_l1 (a1 : (List Int)) (bv1 : (List Int)) : Nat -> Int -> Option (Out Bool Unit)
 | 0, _ => none
 | n + 1, i1 =>
  bif (decide (i1 < (a1.length : Int))) then
   (idx a1 i1).bind fun x1 =>
   (idx bv1 i1).bind fun x2 =>
   bif (!decide (x1 = x2)) then
    some (Out.ret false)
   else
    grd (InR (i1 + 1)) <|
    m_ba_SameInts_l1 a1 bv1 n (i1 + 1)
  else
   some (Out.go (()))
noncomputable def m_ba_SameInts (a1 : (List Int)) (bv1 : (List Int)) : Option Bool :=
 bif (!decide ((a1.length : Int) = (bv1.length : Int))) then
  some false
 else
  ((m_ba_SameInts_l1 a1 bv1 FU 0 : Option (Out Bool Unit))).bind (fun oo => oo.on (fun r1 => some r1) (fun _ =>
  some true))
theorem w_ba_SameInts {a1 : (List Int)} {bv1 : (List Int)} {r_1 : Bool} (hm : m_ba_SameInts a1 bv1 = some r_1) : Fn0 Tryz.prog 24 [.list 1 D.i64 a1, .list 1 D.i64 bv1] (.bool r_1) := by
 unfold m_ba_SameInts at hm;refine fn_intro func24 rfl ntmps24 rfl fun H0 fr w0 => ?_;refine g_seq (gRg ?_);refine go_p rfl rfl rfl (oAs rfl) ?_;refine gNl (g_seq (g_seq (gRg ?_)));refine go_p rfl rfl rfl (oMv rfl) ?_;refine go_p rfl rfl rfl (o_len runUnderlying25 rfl) ?_;refine go_p rfl rfl rfl (oMv rfl) ?_;refine go_p rfl rfl rfl (o_len runUnderlying25 rfl) ?_;refine go_p rfl rfl rfl (o_cmp rfl rfl rfl) ?_;refine gNl ?_;refine gCd rfl (fun hc1 => ?_) (fun hc1 => ?_)
 ·replace hm := cond_t hc1 hm
  refine g_seq (gRg ?_);refine go_p rfl rfl rfl (oAs rfl) ?_;refine gNl (g_ret ?_);exact retK (ret_one' rfl (ret_tmp rfl) (perm_drop _)) (congrArg (fun (p : Bool) => (.bool p : D)) (some_eq hm))
 ·replace hm := cond_f hc1 hm
  refine gSp (g_seq (g_seq (gRg ?_)));refine go_p rfl rfl rfl (oAs rfl) ?_;refine gNl ?_;obtain ⟨o_1, hj1, hm1⟩ := bind_some hm;refine g_cut_m [] [] (fun (st : Unit) (hid : Unit) => match st, hid with | _, _ => []) (fun F (st : Unit) (hid : Unit) => match st, hid with | _, _ => []) (fun st => Out.go (st) = o_1) trivial trivial ?_ ?_
  ·skip
   refine g_block ?_;refine g_loop_m [(0, _), (1, _)] [] (fun (st : Int) (hid : Unit) => match st, hid with | i1, _ => [(5, .i64 i1)]) (fun F (st : Int) (hid : Unit) => match st, hid with | i1, _ => []) () hj1 (fun _ => rfl) ⟨rfl, rfl, trivial⟩ trivial ⟨rfl, trivial⟩ rfl ?_;rintro n i1 _ hj1;rw [m_ba_SameInts_l1] at hj1;refine g_norm (L' := [(5, .i64 i1), (0, _), (1, _)]) (ms' := []) rfl rfl ?_;refine g_seq (g_seq (gRg ?_));refine go_p rfl rfl rfl (oMv rfl) ?_;refine go_p rfl rfl rfl (oMv rfl) ?_;refine go_p rfl rfl rfl (o_len runUnderlying25 rfl) ?_;refine go_p rfl rfl rfl (o_cmp rfl rfl rfl) ?_;refine gNl ?_;refine gCd rfl (fun hc2 => ?_) (fun hc2 => ?_)
   ·replace hj1 := cond_t hc2 hj1
    refine gSp (g_seq (g_block (g_seq ?_)));obtain ⟨x1, hx1, hj1⟩ := bind_some hj1;obtain ⟨x2, hx2, hj1⟩ := bind_some hj1;refine g_draw 9 Tryz_mixed (by decide +kernel) ?_;refine gd_p rfl rfl rfl (oMv rfl) ?_;refine gd_p rfl rfl rfl (oMv rfl) ?_;refine gd_p rfl rfl rfl (oIm runUnderlying25 sizeOf3 rfl rfl hx1) ?_;refine gd_p rfl rfl rfl (o_load isAgg3 rfl rfl) ?_;refine gd_p rfl rfl rfl (oMv rfl) ?_;refine gd_p rfl rfl rfl (oMv rfl) ?_;refine gd_p rfl rfl rfl (oIm runUnderlying25 sizeOf3 rfl rfl hx2) ?_;refine gd_p rfl rfl rfl (o_load isAgg3 rfl rfl) ?_;refine gd_p rfl rfl rfl (o_cmp rfl rfl rfl) ?_;refine gd_nil ?_;refine gNl ?_;refine gCd rfl (fun hc3 => ?_) (fun hc3 => ?_)
    ·replace hj1 := cond_t hc3 hj1
     refine g_seq (gRg ?_);refine go_p rfl rfl rfl (oAs rfl) ?_;refine gNl (g_ret ?_);obtain rfl := some_eq hj1
     replace hm1 := on_ret hm1
     exact retK (ret_one' rfl (ret_tmp rfl) (perm_drop _)) (congrArg (fun (p : Bool) => (.bool p : D)) (some_eq hm1))
    ·replace hj1 := cond_f hc3 hj1
     refine gSp (gRg ?_);refine go_p rfl rfl rfl (oMv rfl) ?_;obtain ⟨hg3, hj1⟩ := grd_some hj1;refine go_p rfl rfl rfl (o_add rfl rfl (i64_id hg3)) ?_;refine go_p rfl rfl rfl (oAs rfl) ?_;refine gNl ?_;exact ⟨_, (), hj1, ⟨rfl, trivial⟩, ⟨rfl, rfl, trivial⟩, [], rfl⟩
   ·replace hj1 := cond_f hc2 hj1
    refine g_exit ?_;exact ⟨_, (), some_eq hj1, trivial, trivial, [], rfl⟩
  ·rintro _ _ hst
   subst hst
   replace hm1 := on_go hm1
   refine k_norm (L' := []) (ms' := []) rfl rfl ?_;refine g_seq (gRg ?_);refine go_p rfl rfl rfl (oAs rfl) ?_;refine gNl (g_ret ?_);exact retK (ret_one' rfl (ret_tmp rfl) (perm_drop _)) (congrArg (fun (p : Bool) => (.bool p : D)) (some_eq hm1))
noncomputable def m_rb_Same (a1 : RSeq) (bv1 : RSeq) : Option Bool :=
 (m_ba_SameInts a1.l bv1.l).bind fun x1 =>
 (bif x1 then ((m_ba_SameInts a1.r bv1.r).bind fun x2 =>
 some x2) else (some false)).bind fun p1 =>
 some p1
theorem w_rb_Same {a1 : RSeq} {bv1 : RSeq} {r_1 : Bool} (hm : m_rb_Same a1 bv1 = some r_1) : Fn0 Tryz.prog 63 [RSeq.d a1, RSeq.d bv1] (.bool r_1) := by
 unfold m_rb_Same at hm;refine fn_intro func63 rfl ntmps63 rfl fun H0 fr w0 => ?_;refine g_seq (gRg ?_);refine go_p rfl rfl rfl (o_box rfl rfl) ?_;refine go_p rfl rfl rfl (o_box rfl rfl) ?_;refine go_p rfl rfl rfl (oAs rfl) ?_;refine gNl (g_seq (gRg ?_));refine go_p rfl rfl rfl (oFa fi_80_0 rfl rfl rfl) ?_;refine go_p rfl rfl rfl (o_load isAgg25 rfl rfl) ?_;refine go_p rfl rfl rfl (oFa fi_80_0 rfl rfl rfl) ?_;refine go_p rfl rfl rfl (o_load isAgg25 rfl rfl) ?_;obtain ⟨x1, hx1, hm⟩ := bind_some hm;refine go_p rfl rfl rfl (o_call0 call24 rfl (w_ba_SameInts hx1)) ?_;refine go_p rfl rfl rfl (oMv rfl) ?_;obtain ⟨p1, hp_1, hm⟩ := bind_some hm;refine go_two [] 6 16 p1 (t := 10) trivial rfl (fun hg_1 hk1 => ?_) (fun hg_1 hk1 => ?_) ?_
 ·replace hp_1 := cond_t hg_1 hp_1
  refine gWp rfl rfl rfl hg_1 rfl rfl (oFa fi_80_1 rfl rfl rfl) ?_;refine gWp rfl rfl rfl hg_1 rfl rfl (o_load isAgg25 rfl rfl) ?_;refine gWp rfl rfl rfl hg_1 rfl rfl (oFa fi_80_1 rfl rfl rfl) ?_;refine gWp rfl rfl rfl hg_1 rfl rfl (o_load isAgg25 rfl rfl) ?_;obtain ⟨x2, hx2, hp_1⟩ := bind_some hp_1;refine gWp rfl rfl rfl hg_1 rfl rfl (o_call0 call24 rfl (w_ba_SameInts hx2)) ?_;refine go_p rfl rfl rfl (o_pickT rfl hg_1 rfl) ?_;exact gMt hk1 (congrArg (fun b => some (D.bool b)) (some_eq hp_1)) trivial
 ·replace hp_1 := cond_f hg_1 hp_1
  refine gKp rfl rfl rfl hg_1 rfl rfl ?_;refine gKp rfl rfl rfl hg_1 rfl rfl ?_;refine gKp rfl rfl rfl hg_1 rfl rfl ?_;refine gKp rfl rfl rfl hg_1 rfl rfl ?_;refine gKp rfl rfl rfl hg_1 rfl rfl ?_;refine go_p rfl rfl rfl (o_pickF rfl hg_1 rfl) ?_;exact gMt hk1 (congrArg (fun b => some (D.bool b)) (some_eq hp_1)) trivial
 refine go_p rfl rfl rfl (oAs rfl) ?_;refine gNl (g_ret ?_);exact retK (ret_one' rfl (ret_tmp rfl) (perm_drop _)) (congrArg (fun (p : Bool) => (.bool p : D)) (some_eq hm))
noncomputable def m_rb_Holds_l3 (x4 : (List RSeq)) (k1 : Int) (l4 : (List RSeq)) : Nat -> (Bool × Int) -> Option Bool
 | 0, _ => none
 | n + 1, (is2, j1) =>
  bif ((decide (j1 < (l4.length : Int))) && (!is2)) then
   (idx l4 j1).bind fun x6 =>
   (idx x4 k1).bind fun x7 =>
   (m_rb_Same x6 x7).bind fun x8 =>
   grd (InR (j1 + 1)) <|
   m_rb_Holds_l3 x4 k1 l4 n (x8, (j1 + 1))
  else
   some is2
noncomputable def m_rb_Holds_l2 (x4 : (List RSeq)) : Nat -> (Int × (List RSeq)) -> Option (List RSeq)
 | 0, _ => none
 | n + 1, (k1, l4) =>
  bif (decide (k1 < (x4.length : Int))) then
   (m_rb_Holds_l3 x4 k1 l4 FU (false, 0) : Option Bool).bind fun is1 =>
   bif (!is1) then
    (idx x4 k1).bind fun x9 =>
    grd ((l4.length + ([x9] : List _).length) * 48 <= 140737488355328) <|
    grd (InR (k1 + 1)) <|
    m_rb_Holds_l2 x4 n ((k1 + 1), (l4 ++ [x9]))
   else
    grd (InR (k1 + 1)) <|
    m_rb_Holds_l2 x4 n ((k1 + 1), l4)
  else
   some l4
noncomputable def m_rb_Holds_l1 (t1 : ApiType) : Nat -> (Int × (List RSeq)) -> Option (Out Bool (List RSeq))
 | 0, _ => none
 | n + 1, (i1, l2) =>
  bif (decide (i1 < (l2.length : Int))) then
   (idx l2 i1).bind fun x3 =>
   (m_rb_Leads t1 x3).bind fun (x4, x5) =>
   bif (!x5) then
    some (Out.ret false)
   else
    (m_rb_Holds_l2 x4 FU (0, l2) : Option (List RSeq)).bind fun l3 =>
    grd (InR (i1 + 1)) <|
    m_rb_Holds_l1 t1 n ((i1 + 1), l3)
  else
   some (Out.go (l2))
noncomputable def m_rb_Holds (t1 : ApiType) (left1 : (List Int)) (right1 : (List Int)) : Option Bool :=
 (m_rb_Set left1).bind fun x1 =>
 (m_rb_Set right1).bind fun x2 =>
 ((m_rb_Holds_l1 t1 FU (0, [(⟨x1, x2⟩ : RSeq)]) : Option (Out Bool (List RSeq)))).bind (fun oo => oo.on (fun r1 => some r1) (fun l1 =>
 some true))
theorem w_rb_Holds {t1 : ApiType} {left1 : (List Int)} {right1 : (List Int)} {r_1 : Bool} (hm : m_rb_Holds t1 left1 right1 = some r_1) : Fn0 Tryz.prog 18 [ApiType.d t1, .list 1 D.i64 left1, .list 1 D.i64 right1] (.bool r_1) := by
 unfold m_rb_Holds at hm;refine fn_intro func18 rfl ntmps18 rfl fun H0 fr w0 => ?_;refine g_seq (gRg ?_);refine go_p rfl rfl rfl (o_box rfl rfl) ?_;refine go_p rfl rfl rfl (oAs rfl) ?_;refine gNl (g_seq (gRg ?_));refine go_p rfl rfl rfl (oMv rfl) ?_;obtain ⟨x1, hx1, hm⟩ := bind_some hm;refine go_p rfl rfl rfl (o_call0 call61 rfl (w_rb_Set hx1)) ?_;refine go_p rfl rfl rfl (oMv rfl) ?_;obtain ⟨x2, hx2, hm⟩ := bind_some hm;refine go_p rfl rfl rfl (o_call0 call61 rfl (w_rb_Set hx2)) ?_;refine go_p rfl rfl rfl (o_build (zs := [.list 1 D.i64 [], .list 1 D.i64 []]) runUnderlying80 zeroValue80 (pl_80 _ runUnderlying80) rfl rfl rfl rfl) ?_;refine go_op rfl rfl rfl (o_buildSlice_row (xs := [_]) (f := RSeq.d) (l := [(⟨x1, x2⟩ : RSeq)]) runUnderlying81 sizeOf80 zeroValue80 rfl rfl rfl (fun _ => ⟨rfl, rfl, rfl⟩) rfl (by simp [maxLen])) ?_;rintro _ _ ⟨a_r1, rfl, rfl⟩;refine go_p rfl rfl rfl (oAs rfl) ?_;refine gNl (g_seq (g_seq (gRg ?_)));refine go_p rfl rfl rfl (oAs rfl) ?_;refine gNl ?_;obtain ⟨o_1, hj1, hm1⟩ := bind_some hm;refine g_cut_m [] [] (fun (st : (List RSeq)) (hid : (Option Addr × Nat)) => match st, hid with | l1, (a_r1, cap_r1) => []) (fun F (st : (List RSeq)) (hid : (Option Addr × Nat)) => match st, hid with | l1, (a_r1, cap_r1) => [row a_r1 cap_r1 80 2 RSeq.d l1]) (fun st => Out.go (st) = o_1) trivial trivial ?_ ?_
 ·skip
  refine g_block ?_;refine g_loop_m [(3, _)] [] (fun (st : (Int × (List RSeq))) (hid : (Option Addr × Nat)) => match st, hid with | (i1, l2), (a_r1, cap_r1) => [(7, .v (.slice a_r1 l2.length cap_r1)), (8, .i64 i1)]) (fun F (st : (Int × (List RSeq))) (hid : (Option Addr × Nat)) => match st, hid with | (i1, l2), (a_r1, cap_r1) => [row a_r1 cap_r1 80 2 RSeq.d l2]) (_, _) hj1 (fun _ => rfl) ⟨rfl, trivial⟩ trivial ⟨rfl, rfl, trivial⟩ rfl ?_;rintro n ⟨i1, l2⟩ ⟨a_r1, cap_r1⟩ hj1;rw [m_rb_Holds_l1] at hj1;refine g_norm (L' := [(7, .v (.slice a_r1 l2.length cap_r1)), (8, .i64 i1), (3, _)]) (ms' := [row a_r1 cap_r1 80 2 RSeq.d l2]) rfl rfl ?_;refine g_seq (g_seq (gRg ?_));refine go_p rfl rfl rfl (oMv rfl) ?_;refine go_p rfl rfl rfl (oMv rfl) ?_;refine go_p rfl rfl rfl (.view (peekE (i := 21) 0 rfl rfl rfl) (o_len runUnderlying81 rfl)) ?_;refine go_p rfl rfl rfl (o_cmp rfl rfl rfl) ?_;refine gNl ?_;refine gCd rfl (fun hc1 => ?_) (fun hc1 => ?_)
  ·replace hj1 := cond_t hc1 hj1
   refine gSp (g_seq (g_block (g_seq ?_)));obtain ⟨x3, hx3, hj1⟩ := bind_some hj1;obtain ⟨⟨x4, x5⟩, hx4, hj1⟩ := bind_some hj1;refine g_draw 11 Tryz_mixed (by decide +kernel) ?_;refine gd_p rfl rfl rfl (o_load_agg isAgg24 sizeOf24 rfl rfl) ?_;refine gd_p rfl rfl rfl (oMv rfl) ?_;refine gd_p rfl rfl rfl (oMv rfl) ?_;refine gd_p rfl rfl rfl (.view (peekE (i := 28) 0 rfl rfl rfl) (oIm runUnderlying81 sizeOf80 rfl rfl hx3)) ?_;refine gd_p rfl rfl rfl (o_load_agg isAgg80 sizeOf80 rfl rfl) ?_;refine gd_p rfl rfl rfl (o_call0 call62 rfl (w_rb_Leads hx4)) ?_;refine gd_p rfl rfl rfl (oMv rfl) ?_;refine gd_p rfl rfl rfl (o_extract rfl rfl) ?_;refine gd_p rfl rfl rfl (o_extract rfl rfl) ?_;refine gd_p rfl rfl rfl (oAs rfl) ?_;refine gd_p rfl rfl rfl (oAs rfl) ?_;refine gd_nil ?_;refine gNl (g_seq (g_seq (gRg ?_)));refine go_p rfl rfl rfl (oMv rfl) ?_;refine go_p rfl rfl rfl (o_not rfl) ?_;refine gNl ?_;refine gCd rfl (fun hc2 => ?_) (fun hc2 => ?_)
   ·replace hj1 := cond_t hc2 hj1
    refine g_seq (gRg ?_);refine go_p rfl rfl rfl (oAs rfl) ?_;refine gNl (g_ret ?_);obtain rfl := some_eq hj1
    replace hm1 := on_ret hm1
    exact retK (ret_one' rfl (ret_tmp rfl) (perm_drop _)) (congrArg (fun (p : Bool) => (.bool p : D)) (some_eq hm1))
   ·replace hj1 := cond_f hc2 hj1
    refine gSp (g_seq (gRg ?_));refine go_p rfl rfl rfl (oAs rfl) ?_;refine gNl ?_;obtain ⟨o_2, hj2, hm2⟩ := bind_some hj1;refine g_cut_m [(3, _), (8, _)] [] (fun (st : (List RSeq)) (hid : (Option Addr × Nat)) => match st, hid with | l3, (a_r1, cap_r1) => [(7, .v (.slice a_r1 l3.length cap_r1))]) (fun F (st : (List RSeq)) (hid : (Option Addr × Nat)) => match st, hid with | l3, (a_r1, cap_r1) => [row a_r1 cap_r1 80 2 RSeq.d l3]) (fun st => st = o_2) ⟨rfl, rfl, trivial⟩ trivial ?_ ?_
    ·skip
     refine g_block ?_;refine g_loop_m [(3, _), (8, _), (9, _)] [] (fun (st : (Int × (List RSeq))) (hid : (Option Addr × Nat)) => match st, hid with | (k1, l4), (a_r1, cap_r1) => [(7, .v (.slice a_r1 l4.length cap_r1)), (11, .i64 k1)]) (fun F (st : (Int × (List RSeq))) (hid : (Option Addr × Nat)) => match st, hid with | (k1, l4), (a_r1, cap_r1) => [row a_r1 cap_r1 80 2 RSeq.d l4]) (_, _) hj2 (fun _ => rfl) ⟨rfl, rfl, rfl, trivial⟩ trivial ⟨rfl, rfl, trivial⟩ rfl ?_;rintro n ⟨k1, l4⟩ ⟨a_r1, cap_r1⟩ hj2;rw [m_rb_Holds_l2] at hj2;refine g_norm (L' := [(7, .v (.slice a_r1 l4.length cap_r1)), (11, .i64 k1), (3, _), (8, _), (9, _)]) (ms' := [row a_r1 cap_r1 80 2 RSeq.d l4]) rfl rfl ?_;refine g_seq (g_seq (gRg ?_));refine go_p rfl rfl rfl (oMv rfl) ?_;refine go_p rfl rfl rfl (oMv rfl) ?_;refine go_p rfl rfl rfl (o_len runUnderlying81 rfl) ?_;refine go_p rfl rfl rfl (o_cmp rfl rfl rfl) ?_;refine gNl ?_;refine gCd rfl (fun hc3 => ?_) (fun hc3 => ?_)
     ·replace hj2 := cond_t hc3 hj2
      refine gSp (g_seq (g_block (g_seq (gRg ?_))));refine go_p rfl rfl rfl (oAs rfl) ?_;refine gNl (g_seq (g_seq (gRg ?_)));refine go_p rfl rfl rfl (oAs rfl) ?_;refine gNl ?_;obtain ⟨o_3, hj3, hm3⟩ := bind_some hj2;refine g_cut_m [(3, _), (7, _), (8, _), (9, _), (11, _)] [(0, _)] (fun (st : Bool) (hid : Unit) => match st, hid with | is1, _ => [(12, .bool is1)]) (fun F (st : Bool) (hid : Unit) => match st, hid with | is1, _ => [(nthF F 0)]) (fun st => st = o_3) ⟨rfl, rfl, rfl, rfl, rfl, trivial⟩ ⟨rfl, trivial⟩ ?_ ?_
      ·skip
       refine g_block ?_;refine g_loop_m [(3, _), (7, _), (8, _), (9, _), (11, _)] [(0, _)] (fun (st : (Bool × Int)) (hid : Unit) => match st, hid with | (is2, j1), _ => [(12, .bool is2), (13, .i64 j1)]) (fun F (st : (Bool × Int)) (hid : Unit) => match st, hid with | (is2, j1), _ => [(nthF F 0)]) () hj3 (fun _ => rfl) ⟨rfl, rfl, rfl, rfl, rfl, trivial⟩ ⟨rfl, trivial⟩ ⟨rfl, rfl, trivial⟩ rfl ?_;rintro n ⟨is2, j1⟩ _ hj3;rw [m_rb_Holds_l3] at hj3;refine g_norm (L' := [(12, .bool is2), (13, .i64 j1), (3, _), (7, _), (8, _), (9, _), (11, _)]) (ms' := [_]) rfl rfl ?_;refine g_seq (g_seq (gRg ?_));refine go_p rfl rfl rfl (oMv rfl) ?_;refine go_p rfl rfl rfl (oMv rfl) ?_;refine go_p rfl rfl rfl (.view (peekE (i := 44) 0 rfl rfl rfl) (o_len runUnderlying81 rfl)) ?_;refine go_p rfl rfl rfl (o_cmp rfl rfl rfl) ?_;refine go_p rfl rfl rfl (oMv rfl) ?_
       apply go_and [(3, _), (7, _), (8, _), (9, _), (11, _), (12, _), (13, _)] 3 50 (t := 47) ⟨rfl, rfl, rfl, rfl, rfl, rfl, rfl, trivial⟩ rfl
       ·intro hg_1 hk1
        refine gWp rfl rfl rfl hg_1 rfl rfl (oMv rfl) ?_;refine gWp rfl rfl rfl hg_1 rfl rfl (o_not rfl) ?_;refine go_p rfl rfl rfl (o_pickT rfl hg_1 rfl) ?_;exact gMt hk1 (rfl) ⟨rfl, rfl, rfl, rfl, rfl, rfl, rfl, trivial⟩
       ·intro hg_1 hk1
        refine gKp rfl rfl rfl hg_1 rfl rfl ?_;refine gKp rfl rfl rfl hg_1 rfl rfl ?_;refine go_p rfl rfl rfl (o_pickF rfl hg_1 rfl) ?_;exact gMt hk1 (rfl) ⟨rfl, rfl, rfl, rfl, rfl, rfl, rfl, trivial⟩
       refine gNl ?_;refine gCd rfl (fun hc4 => ?_) (fun hc4 => ?_)
       ·replace hj3 := cond_t hc4 hj3
        refine gSp (g_seq (g_block ?_));obtain ⟨x6, hx5, hj3⟩ := bind_some hj3;obtain ⟨x7, hx6, hj3⟩ := bind_some hj3;obtain ⟨x8, hx7, hj3⟩ := bind_some hj3;refine g_draw 10 Tryz_mixed (by decide +kernel) ?_;refine gd_p rfl rfl rfl (oMv rfl) ?_;refine gd_p rfl rfl rfl (oMv rfl) ?_;refine gd_p rfl rfl rfl (.view (peekE (i := 53) 0 rfl rfl rfl) (oIm runUnderlying81 sizeOf80 rfl rfl hx5)) ?_;refine gd_p rfl rfl rfl (o_load_agg isAgg80 sizeOf80 rfl rfl) ?_;refine gd_p rfl rfl rfl (oMv rfl) ?_;refine gd_p rfl rfl rfl (oMv rfl) ?_;refine gd_p rfl rfl rfl (oIm runUnderlying81 sizeOf80 rfl rfl hx6) ?_;refine gd_p rfl rfl rfl (o_load_agg isAgg80 sizeOf80 rfl rfl) ?_;refine gd_p rfl rfl rfl (o_call0 call63 rfl (w_rb_Same hx7)) ?_;refine gd_p rfl rfl rfl (oAs rfl) ?_;refine gd_nil ?_;refine gNl (gRg ?_);refine go_p rfl rfl rfl (oMv rfl) ?_;obtain ⟨hg8, hj3⟩ := grd_some hj3;refine go_p rfl rfl rfl (o_add rfl rfl (i64_id hg8)) ?_;refine go_p rfl rfl rfl (oAs rfl) ?_;refine gNl ?_;exact ⟨_, (), hj3, ⟨rfl, rfl, trivial⟩, ⟨rfl, rfl, rfl, rfl, rfl, trivial⟩, [], rfl⟩
       ·replace hj3 := cond_f hc4 hj3
        refine g_exit ?_;exact ⟨_, (), some_eq hj3, ⟨rfl, trivial⟩, ⟨rfl, rfl, rfl, rfl, rfl, trivial⟩, [], rfl⟩
      ·rintro is1 _ hst
       subst hst;refine k_norm (L' := [(12, .bool is1), (3, _), (7, _), (8, _), (9, _), (11, _)]) (ms' := [_]) rfl rfl ?_;refine g_seq (gRg ?_);refine go_p rfl rfl rfl (oMv rfl) ?_;refine go_p rfl rfl rfl (o_not rfl) ?_;refine gNl ?_;refine gCd rfl (fun hc5 => ?_) (fun hc5 => ?_)
       ·replace hm3 := cond_t hc5 hm3
        refine gRg ?_;refine go_p rfl rfl rfl (oMv rfl) ?_;refine go_p rfl rfl rfl (oMv rfl) ?_;refine go_p rfl rfl rfl (oMv rfl) ?_;obtain ⟨x9, hx9, hm3⟩ := bind_some hm3;refine go_p rfl rfl rfl (oIm runUnderlying81 sizeOf80 rfl rfl hx9) ?_;refine go_p rfl rfl rfl (o_load_agg isAgg80 sizeOf80 rfl rfl) ?_;refine go_p rfl rfl rfl (o_buildSlice (xs := [_]) (f := RSeq.d) (l := [_]) runUnderlying81 sizeOf80 zeroValue80 rfl rfl rfl (fun _ => ⟨rfl, rfl, rfl⟩) rfl) ?_;obtain ⟨hg10, hm3⟩ := grd_some hm3;refine go_op rfl rfl rfl (o_append (a := _) 0 underlying81 type80 rfl rfl rfl rfl rfl rfl rfl (fun _ => rfl) (fun _ => rfl) hg10 (app_len hg10 rfl)) ?_;rintro _ _ ⟨a_r1, cap_r1, rfl, rfl⟩;refine go_ms (ms' := [_]) rfl ?_;refine go_p rfl rfl rfl (oAs rfl) ?_;refine gNl (gRg ?_);refine go_p rfl rfl rfl (oMv rfl) ?_;obtain ⟨hg11, hm3⟩ := grd_some hm3;refine go_p rfl rfl rfl (o_add rfl rfl (i64_id hg11)) ?_;refine go_p rfl rfl rfl (oAs rfl) ?_;refine gNl ?_;exact ⟨_, (_, _), hm3, ⟨rfl, rfl, trivial⟩, ⟨rfl, rfl, rfl, trivial⟩, [], rfl⟩
       ·replace hm3 := cond_f hc5 hm3
        refine gSp (gRg ?_);refine go_p rfl rfl rfl (oMv rfl) ?_;obtain ⟨hg12, hm3⟩ := grd_some hm3;refine go_p rfl rfl rfl (o_add rfl rfl (i64_id hg12)) ?_;refine go_p rfl rfl rfl (oAs rfl) ?_;refine gNl ?_;exact ⟨_, (_, _), hm3, ⟨rfl, rfl, trivial⟩, ⟨rfl, rfl, rfl, trivial⟩, [], rfl⟩
     ·replace hj2 := cond_f hc3 hj2
      refine g_exit ?_;exact ⟨_, (_, _), some_eq hj2, ⟨rfl, trivial⟩, ⟨rfl, rfl, trivial⟩, [], rfl⟩
    ·rintro l3 ⟨a_r1, cap_r1⟩ hst
     subst hst;refine k_norm (L' := [(7, .v (.slice a_r1 l3.length cap_r1)), (3, _), (8, _)]) (ms' := [row a_r1 cap_r1 80 2 RSeq.d l3]) rfl rfl ?_;refine gRg ?_;refine go_p rfl rfl rfl (oMv rfl) ?_;obtain ⟨hg13, hm2⟩ := grd_some hm2;refine go_p rfl rfl rfl (o_add rfl rfl (i64_id hg13)) ?_;refine go_p rfl rfl rfl (oAs rfl) ?_;refine gNl ?_;exact ⟨_, (_, _), hm2, ⟨rfl, rfl, trivial⟩, ⟨rfl, trivial⟩, [], rfl⟩
  ·replace hj1 := cond_f hc1 hj1
   refine g_exit ?_;exact ⟨_, (_, _), some_eq hj1, trivial, trivial, [], rfl⟩
 ·rintro l1 ⟨a_r1, cap_r1⟩ hst
  subst hst
  replace hm1 := on_go hm1
  refine k_norm (L' := []) (ms' := [row a_r1 cap_r1 80 2 RSeq.d l1]) rfl rfl ?_;refine g_seq (gRg ?_);refine go_p rfl rfl rfl (oAs rfl) ?_;refine gNl (g_ret ?_);exact retK (ret_one' rfl (ret_tmp rfl) (perm_drop _)) (congrArg (fun (p : Bool) => (.bool p : D)) (some_eq hm1))
end Go.Proofs.YtkfnogdccpcmhaaGreatDoor
namespace Go.Proofs.YtkfnogdccpcmhaaGreatDoor
open Go.V Tryz
open Classical
theorem FUv : FU = 18446744073709551616 := rfl
theorem bt (b c : Bool) : (bif b then some true else some c : Option Bool) = some (b || c) := by cases b <;> rfl
theorem bf (b c : Bool) : (bif b then some c else some false : Option Bool) = some (b && c) := by cases b <;> rfl
def smallB (c : UInt8) : Bool := (decide (97 <= (c.toNat : Int)) && decide ((c.toNat : Int) <= 122)) || decide ((c.toNat : Int) = 95)
def greatB (c : UInt8) : Bool := decide (65 <= (c.toNat : Int)) && decide ((c.toNat : Int) <= 90)
def moreB (c : UInt8) : Bool := (smallB c || greatB c) || (decide (48 <= (c.toNat : Int)) && decide ((c.toNat : Int) <= 57))
def wordP : List UInt8 -> Nat
 | [] => 0
 | c :: r => if smallB c = true \/ greatB c = true then 1 + (r.takeWhile moreB).length else 0
theorem word_c (c : UInt8) (r : List UInt8) : wordP (c :: r) = if smallB c = true \/ greatB c = true then 1 + (r.takeWhile moreB).length else 0 := rfl
theorem word_eq (s : List UInt8) (h : s.length <= 1000000000000) : m_name_Word s = some (wordP s : Int) := by
 unfold m_name_Word
 rcases s with _ | ⟨c, r⟩
 ·rfl
 ·rw [decide_eq_false (by simp), cond_false, idx_c0, Option.bind_some]
  simp only [m_name_small, m_name_great, Option.bind_some, bf];rw [show (((decide (97 <= (c.toNat : Int))) && (decide ((c.toNat : Int) <= 122))) || (decide ((c.toNat : Int) = 95))) = smallB c from rfl, show ((decide (65 <= (c.toNat : Int))) && (decide ((c.toNat : Int) <= 90))) = greatB c from rfl];rw [word_c]
  cases h1 : smallB c || greatB c with
  | false =>
   simp only [Bool.or_eq_false_iff] at h1;rw [h1.1, h1.2]; simp
  | true =>
   rw [if_pos (by simpa using h1)]
   have : (!smallB c && !greatB c) = false := by cases hs : smallB c <;> cases hg : greatB c <;> simp_all
   rw [this, cond_false];simp only [List.length_cons] at h;refine bnd (loop_while (φ := m_name_Word_l1 (c :: r)) (l := c :: r) moreB (fun i => (i : Int)) ?_ ?_ FU 1 (by simp) (by rw [FUv]; simp; omega)) rfl
   ·intro n i x hx hi
    simp only [List.length_cons] at hi;simp only [m_name_Word_l1];rw [decide_eq_true (by simp only [List.length_cons]; omega), cond_true, getI hx, Option.bind_some];simp only [m_name_more, m_name_small, m_name_great, Option.bind_some, bt]
    constructor
    ·intro hq
     simp only [moreB, smallB, greatB] at hq;rw [hq, cond_true, grd_pos (by omega)]
    ·intro hq
     simp only [moreB, smallB, greatB] at hq;rw [hq, cond_false]
   ·intro n
    simp only [m_name_Word_l1];rw [decide_eq_false (by omega), cond_false, Option.bind_some, cond_false]
theorem rword_eq (s : List UInt8) (h : s.length <= 1000000000000) : m_ra_Word s = some (wordP s : Int) := by
 unfold m_ra_Word
 rcases s with _ | ⟨c, r⟩
 ·rfl
 ·rw [decide_eq_false (by simp; omega), cond_false, idx_c0, Option.bind_some]
  simp only [m_ra_small, m_ra_great, Option.bind_some, bf];rw [show (((decide (97 <= (c.toNat : Int))) && (decide ((c.toNat : Int) <= 122))) || (decide ((c.toNat : Int) = 95))) = smallB c from rfl, show ((decide (65 <= (c.toNat : Int))) && (decide ((c.toNat : Int) <= 90))) = greatB c from rfl];rw [word_c]
  cases h1 : smallB c || greatB c with
  | false =>
   simp only [Bool.or_eq_false_iff] at h1;rw [h1.1, h1.2]; simp
  | true =>
   rw [if_pos (by simpa using h1)]
   have : (!smallB c && !greatB c) = false := by cases hs : smallB c <;> cases hg : greatB c <;> simp_all
   rw [this, cond_false];simp only [List.length_cons] at h;refine bnd (loop_while (φ := m_ra_Word_l1 (c :: r)) (l := c :: r) moreB (fun i => (i : Int)) ?_ ?_ FU 1 (by simp) (by rw [FUv]; simp; omega)) rfl
   ·intro n i x hx hi
    simp only [List.length_cons] at hi;simp only [m_ra_Word_l1];rw [decide_eq_true (by simp only [List.length_cons]; omega), cond_true, getI hx, Option.bind_some];simp only [m_ra_small, m_ra_great, Option.bind_some, bt, bf]
    constructor
    ·intro hq
     simp only [moreB, smallB, greatB] at hq;rw [hq, cond_true, grd_pos (by omega)]
    ·intro hq
     simp only [moreB, smallB, greatB] at hq;rw [hq, cond_false]
   ·intro n
    simp only [m_ra_Word_l1];rw [decide_eq_false (by omega), cond_false, Option.bind_some, cond_false]
def keysL : List (List UInt8) := match m_name_Keywords with | some l => l | none => []
theorem keys_eq : m_name_Keywords = some keysL := rfl
theorem rkeys_eq : m_ra_Keywords = some keysL := rfl
theorem isKey_eq (l : List (List UInt8)) (s : List UInt8) (h : l.length <= 1000) : m_cnS l s = some (decide (s ∈ l)) := by
 unfold m_cnS m_ixS
 have e := loop_find (φ := m_ixS_l1 l s) (l := l) (fun i => (i : Int)) (fun x => decide (s = x)) (by
  intro n i x hx hi
  simp only [m_ixS_l1];rw [decide_eq_true (show (i : Int) < l.length by omega), cond_true, getI hx, Option.bind_some]
  constructor
  ·intro hq; rw [show decide (s = x) = false from by simpa using hq, cond_false, grd_pos (by omega)]
  ·intro hq; rw [show decide (s = x) = true from by simpa using hq, cond_true]) (by
  intro n
  simp only [m_ixS_l1];rw [decide_eq_false (by omega), cond_false]) (by rw [FUv]; omega)
 rw [bind_of e]
 cases hf : l.findIdx? (fun x => decide (s = x)) with
 | none =>
  rw [List.findIdx?_eq_none_iff] at hf
  show some (decide _) = _
  congr 1
  rw [decide_eq_false (by omega), decide_eq_false]
  intro hs
  have := hf s hs
  simp at this
 | some k =>
  rw [List.findIdx?_eq_some_iff_getElem] at hf;obtain ⟨hk, h1, _⟩ := hf
  show some (decide _) = _
  congr 1
  rw [decide_eq_true (by omega), decide_eq_true];simp only [decide_eq_true_eq] at h1;rw [h1];exact List.getElem_mem hk
theorem rIsKey_eq (l : List (List UInt8)) (s : List UInt8) (h : l.length <= 1000) : m_ra_In s l = some (decide (s ∈ l)) := by
 unfold m_ra_In;refine bnd (loop_any (φ := m_ra_In_l1 s l) (l := l) true (fun _ x => x = s) ?_ ?_ (by rw [FUv]; omega)) ?_
 ·intro n i x hx hi
  simp only [m_ra_In_l1];rw [decide_eq_true (by omega), cond_true, getI hx, Option.bind_some]
  constructor
  ·intro hq; rw [decide_eq_false hq, cond_false, grd_pos (by omega)]
  ·intro hq; rw [decide_eq_true hq, cond_true]
 ·intro n
  simp only [m_ra_In_l1];rw [decide_eq_false (by omega), cond_false]
 ·by_cases hs : s ∈ l
  ·obtain ⟨i, hi, h2⟩ := List.getElem_of_mem hs
   rw [if_pos ⟨i, s, by rw [<- h2]; exact List.getElem?_eq_getElem hi, rfl⟩, decide_eq_true hs]; rfl
  ·rw [if_neg, decide_eq_false hs]; rfl
   rintro ⟨i, x, h1, rfl⟩;exact hs (List.mem_of_getElem? h1)
def headP (p : UInt8 -> Bool) : List UInt8 -> Bool
 | [] => false
 | c :: _ => p c
def wholeP (s : List UInt8) : Bool := decide (s ≠ []) && decide (s.length <= 20) && decide (wordP s = s.length)
def nameP (s : List UInt8) : Bool := wholeP s && headP smallB s && !decide (s ∈ keysL)
def tagP (s : List UInt8) : Bool := wholeP s && headP greatB s
theorem whole_eq (s : List UInt8) : m_name_whole s = some (wholeP s) := by
 unfold m_name_whole wholeP
 by_cases h1 : s = []
 ·subst h1; rfl
 by_cases h2 : s.length <= 20
 ·rw [decide_eq_false h1, decide_eq_true (show (s.length : Int) <= 20 by omega), word_eq s (by omega)]
  simp only [Bool.not_false, Bool.true_and, cond_true, Option.bind_some, decide_eq_true (show s ≠ [] from h1), decide_eq_true h2]
  congr 1
  exact decide_eq_decide.2 (by omega)
 ·rw [decide_eq_false (show ¬ (s.length : Int) <= 20 by omega), decide_eq_false h2]; simp
theorem name_eq (s : List UInt8) : m_name_Name s = some (nameP s) := by
 unfold m_name_Name nameP;rw [whole_eq, Option.bind_some]
 cases hw : wholeP s with
 | false => rfl
 | true =>
  rcases s with _ | ⟨c, r⟩
  ·simp [wholeP] at hw
  ·rw [cond_true, idx_c0, Option.bind_some]
   simp only [m_name_small, Option.bind_some, m_name_Keyword, keys_eq, Bool.true_and];rw [isKey_eq _ _ (by decide), Option.bind_some, Option.bind_some, bf, Option.bind_some]; rfl
theorem tag_eq (s : List UInt8) : m_name_Tag s = some (tagP s) := by
 unfold m_name_Tag tagP;rw [whole_eq, Option.bind_some]
 cases hw : wholeP s with
 | false => rfl
 | true =>
  rcases s with _ | ⟨c, r⟩
  ·simp [wholeP] at hw
  ·rw [cond_true, idx_c0, Option.bind_some]; rfl
theorem rwhole_eq (s : List UInt8) : (bif ((decide (0 < (s.length : Int))) && (decide ((s.length : Int) <= 20))) then ((m_ra_Word s).bind fun x1 => some (decide (x1 = (s.length : Int)))) else (some false)) = some (wholeP s) := by
 unfold wholeP
 by_cases h1 : s = []
 ·subst h1; rfl
 have h0 : 0 < s.length := List.length_pos_iff.2 h1
 by_cases h2 : s.length <= 20
 ·rw [decide_eq_true (show 0 < (s.length : Int) by omega), decide_eq_true (show (s.length : Int) <= 20 by omega), rword_eq s (by omega)]
  simp only [Bool.true_and, cond_true, Option.bind_some, decide_eq_true (show s ≠ [] from h1), decide_eq_true h2]
  congr 1
  exact decide_eq_decide.2 (by omega)
 ·rw [decide_eq_false (show ¬ (s.length : Int) <= 20 by omega), decide_eq_false h2]; simp
theorem rname_eq (s : List UInt8) : m_ra_Name s = some (nameP s) := by
 unfold m_ra_Name nameP;refine bnd (rwhole_eq s) ?_
 cases hw : wholeP s with
 | false => rfl
 | true =>
  rcases s with _ | ⟨c, r⟩
  ·simp [wholeP] at hw
  ·rw [cond_true, idx_c0, Option.bind_some]
   simp only [m_ra_small, Option.bind_some, m_ra_Keyword, rkeys_eq, Bool.true_and];rw [rIsKey_eq _ _ (by decide), Option.bind_some, Option.bind_some, bf, Option.bind_some]; rfl
theorem rtag_eq (s : List UInt8) : m_ra_Tag s = some (tagP s) := by
 unfold m_ra_Tag tagP;refine bnd (rwhole_eq s) ?_
 cases hw : wholeP s with
 | false => rfl
 | true =>
  rcases s with _ | ⟨c, r⟩
  ·simp [wholeP] at hw
  ·rw [cond_true, idx_c0, Option.bind_some]; rfl
theorem sameInts_eq (a b : List Int) (h : a.length <= 3000) : m_ba_SameInts a b = some (decide (a = b)) := by
 unfold m_ba_SameInts;simp only [Bool.cond_eq_ite, Bool.not_eq_true', decide_eq_false_iff_not]
 by_cases hl : a.length = b.length
 ·rw [if_neg (by omega)]
  refine bnd (loop_all (φ := m_ba_SameInts_l1 a b) (l := a) false (fun i x => b[i]? = some x) ?_ ?_ (by rw [FUv]; omega)) ?_
  ·intro n i x hx hi
   simp only [m_ba_SameInts_l1]
   have hy : b[i]? = some b[i] := List.getElem?_eq_getElem (by omega)
   rw [decide_eq_true (by omega), cond_true, getI hx, Option.bind_some, getI hy, Option.bind_some, hy];simp only [Bool.cond_eq_ite, Bool.not_eq_true', decide_eq_false_iff_not]
   constructor
   ·intro h; rw [if_neg (by simpa using (Option.some.inj h).symm), grd_pos (by omega)]
   ·intro h; rw [if_pos (by intro h2; exact h (by rw [h2]))]
  ·intro n
   simp only [m_ba_SameInts_l1];rw [decide_eq_false (by omega), cond_false]
  ·by_cases h3 : a = b
   ·subst h3
    rw [if_pos (fun i x h => h), decide_eq_true rfl]; rfl
   ·rw [if_neg, decide_eq_false h3]; rfl
    intro h4
    refine h3 (List.ext_getElem? fun i => ?_)
    by_cases hi : i < a.length
    ·rw [h4 i a[i] (List.getElem?_eq_getElem hi), List.getElem?_eq_getElem hi]
    ·rw [List.getElem?_eq_none (by omega), List.getElem?_eq_none (by omega)]
 ·rw [if_pos (by omega), decide_eq_false (fun h => hl (by rw [h]))]
def fewN (n : ApiTNode) : ApiTNode := ⟨n.kind, n.a, n.b, [] ++ n.l.take 40⟩
def fewC (m : Nat) (l : List ApiTNode) : Nat := if 2000 < l.length then 2001 else m
def fewT (m : Nat) (t : ApiType) : ApiType := ⟨(t.l.take (fewC m t.l)).map fewN, t.root⟩
theorem min40 (l : List ApiTField) : sli l 0 (if 40 < (l.length : Int) then 40 else (l.length : Int)) = some (l.take 40) := by
 by_cases h : 40 < (l.length : Int)
 ·rw [if_pos h]; exact sli_take (k := 40) (by omega)
 ·rw [if_neg h, sli_take (by omega), List.take_of_length_le (by omega), List.take_of_length_le (by omega)]
theorem few_eq (t : ApiType) (m : Nat) (M : Int) (hM : M = m) (hm : m <= 2000) : m_lg_Few t M = some (fewT m t) := by
 subst hM;unfold m_lg_Few fewT
 have hC : fewC m t.l = 2001 /\ 2000 < t.l.length \/ fewC m t.l = m /\ ¬ 2000 < t.l.length := by unfold fewC; split <;> simp_all
 have hL : (t.l.take (fewC m t.l)).length <= 2001 /\ (t.l.take (fewC m t.l)).length <= t.l.length /\ (t.l.take (fewC m t.l)).length <= fewC m t.l := by rw [List.length_take]; omega
 rw [loop_map (φ := fun n i s => m_lg_Few_l1 t (m : Int) n (i, s, t.root)) (l := t.l.take (fewC m t.l)) fewN (fun s => (s, t.root)) 0 ?_ ?_ (by rw [FUv]; omega) [] rfl]
 ·rfl
 ·intro n i x s hx hi hs
  have hx2 : t.l[i]? = some x := by
   rw [List.getElem?_take, if_pos (by omega)] at hx;exact hx
  have h40 : (x.l.take 40).length <= 40 := by rw [List.length_take]; omega
  simp only [m_lg_Few_l1];rw [decide_eq_true (show (i : Int) < t.l.length by omega), Bool.true_and, show (decide ((i : Int) < (m : Int)) || (decide (2000 < (t.l.length : Int)) && decide ((i : Int) <= 2000))) = true by
   rw [Bool.or_eq_true, Bool.and_eq_true, decide_eq_true_eq, decide_eq_true_eq, decide_eq_true_eq]; omega, cond_true, getI hx2, Option.bind_some, min40, Option.bind_some, grd_pos (by omega), grd_pos (by simp only [List.length_cons, List.length_nil]; omega), grd_pos (by omega)]
  rfl
 ·intro n s hs
  simp only [m_lg_Few_l1];rw [show (decide (((t.l.take (fewC m t.l)).length : Int) < t.l.length) && (decide (((t.l.take (fewC m t.l)).length : Int) < (m : Int)) || (decide (2000 < (t.l.length : Int)) && decide (((t.l.take (fewC m t.l)).length : Int) <= 2000)))) = false by
   rw [List.length_take, Bool.and_eq_false_iff, Bool.or_eq_false_iff, Bool.and_eq_false_iff, decide_eq_false_iff_not, decide_eq_false_iff_not, decide_eq_false_iff_not, decide_eq_false_iff_not]; omega, cond_false]
theorem fewT_len (m : Nat) (hm : m <= 2000) (t : ApiType) : (fewT m t).l.length <= 2001 := by unfold fewT fewC; simp only [List.length_map, List.length_take]; split <;> omega
def NB (n : ApiTNode) : Prop := n.l.length <= 40
theorem fewN_nb (n : ApiTNode) : NB (fewN n) := by unfold fewN NB; simp; omega
theorem fewT_nb (m : Nat) (t : ApiType) : ∀ n ∈ (fewT m t).l, NB n := by
 intro n hn
 obtain ⟨k, _, rfl⟩ := List.mem_map.1 hn;exact fewN_nb k
theorem fewN_fewN (n : ApiTNode) : fewN (fewN n) = fewN n := by
 unfold fewN;simp only [List.nil_append, ApiTNode.mk.injEq, true_and];exact List.take_of_length_le (by rw [List.length_take]; omega)
theorem fewT_fewT (m : Nat) (hm : m <= 2000) (t : ApiType) : fewT m (fewT m t) = fewT m t := by
 have h1 := fewT_len m hm t
 have h2 : fewC m (fewT m t).l = fewC m t.l := by
  unfold fewC
  have : (fewT m t).l.length = min (fewC m t.l) t.l.length := by unfold fewT; simp
  rw [this]; unfold fewC
  split <;> split <;> omega
 have h3 : (fewT m t).l.length <= fewC m t.l := by unfold fewT; simp; omega
 show (⟨((fewT m t).l.take (fewC m (fewT m t).l)).map fewN, t.root⟩ : ApiType) = _
 rw [h2, List.take_of_length_le h3];unfold fewT;simp only [List.map_map]
 congr 1
 exact List.map_congr_left fun n _ => fewN_fewN n
theorem fewT_small (m : Nat) (t : ApiType) (h : (fewT m t).l.length <= 2000) : (fewT m t).l.length <= m := by
 unfold fewT fewC at h ⊢;simp only [List.length_map, List.length_take] at h ⊢
 split at h <;> split <;> omega
def pB (k : Int) : Bool := (decide (k = 6) || decide (k = 9)) || decide (k = 10)
def wB (k : Int) : Bool := decide (k = 7) || decide (k = 8)
def kidsL (n : ApiTNode) : List Int := bif pB n.kind then [n.a, n.b] else bif wB n.kind then n.l.map (·.at_) else []
theorem kids_eq (n : ApiTNode) (h : NB n) : m_graph_Kids n = some (kidsL n) := by
 unfold m_graph_Kids kidsL m_graph_pair m_graph_wide;unfold NB at h;rw [Option.bind_some, Option.bind_some]
 change (bif pB n.kind then _ else bif wB n.kind then _ else _) = _
 cases pB n.kind
 ·cases wB n.kind
  ·rfl
  ·rw [cond_false, cond_true, cond_false, cond_true, loop_map (φ := fun k i s => m_graph_Kids_l1 n k (i, s)) (l := n.l) (·.at_) id 0 ?_ ?_ (by rw [FUv]; omega) [] rfl]
   ·rfl
   ·intro k i x s hx hi hs
    simp only [m_graph_Kids_l1];rw [decide_eq_true (show (i : Int) < n.l.length by omega), cond_true, getI hx, Option.bind_some, grd_pos (by simp only [List.length_cons, List.length_nil]; omega), grd_pos (by omega)]
   ·intro k s hs
    simp only [m_graph_Kids_l1];rw [decide_eq_false (by omega), cond_false]; rfl
 ·rfl
theorem rkids_eq (n : ApiTNode) (h : NB n) : m_rg_Kids n = some (kidsL n) := by
 unfold m_rg_Kids kidsL;unfold NB at h
 change (bif pB n.kind then _ else bif wB n.kind then _ else _) = _
 cases pB n.kind
 ·cases wB n.kind
  ·rfl
  ·rw [cond_false, cond_true, cond_false, cond_true, loop_map (φ := fun k i s => m_rg_Kids_l1 n k (i, s)) (l := n.l) (·.at_) id 0 ?_ ?_ (by rw [FUv]; omega) [] rfl]
   ·rfl
   ·intro k i x s hx hi hs
    simp only [m_rg_Kids_l1];rw [decide_eq_true (show (i : Int) < n.l.length by omega), cond_true, getI hx, Option.bind_some, grd_pos (by simp only [List.length_cons, List.length_nil]; omega), grd_pos (by omega)]
   ·intro k s hs
    simp only [m_rg_Kids_l1];rw [decide_eq_false (by omega), cond_false]; rfl
 ·rfl
theorem kidsL_len (n : ApiTNode) (h : NB n) : (kidsL n).length <= 40 := by
 unfold kidsL; unfold NB at h
 cases pB n.kind
 ·cases wB n.kind
  ·simp
  ·simpa using h
 ·simp
def badF (n : ApiTNode) (x : ApiTField) : Bool := (decide (n.kind = 7) && !nameP x.name) || (decide (n.kind = 8) && !tagP x.name)
def okF (n : ApiTNode) (i : Nat) (x : ApiTField) : Prop := badF n x = false /\ (0 < i -> ∀ y, n.l[i - 1]? = some y -> Op.bytesLess y.name x.name = true)
def namedP (n : ApiTNode) : Prop := ∀ i x, n.l[i]? = some x -> okF n i x
theorem named_eq (n : ApiTNode) (h : NB n) : m_graph_named n = some (decide (namedP n) && decide ((n.l.length : Int) <= 30)) := by
 unfold m_graph_named;unfold NB at h;rw [loop_all (φ := m_graph_named_l1 n) (l := n.l) false (okF n) ?_ ?_ (by rw [FUv]; omega), Option.bind_some]
 ·by_cases hp : namedP n
  ·rw [if_pos (show ∀ i x, n.l[i]? = some x -> okF n i x from hp), decide_eq_true hp]; rfl
  ·rw [if_neg (show ¬ ∀ i x, n.l[i]? = some x -> okF n i x from hp), decide_eq_false hp]; rfl
 ·intro k i x hx hi
  simp only [m_graph_named_l1]
  have e1 : ((bif (decide (n.kind = 7)) then ((m_name_Name x.name).bind fun x3 => some (!x3)) else (some false)).bind fun p1 =>
   (bif p1 then (some true) else ((bif (decide (n.kind = 8)) then ((m_name_Tag x.name).bind fun x4 => some (!x4)) else (some false)).bind fun p3 => some p3))) = some (badF n x) := by
   rw [name_eq, tag_eq, Option.bind_some, Option.bind_some, bf, Option.bind_some, bf, Option.bind_some, bt]; rfl
  rw [decide_eq_true (show (i : Int) < n.l.length by omega), cond_true, getI hx, Option.bind_some, <- Option.bind_assoc, e1, Option.bind_some];unfold okF
  cases hb : badF n x
  ·rw [cond_false]
   by_cases h0 : 0 < i
   ·have hy : n.l[i - 1]? = some n.l[i - 1] := List.getElem?_eq_getElem (by omega)
    rw [decide_eq_true (show (0 : Int) < (i : Int) by omega), cond_true, grd_pos (by omega), show ((i : Int) - 1) = ((i - 1 : Nat) : Int) by omega, getI hy, Option.bind_some]
    constructor
    ·rintro ⟨_, h2⟩
     rw [h2 h0 _ hy, Bool.not_true, cond_false, grd_pos (by omega)]
    ·intro h2
     cases hl : Op.bytesLess (n.l[i - 1]).name x.name
     ·rfl
     ·exact absurd ⟨rfl, fun _ y hy2 => by rw [hy] at hy2; cases hy2; exact hl⟩ h2
   ·rw [decide_eq_false (show ¬ (0 : Int) < (i : Int) by omega), cond_false]
    exact ⟨fun _ => by rw [grd_pos (by omega)], fun h2 => absurd ⟨rfl, fun h3 => absurd h3 h0⟩ h2⟩
  ·rw [cond_true]
   exact ⟨fun h2 => by simp at h2, fun _ => rfl⟩
 ·intro k
  simp only [m_graph_named_l1];rw [decide_eq_false (by omega), cond_false]
theorem rnamed_eq (n : ApiTNode) (h : NB n) : m_rg_right_l1 n FU 0 = some (if namedP n then .go () else .ret false) := by
 unfold NB at h;rw [loop_all (φ := m_rg_right_l1 n) (l := n.l) false (okF n) ?_ ?_ (by rw [FUv]; omega)]
 ·rfl
 ·intro k i x hx hi
  simp only [m_rg_right_l1]
  have e1 : ((bif (decide (n.kind = 7)) then ((m_ra_Name x.name).bind fun x3 => some (!x3)) else (some false)).bind fun p1 =>
   (bif p1 then (some true) else ((bif (decide (n.kind = 8)) then ((m_ra_Tag x.name).bind fun x4 => some (!x4)) else (some false)).bind fun p3 => some p3))) = some (badF n x) := by
   rw [rname_eq, rtag_eq, Option.bind_some, Option.bind_some, bf, Option.bind_some, bf, Option.bind_some, bt]; rfl
  rw [decide_eq_true (show (i : Int) < n.l.length by omega), cond_true, getI hx, Option.bind_some, <- Option.bind_assoc, e1, Option.bind_some];unfold okF
  cases hb : badF n x
  ·rw [cond_false]
   by_cases h0 : 0 < i
   ·have hy : n.l[i - 1]? = some n.l[i - 1] := List.getElem?_eq_getElem (by omega)
    rw [decide_eq_true (show (0 : Int) < (i : Int) by omega), cond_true, grd_pos (by omega), show ((i : Int) - 1) = ((i - 1 : Nat) : Int) by omega, getI hy, Option.bind_some, Option.bind_some, Option.bind_some]
    constructor
    ·rintro ⟨_, h2⟩
     rw [h2 h0 _ hy, Bool.not_true, cond_false, grd_pos (by omega)]
    ·intro h2
     cases hl : Op.bytesLess (n.l[i - 1]).name x.name
     ·rfl
     ·exact absurd ⟨rfl, fun _ y hy2 => by rw [hy] at hy2; cases hy2; exact hl⟩ h2
   ·rw [decide_eq_false (show ¬ (0 : Int) < (i : Int) by omega), cond_false, Option.bind_some, Option.bind_some, cond_false]
    exact ⟨fun _ => by rw [grd_pos (by omega)], fun h2 => absurd ⟨rfl, fun h3 => absurd h3 h0⟩ h2⟩
  ·rw [cond_true, Option.bind_some, cond_true]
   exact ⟨fun h2 => by simp at h2, fun _ => rfl⟩
 ·intro k
  simp only [m_rg_right_l1];rw [decide_eq_false (by omega), cond_false]
def inB (all k : Int) : Bool := decide (k < 0) || decide (all <= k)
theorem outKids_eq (l : List Int) (all : Int) (h : l.length <= 1000) : m_cnI l (fun y0 => m_graph_right_1 y0 all) = some (decide (∃ k ∈ l, inB all k = true)) := by
 unfold m_cnI m_ixI;rw [loop_find (φ := m_ixI_l1 l (fun y0 => m_graph_right_1 y0 all)) (l := l) (fun i => (i : Int)) (inB all) ?_ ?_ (by rw [FUv]; omega)]
 ·rw [Option.bind_some]
  cases hf : l.findIdx? (inB all) with
  | none =>
   have : ¬ ∃ k ∈ l, inB all k = true := by
    rintro ⟨c, hc, hne⟩
    have := List.findIdx?_eq_none_iff.1 hf c hc
    rw [hne] at this; cases this
   rw [decide_eq_false this]; rfl
  | some i =>
   obtain ⟨hi, h1, _⟩ := List.findIdx?_eq_some_iff_getElem.1 hf
   have : ∃ k ∈ l, inB all k = true := ⟨l[i], List.getElem_mem hi, h1⟩
   rw [decide_eq_true this]
   show some (decide (0 <= (i : Int))) = some true
   rw [decide_eq_true (by omega)]
 ·intro n i x hx hi
  simp only [m_ixI_l1];rw [decide_eq_true (show (i : Int) < l.length by omega), cond_true, getI hx, Option.bind_some, show m_graph_right_1 x all = some (inB all x) from rfl, Option.bind_some];exact ⟨fun hq => by rw [hq, cond_false, grd_pos (by omega)], fun hq => by rw [hq, cond_true]⟩
 ·intro n
  simp only [m_ixI_l1];rw [decide_eq_false (by omega), cond_false]
theorem routKids_eq (l : List Int) (all : Int) (h : l.length <= 1000) : m_rg_right_l2 all l FU 0 = some (if (∃ k ∈ l, inB all k = true) then .ret false else .go ()) := by
 rw [loop_any (φ := m_rg_right_l2 all l) (l := l) false (fun _ k => inB all k = true) ?_ ?_ (by rw [FUv]; omega)]
 ·have e : (∃ (i : Nat) (x : Int), l[i]? = some x /\ inB all x = true) ↔ ∃ k ∈ l, inB all k = true := by
   constructor
   ·rintro ⟨i, x, h1, h2⟩; exact ⟨x, List.mem_of_getElem? h1, h2⟩
   ·rintro ⟨k, h1, h2⟩; obtain ⟨i, hi⟩ := List.getElem?_of_mem h1; exact ⟨i, k, hi, h2⟩
  by_cases h2 : ∃ k ∈ l, inB all k = true
  ·rw [if_pos (e.2 h2), if_pos h2]
  ·rw [if_neg (fun h3 => h2 (e.1 h3)), if_neg h2]
 ·intro n i x hx hi
  simp only [m_rg_right_l2];rw [decide_eq_true (show (i : Int) < l.length by omega), cond_true, getI hx, Option.bind_some, Option.bind_some, bt, Option.bind_some]
  change (¬ inB all x = true -> (bif inB all x then _ else _) = _) /\ (inB all x = true -> (bif inB all x then _ else _) = _)
  cases inB all x
  ·exact ⟨fun _ => by rw [cond_false, grd_pos (by omega)], fun h => by cases h⟩
  ·exact ⟨fun h => absurd rfl h, fun _ => by rw [cond_true]⟩
 ·intro n
  simp only [m_rg_right_l2];rw [decide_eq_false (by omega), cond_false]
noncomputable def rightB (n : ApiTNode) (all : Int) : Bool :=
 !(decide (n.kind < 1) || decide (11 < n.kind)) && (!((!pB n.kind) && ((!decide (n.b = 0)) || ((!decide (n.kind = 11)) && (!decide (n.a = 0))))) && (!(decide (n.kind = 11) && (decide (n.a < 0) || decide (999 < n.a))) &&
  (!((!wB n.kind) && decide (0 < (n.l.length : Int))) && ((decide (namedP n) && decide ((n.l.length : Int) <= 30)) && !decide (∃ k ∈ kidsL n, inB all k = true)))))
theorem right_eq (n : ApiTNode) (all : Int) (h : NB n) : m_graph_right n all = some (rightB n all) := by
 unfold m_graph_right rightB;rw [show m_graph_pair n.kind = some (pB n.kind) from rfl, show m_graph_wide n.kind = some (wB n.kind) from rfl, Option.bind_some, Option.bind_some, named_eq n h, kids_eq n h, Option.bind_some, Option.bind_some, outKids_eq _ _ (by have := kidsL_len n h; omega), Option.bind_some]
 cases (decide (n.kind < 1) || decide (11 < n.kind))
 ·cases ((!pB n.kind) && ((!decide (n.b = 0)) || ((!decide (n.kind = 11)) && (!decide (n.a = 0)))))
  ·cases (decide (n.kind = 11) && (decide (n.a < 0) || decide (999 < n.a)))
   ·cases ((!wB n.kind) && decide (0 < (n.l.length : Int)))
    ·cases (decide (namedP n) && decide ((n.l.length : Int) <= 30)) <;> rfl
    ·rfl
   ·rfl
  ·rfl
 ·rfl
theorem rright_eq (n : ApiTNode) (all : Int) (h : NB n) : m_rg_right n all = some (rightB n all) := by
 unfold m_rg_right rightB;rw [rnamed_eq n h, rkids_eq n h, Option.bind_some, Option.bind_some, routKids_eq _ _ (by have := kidsL_len n h; omega), Option.bind_some]
 change (bif ((((((decide (n.kind < 1)) || (decide (11 < n.kind))) || (((!pB n.kind) && (!decide (n.kind = 11))) && (!decide (n.a = 0)))) || ((!pB n.kind) && (!decide (n.b = 0)))) || ((!wB n.kind) && (decide (0 < (n.l.length : Int))))) || (decide (30 < (n.l.length : Int)))) then _ else _) = _
 rw [show decide (30 < (n.l.length : Int)) = !decide ((n.l.length : Int) <= 30) by rw [<- decide_not]; exact decide_eq_decide.2 (by omega)]
 by_cases hn : namedP n
 ·rw [if_pos hn, decide_eq_true hn]
  by_cases hk : ∃ k ∈ kidsL n, inB all k = true
  ·rw [if_pos hk, decide_eq_true hk]
   cases decide (n.kind < 1) <;> cases decide (11 < n.kind) <;> cases pB n.kind <;> cases wB n.kind <;> cases decide (n.kind = 11) <;> cases decide (n.a = 0) <;> cases decide (n.b = 0) <;> cases decide (0 < (n.l.length : Int)) <;> cases decide ((n.l.length : Int) <= 30) <;> cases decide (n.a < 0) <;> cases decide (999 < n.a) <;> rfl
  ·rw [if_neg hk, decide_eq_false hk]
   cases decide (n.kind < 1) <;> cases decide (11 < n.kind) <;> cases pB n.kind <;> cases wB n.kind <;> cases decide (n.kind = 11) <;> cases decide (n.a = 0) <;> cases decide (n.b = 0) <;> cases decide (0 < (n.l.length : Int)) <;> cases decide ((n.l.length : Int) <= 30) <;> cases decide (n.a < 0) <;> cases decide (999 < n.a) <;> rfl
 ·rw [if_neg hn, decide_eq_false hn]
  cases decide (n.kind < 1) <;> cases decide (11 < n.kind) <;> cases pB n.kind <;> cases wB n.kind <;> cases decide (n.kind = 11) <;> cases decide (n.a = 0) <;> cases decide (n.b = 0) <;> cases decide (0 < (n.l.length : Int)) <;> cases decide ((n.l.length : Int) <= 30) <;> cases decide (n.a < 0) <;> cases decide (999 < n.a) <;> rfl
end Go.Proofs.YtkfnogdccpcmhaaGreatDoor
namespace Go.Proofs.YtkfnogdccpcmhaaGreatDoor
open Go.V Tryz
open Classical
def latB (k : Int) : Bool := decide (k = 9) || decide (k = 10)
def endk (L : List ApiTNode) : Nat -> Nat -> Bool
 | 0, _ => false
 | k + 1, i => match L[i]? with
  | some n => !latB n.kind || (endk L k n.a.toNat && endk L k n.b.toNat)
  | none => false
theorem endk_succ (L : List ApiTNode) : ∀ (k i : Nat), endk L k i = true -> endk L (k + 1) i = true
 | 0, i, h => by simp [endk] at h
 | k + 1, i, h => by
  unfold endk at h ⊢
  cases hq : L[i]? with
  | none => rw [hq] at h; exact h
  | some n =>
   rw [hq] at h
   simp only at h ⊢
   cases hl : latB n.kind
   ·rfl
   ·rw [hl] at h
    simp only [Bool.not_true, Bool.false_or, Bool.and_eq_true] at h ⊢;exact ⟨endk_succ L k _ h.1, endk_succ L k _ h.2⟩
theorem endk_mono {L : List ApiTNode} {k m i : Nat} (hkm : k <= m) (h : endk L k i = true) : endk L m i = true := by
 induction hkm with
 | refl => exact h
 | step _ ih => exact endk_succ L _ _ ih
def Ends (L : List ApiTNode) (i : Nat) : Prop := ∃ k, endk L k i = true
def AllEnds (L : List ApiTNode) : Prop := ∀ i, i < L.length -> Ends L i
def InL (L : List ApiTNode) : Prop := ∀ n ∈ L, ∀ k ∈ kidsL n, 0 <= k /\ k < (L.length : Int)
theorem lat_kids {n : ApiTNode} (h : latB n.kind = true) : kidsL n = [n.a, n.b] := by
 unfold kidsL
 have : pB n.kind = true := by
  unfold latB at h; unfold pB
  rw [Bool.or_eq_true, decide_eq_true_eq, decide_eq_true_eq] at h
  rcases h with h | h <;> rw [h] <;> rfl
 rw [this]; rfl
theorem ends_of {L : List ApiTNode} {i : Nat} {n : ApiTNode} (hi : L[i]? = some n) (h : latB n.kind = true -> Ends L n.a.toNat /\ Ends L n.b.toNat) : Ends L i := by
 cases hl : latB n.kind with
 | false => exact ⟨1, by simp [endk, hi, hl]⟩
 | true =>
  obtain ⟨⟨k1, h1⟩, ⟨k2, h2⟩⟩ := h hl;exact ⟨max k1 k2 + 1, by simp [endk, hi, hl, endk_mono (Nat.le_max_left k1 k2) h1, endk_mono (Nat.le_max_right k1 k2) h2]⟩
def cnd (L : List ApiTNode) (l : List Bool) (i : Nat) : Bool := match L[i]? with
 | some n => !latB n.kind || (l.getD n.a.toNat false && l.getD n.b.toNat false)
 | none => false
theorem count_set {l : List Bool} {i : Nat} (h : l[i]? = some false) : (l.set i true).count true = l.count true + 1 := by
 have hi := (List.getElem?_eq_some_iff.1 h).1
 have h2 := (List.getElem?_eq_some_iff.1 h).2
 rw [List.count_set hi, h2]
 simp
theorem cnd_eq {L : List ApiTNode} {l : List Bool} {i : Nat} {n : ApiTNode} (hR : InL L) (hl : l.length = L.length) (hi : L[i]? = some n) {β : Type} (K : Bool -> Option β) :
  ((bif ((!decide (n.kind = 9)) && (!decide (n.kind = 10))) then (some true) else ((idx l n.a).bind fun x4 => (bif x4 then ((idx l n.b).bind fun x5 => some x5) else (some false)).bind fun p2 => some p2)).bind K) = K (cnd L l i) := by
 have e : ((!decide (n.kind = 9)) && (!decide (n.kind = 10))) = !latB n.kind := by unfold latB; rw [Bool.not_or]
 rw [e];unfold cnd;rw [hi]
 simp only
 cases hb : latB n.kind with
 | false => simp
 | true =>
  have hk := hR n (List.mem_of_getElem? hi)
  rw [lat_kids hb] at hk;obtain ⟨a0, a1⟩ := hk n.a (by simp);obtain ⟨b0, b1⟩ := hk n.b (by simp)
  have ha : l[n.a.toNat]? = some (l[n.a.toNat]'(by omega)) := List.getElem?_eq_getElem (by omega)
  have hb2 : l[n.b.toNat]? = some (l[n.b.toNat]'(by omega)) := List.getElem?_eq_getElem (by omega)
  have ia : idx l n.a = some (l[n.a.toNat]'(by omega)) := by rw [<- ha]; unfold idx; rw [if_pos a0]
  have ib : idx l n.b = some (l[n.b.toNat]'(by omega)) := by rw [<- hb2]; unfold idx; rw [if_pos b0]
  rw [Bool.not_true, cond_false, ia, Option.bind_some, ib, Option.bind_some, List.getD_eq_getElem?_getD, List.getD_eq_getElem?_getD, ha, hb2]
  cases l[n.a.toNat]'(by omega) <;> simp
theorem pass {t : ApiType} (hR : InL t.l) (hlen : t.l.length <= 2001) (l0 : List Bool) (h0 : l0.length = t.l.length) (hs : ∀ i : Nat, l0[i]? = some true -> Ends t.l i) :
  ∃ m l, m_rg_May_l3 t FU (false, 0, l0) = some (m, l) /\ l.length = t.l.length /\ (∀ i : Nat, l[i]? = some true -> Ends t.l i) /\ (m = false -> l = l0 /\ ∀ j, j < t.l.length -> cnd t.l l0 j = true -> l0[j]? = some true) /\ (m = true -> l0.count true < l.count true) := by
 obtain ⟨o, h1, h2⟩ := loop_rng (φ := fun n i (s : Bool × List Bool) => m_rg_May_l3 t n (s.1, i, s.2)) (l := t.l)
  (fun i s => s.2.length = t.l.length /\ (∀ i : Nat, s.2[i]? = some true -> Ends t.l i) /\ l0.count true <= s.2.count true /\ (s.1 = false -> s.2 = l0 /\ ∀ j, j < i -> cnd t.l l0 j = true -> l0[j]? = some true) /\ (s.1 = true -> l0.count true < s.2.count true))
  (fun o : Bool × List Bool => o.2.length = t.l.length /\ (∀ i : Nat, o.2[i]? = some true -> Ends t.l i) /\ (o.1 = false -> o.2 = l0 /\ ∀ j, j < t.l.length -> cnd t.l l0 j = true -> l0[j]? = some true) /\ (o.1 = true -> l0.count true < o.2.count true))
  (by
   rintro n i x ⟨m, l⟩ hx hi ⟨i1, i2, i3, i4, i5⟩
   simp only at i1 i2 i3 i4 i5
   left
   simp only [m_rg_May_l3];rw [decide_eq_true (show (i : Int) < t.l.length by omega), cond_true, getI hx, Option.bind_some, cnd_eq hR i1 hx]
   have hy : l[i]? = some (l[i]'(by omega)) := List.getElem?_eq_getElem (by omega)
   cases hc : cnd t.l l i with
   | false =>
    refine ⟨(m, l), by rw [cond_false, Option.bind_some, cond_false, grd_pos (by omega)], i1, i2, i3, fun hm => ⟨(i4 hm).1, fun j hj hcj => ?_⟩, i5⟩
    by_cases hji : j = i
    ·subst hji; rw [<- (i4 hm).1, hc] at hcj; cases hcj
    ·exact (i4 hm).2 j (by omega) hcj
   | true =>
    rw [cond_true, getI hy, Option.bind_some, Option.bind_some]
    cases hv : l[i]'(by omega) with
    | true =>
     refine ⟨(m, l), by rw [Bool.not_true, cond_false, grd_pos (by omega)], i1, i2, i3, fun hm => ⟨(i4 hm).1, fun j hj hcj => ?_⟩, i5⟩
     by_cases hji : j = i
     ·subst hji; rw [<- (i4 hm).1, hy, hv]
     ·exact (i4 hm).2 j (by omega) hcj
    | false =>
     rw [hv] at hy
     have hct := count_set hy
     refine ⟨(true, l.set i true), by rw [Bool.not_false, cond_true, Option.bind_some, grd_pos (by omega), Int.toNat_natCast], by simpa using i1, fun j hj => ?_, by simp only; omega, fun h => (by cases h), fun _ => by simp only; omega⟩
     simp only at hj
     rw [List.getElem?_set] at hj
     by_cases hji : i = j
     ·subst hji
      refine ends_of hx fun hlat => ?_
      have hk := hR x (List.mem_of_getElem? hx)
      rw [lat_kids hlat] at hk;unfold cnd at hc;rw [hx] at hc;simp only [hlat, Bool.not_true, Bool.false_or, Bool.and_eq_true] at hc;rw [List.getD_eq_getElem?_getD, List.getD_eq_getElem?_getD] at hc
      constructor
      ·refine i2 _ ?_
       cases hq : l[x.a.toNat]? with
       | none => rw [hq] at hc; simp at hc
       | some v => rw [hq] at hc; simp at hc; rw [hc.1]
      ·refine i2 _ ?_
       cases hq : l[x.b.toNat]? with
       | none => rw [hq] at hc; simp at hc
       | some v => rw [hq] at hc; simp at hc; rw [hc.2]
     ·rw [if_neg hji] at hj; exact i2 j hj)
  (by
   rintro n ⟨m, l⟩ ⟨i1, i2, i3, i4, i5⟩;refine ⟨(m, l), ?_, i1, i2, i4, i5⟩;simp only [m_rg_May_l3];rw [decide_eq_false (by omega), cond_false]) (by rw [FUv]; omega) (false, l0) ⟨h0, hs, Nat.le_refl _, fun _ => ⟨rfl, fun j hj => by omega⟩, fun h => by cases h⟩
 obtain ⟨a, b, c, d⟩ := h2;exact ⟨o.1, o.2, h1, a, b, c, d⟩
theorem closed_ends {L : List ApiTNode} {l : List Bool} (hl : l.length = L.length) (hR : InL L) (hc : ∀ j, j < L.length -> cnd L l j = true -> l[j]? = some true) : ∀ (k i : Nat), i < L.length -> endk L k i = true -> l[i]? = some true
 | 0, i, _, h => by simp [endk] at h
 | k + 1, i, hi, h => by
  refine hc i hi ?_;unfold endk at h;unfold cnd
  have hx : L[i]? = some L[i] := List.getElem?_eq_getElem hi
  rw [hx] at h ⊢
  simp only at h ⊢
  cases hlat : latB (L[i]).kind with
  | false => rfl
  | true =>
   have hk := hR L[i] (List.getElem_mem hi)
   rw [lat_kids hlat] at hk;obtain ⟨a0, a1⟩ := hk (L[i]).a (by simp);obtain ⟨b0, b1⟩ := hk (L[i]).b (by simp);rw [hlat] at h;simp only [Bool.not_true, Bool.false_or, Bool.and_eq_true] at h ⊢
   have e1 := closed_ends hl hR hc k _ (by omega) h.1
   have e2 := closed_ends hl hR hc k _ (by omega) h.2
   rw [List.getD_eq_getElem?_getD, List.getD_eq_getElem?_getD, e1, e2]; exact ⟨rfl, rfl⟩
theorem rounds {t : ApiType} (hR : InL t.l) (hlen : t.l.length <= 2001) :
  ∃ l, m_rg_May_l2 t FU (true, List.replicate t.l.length false) = some l /\ l.length = t.l.length /\ ∀ i, i < t.l.length -> (l[i]? = some true ↔ Ends t.l i) := by
 obtain ⟨l, h1, h2, h3, h4⟩ := loop_inv (φ := m_rg_May_l2 t) (fun s => 2 * (t.l.length - s.2.count true) + (if s.1 = true then 1 else 0))
  (fun s => s.2.length = t.l.length /\ (∀ i : Nat, s.2[i]? = some true -> Ends t.l i) /\ (s.1 = false -> ∀ j, j < t.l.length -> cnd t.l s.2 j = true -> s.2[j]? = some true))
  (fun l => l.length = t.l.length /\ (∀ i : Nat, l[i]? = some true -> Ends t.l i) /\ ∀ j, j < t.l.length -> cnd t.l l j = true -> l[j]? = some true)
  (by
   rintro n ⟨m, l⟩ ⟨i1, i2, i3⟩
   simp only at i1 i2 i3
   cases m with
   | false => exact .inr ⟨l, ⟨i1, i2, i3 rfl⟩, by simp only [m_rg_May_l2]; rfl⟩
   | true =>
    obtain ⟨m, l', e1, e2, e3, e4, e5⟩ := pass hR hlen l i1 i2;refine .inl ⟨(m, l'), ⟨e2, e3, fun hm => ?_⟩, ?_, ?_⟩
    ·simp only at hm ⊢
     obtain ⟨rfl, h⟩ := e4 hm; exact h
    ·have hc1 : l'.count true <= t.l.length := by rw [<- e2]; exact List.count_le_length
     cases m with
     | false => obtain ⟨rfl, _⟩ := e4 rfl; simp
     | true => have := e5 rfl; simp; omega
    ·simp only [m_rg_May_l2]
     rw [cond_true, e1, Option.bind_some])
  FU (true, List.replicate t.l.length false) ⟨by simp, fun i hi => by rw [List.getElem?_replicate] at hi; split at hi <;> simp at hi, fun h => by cases h⟩ (by rw [FUv]; simp only [List.count_replicate]; simp; omega)
 exact ⟨l, h1, h2, fun i hi => ⟨h3 i, fun ⟨k, hk⟩ => closed_ends h2 hR h4 k i hi hk⟩⟩
theorem allTrue_eq (l : List Bool) (h : l.length <= 2001) : m_rg_May_l4 l FU 0 = some (if (∀ b ∈ l, b = true) then .go () else .ret 4) := by
 rw [loop_all (φ := m_rg_May_l4 l) (l := l) 4 (fun _ b => b = true) ?_ ?_ (by rw [FUv]; omega)]
 ·have e : (∀ (i : Nat) (x : Bool), l[i]? = some x -> x = true) ↔ ∀ b ∈ l, b = true := ⟨fun h b hb => by obtain ⟨i, hi⟩ := List.getElem?_of_mem hb; exact h i b hi, fun h i x hx => h x (List.mem_of_getElem? hx)⟩
  by_cases h2 : ∀ b ∈ l, b = true
  ·rw [if_pos (e.2 h2), if_pos h2]
  ·rw [if_neg (fun h3 => h2 (e.1 h3)), if_neg h2]
 ·intro n i x hx hi
  simp only [m_rg_May_l4];rw [decide_eq_true (show (i : Int) < l.length by omega), cond_true, getI hx, Option.bind_some]
  cases x
  ·exact ⟨fun h => (by cases h), fun _ => by rw [Bool.not_false, cond_true]⟩
  ·exact ⟨fun _ => by rw [Bool.not_true, cond_false, grd_pos (by omega)], fun h => absurd rfl h⟩
 ·intro n
  simp only [m_rg_May_l4];rw [decide_eq_false (by omega), cond_false]
end Go.Proofs.YtkfnogdccpcmhaaGreatDoor
namespace Go.Proofs.YtkfnogdccpcmhaaGreatDoor
open Go.V Tryz
open Classical
def ColOk (z : List Int) : Prop := ∀ c ∈ z, c = 0 \/ c = 1 \/ c = 2
theorem whites_set {z : List Int} {i : Nat} {c d : Int} (h : z[i]? = some c) : (z.set i d).count 0 + (if c = 0 then 1 else 0) = z.count 0 + (if d = 0 then 1 else 0) := by
 have hi := (List.getElem?_eq_some_iff.1 h).1
 have h2 := (List.getElem?_eq_some_iff.1 h).2
 have hc : c = 0 -> 0 < z.count 0 := fun e => List.count_pos_iff.2 (by rw [<- e]; exact List.mem_of_getElem? h)
 rw [List.count_set hi, h2]
 by_cases h0 : c = 0
 ·have := hc h0
  subst h0
  simp
  split <;> omega
 ·rw [if_neg h0]
  have : (c == 0) = false := by simp [h0]
  rw [this]
  simp
theorem colOk_set {z : List Int} {i : Nat} {d : Int} (h : ColOk z) (hd : d = 0 \/ d = 1 \/ d = 2) : ColOk (z.set i d) := by
 intro c hc
 rcases List.mem_or_eq_of_mem_set hc with h2 | h2
 ·exact h c h2
 ·rw [h2]; exact hd
theorem endk_least {L : List ApiTNode} {i : Nat} : ∀ m, endk L m i = true -> ∃ k, k < m /\ endk L (k + 1) i = true /\ endk L k i = false
 | 0, h => by simp [endk] at h
 | m + 1, h => by
  cases hq : endk L m i with
  | false => exact ⟨m, Nat.lt_succ_self m, h, hq⟩
  | true =>
   obtain ⟨k, h1, h2, h3⟩ := endk_least m hq;exact ⟨k, by omega, h2, h3⟩
theorem endk_false {L : List ApiTNode} {k m i : Nat} (hkm : k <= m) (h : endk L m i = false) : endk L k i = false := by
 cases hq : endk L k i with
 | false => rfl
 | true => rw [endk_mono hkm hq] at h; cases h
structure WalkOk (L : List ApiTNode) (i : Nat) (z : List Int) (b : Bool) (z' : List Int) : Prop where
 len : z'.length = L.length
 col : ColOk z'
 wh : z'.count 0 <= z.count 0
 yes : b = true -> Ends L i /\ (∀ j : Nat, z'[j]? = some 2 -> Ends L j) /\ ∀ j : Nat, z'[j]? = some 1 ↔ z[j]? = some 1
 no : b = false -> ∀ m, endk L m i = true -> (∀ j : Nat, z[j]? = some 1 -> endk L m j = false) -> False
theorem walk_ok {t : ApiType} (hR : InL t.l) (hN : ∀ n ∈ t.l, NB n) (hlen : t.l.length <= 2001) : ∀ (n : Nat) (i : Nat) (z : List Int), i < t.l.length -> z.length = t.l.length -> ColOk z -> z.count 0 < n -> (∀ j : Nat, z[j]? = some 2 -> Ends t.l j) ->
  ∃ b z', m_graph_contractive_1 t n (i : Int) z = some (b, z') /\ WalkOk t.l i z b z'
 | 0, i, z, _, _, _, h, _ => by omega
 | n + 1, i, z, hi, hz, hc, hw, hb => by
  have hx : t.l[i]? = some t.l[i] := List.getElem?_eq_getElem hi
  have hy : z[i]? = some (z[i]'(by omega)) := List.getElem?_eq_getElem (by omega)
  have hcz := hc _ (List.mem_of_getElem? hy)
  show ∃ b z', m_graph_contractive_1F (m_graph_contractive_1 t n) (i : Int) z t = some (b, z') /\ _
  unfold m_graph_contractive_1F;rw [getI hx, Option.bind_some, show m_graph_lattice (t.l[i]).kind = some (latB (t.l[i]).kind) from rfl, Option.bind_some, getI hy, Option.bind_some, Option.bind_some, Option.bind_some]
  generalize hn : t.l[i] = nd at *
  generalize z[i]'(by omega) = c at *
  cases hlat : latB nd.kind with
  | false =>
   refine ⟨true, z, by rw [Bool.not_false, cond_true, Option.bind_some, cond_true], hz, hc, Nat.le_refl _, fun _ => ⟨ends_of hx fun h => (by rw [hlat] at h; cases h), hb, fun j => Iff.rfl⟩, fun h => by cases h⟩
  | true =>
   rw [Bool.not_true, cond_false, Option.bind_some]
   by_cases h2 : c = 2
   ·refine ⟨true, z, by rw [decide_eq_true h2, cond_true], hz, hc, Nat.le_refl _, fun _ => ⟨hb i (by rw [hy, h2]), hb, fun j => Iff.rfl⟩, fun h => by cases h⟩
   rw [decide_eq_false h2, cond_false]
   by_cases h1 : c = 1
   ·refine ⟨false, z, by rw [decide_eq_true h1, cond_true], hz, hc, Nat.le_refl _, fun h => (by cases h), fun _ m hm hg => ?_⟩
    rw [hg i (by rw [hy, h1])] at hm; cases hm
   rw [decide_eq_false h1, cond_false]
   have h0 : c = 0 := by omega
   subst h0
   have hNd : NB nd := by rw [<- hn]; exact hN _ (List.getElem_mem hi)
   rw [Option.bind_some, kids_eq _ hNd, Option.bind_some, Int.toNat_natCast]
   have hk : ∀ k ∈ kidsL nd, 0 <= k /\ k < (t.l.length : Int) := hR nd (List.mem_of_getElem? hx)
   have hkl := kidsL_len nd hNd
   have hwz := whites_set (d := 1) hy
   simp at hwz
   have hz1 : (z.set i 1).length = t.l.length := by simpa using hz
   have gr1 : ∀ j : Nat, (z.set i 1)[j]? = some 1 ↔ (j = i \/ z[j]? = some 1) := by
    intro j
    rw [List.getElem?_set]
    by_cases hji : i = j
    ·subst hji; simp; omega
    ·rw [if_neg hji]; exact ⟨.inr, fun h => h.elim (fun e => absurd e.symm hji) id⟩
   obtain ⟨o, e1, e2⟩ := loop_rng (φ := fun m q s => m_graph_contractive_1_l1 (m_graph_contractive_1 t n) (kidsL nd) m (q, s)) (l := kidsL nd)
    (fun q s => s.length = t.l.length /\ ColOk s /\ s.count 0 <= (z.set i 1).count 0 /\ (∀ j : Nat, s[j]? = some 2 -> Ends t.l j) /\ (∀ j : Nat, s[j]? = some 1 ↔ (z.set i 1)[j]? = some 1) /\ ∀ (p : Nat) k, p < q -> (kidsL nd)[p]? = some k -> Ends t.l k.toNat)
    (fun o => (∃ s, o = Out.ret (false, s) /\ s.length = t.l.length /\ ColOk s /\ s.count 0 <= (z.set i 1).count 0 /\ ∀ m, endk t.l m i = true -> (∀ j : Nat, z[j]? = some 1 -> endk t.l m j = false) -> False) \/
     (∃ s, o = Out.go s /\ s.length = t.l.length /\ ColOk s /\ s.count 0 <= (z.set i 1).count 0 /\ (∀ j : Nat, s[j]? = some 2 -> Ends t.l j) /\ (∀ j : Nat, s[j]? = some 1 ↔ (z.set i 1)[j]? = some 1) /\ ∀ k ∈ kidsL nd, Ends t.l k.toNat))
    (by
     rintro m q k s hkq hq ⟨s1, s2, s3, s4, s5, s6⟩;obtain ⟨k0, k1⟩ := hk k (List.mem_of_getElem? hkq);obtain ⟨b, z', w1, w2⟩ := walk_ok hR hN hlen n k.toNat s (by omega) s1 s2 (by omega) s4;rw [Int.toNat_of_nonneg k0] at w1;simp only [m_graph_contractive_1_l1];rw [decide_eq_true (show (q : Int) < (kidsL nd).length by omega), cond_true, getI hkq, Option.bind_some, w1, Option.bind_some]
     dsimp only
     cases b with
     | true =>
      obtain ⟨y1, y2, y3⟩ := w2.yes rfl;refine .inl ⟨z', by rw [Bool.not_true, cond_false, grd_pos (by omega)], w2.len, w2.col, Nat.le_trans w2.wh s3, y2, fun j => (y3 j).trans (s5 j), fun p k' hp hk' => ?_⟩
      by_cases hpq : p = q
      ·subst hpq; rw [hkq] at hk'; cases hk'; exact y1
      ·exact s6 p k' (by omega) hk'
     | false =>
      refine .inr ⟨_, by rw [Bool.not_false, cond_true], .inl ⟨z', rfl, w2.len, w2.col, Nat.le_trans w2.wh s3, fun m hm hg => ?_⟩⟩;obtain ⟨r, r1, r2, r3⟩ := endk_least m hm;refine w2.no rfl r ?_ fun j hj => ?_
      ·unfold endk at r2
       rw [hx] at r2;simp only [hlat, Bool.not_true, Bool.false_or, Bool.and_eq_true] at r2
       have := List.mem_of_getElem? hkq
       rw [lat_kids hlat] at this;simp only [List.mem_cons, List.not_mem_nil, or_false] at this
       rcases this with rfl | rfl
       ·exact r2.1
       ·exact r2.2
      ·rcases (gr1 j).1 ((s5 j).1 hj) with rfl | hj
       ·exact r3
       ·exact endk_false (by omega) (hg j hj))
    (by
     rintro m s ⟨s1, s2, s3, s4, s5, s6⟩;refine ⟨Out.go s, ?_, .inr ⟨s, rfl, s1, s2, s3, s4, s5, fun k hk' => ?_⟩⟩
     ·simp only [m_graph_contractive_1_l1]
      rw [decide_eq_false (by omega), cond_false]
     ·obtain ⟨p, hp⟩ := List.getElem?_of_mem hk'
      exact s6 p k (getLt hp) hp)
    (by rw [FUv]; omega) (z.set i 1) ⟨hz1, colOk_set hc (by omega), Nat.le_refl _, fun j hj => (by
     rw [List.getElem?_set] at hj
     by_cases hji : i = j
     ·rw [if_pos hji] at hj; split at hj <;> simp at hj
     ·rw [if_neg hji] at hj; exact hb j hj), fun j => Iff.rfl, fun p k hp => by omega⟩
   rw [e1, Option.bind_some]
   rcases e2 with ⟨s, rfl, s1, s2, s3, s4⟩ | ⟨s, rfl, s1, s2, s3, s4, s5, s6⟩
   ·exact ⟨false, s, rfl, s1, s2, by omega, fun h => (by cases h), fun _ => s4⟩
   ·have hsi : s[i]? = some 1 := (s5 i).2 ((gr1 i).2 (.inl rfl))
    have hws := whites_set (d := 2) hsi
    simp at hws
    have hE : Ends t.l i := ends_of hx fun _ => by
     rw [lat_kids hlat] at s6;exact ⟨s6 _ (by simp), s6 _ (by simp)⟩
    refine ⟨true, s.set i 2, by show (idx s (i : Int)).bind _ = _; rw [getI hsi, Option.bind_some], by simpa using s1, colOk_set s2 (by omega), by omega, fun _ => ⟨hE, fun j hj => ?_, fun j => ?_⟩, fun h => by cases h⟩
    ·rw [List.getElem?_set] at hj
     by_cases hji : i = j
     ·subst hji; exact hE
     ·rw [if_neg hji] at hj; exact s4 j hj
    ·rw [List.getElem?_set]
     by_cases hji : i = j
     ·subst hji; rw [if_pos rfl, hy]; split <;> simp
     ·rw [if_neg hji, s5 j, gr1 j]
      exact ⟨fun h => h.elim (fun e => absurd e.symm hji) id, .inr⟩
theorem contractive_eq {t : ApiType} (hR : InL t.l) (hN : ∀ n ∈ t.l, NB n) (hlen : t.l.length <= 2001) : m_graph_contractive t = some (decide (AllEnds t.l)) := by
 unfold m_graph_contractive;rw [grd_pos (by omega), grd_pos (by omega), Int.toNat_natCast];obtain ⟨o, e1, e2⟩ := loop_rng (φ := fun m q s => m_graph_contractive_l1 t m (q, s)) (l := t.l)
  (fun q s => s.length = t.l.length /\ ColOk s /\ (∀ j : Nat, s[j]? = some 2 -> Ends t.l j) /\ (∀ j : Nat, ¬ s[j]? = some 1) /\ ∀ p, p < q -> Ends t.l p)
  (fun o => (o = Out.ret false /\ ¬ AllEnds t.l) \/ ∃ s, o = Out.go s /\ AllEnds t.l)
  (by
   rintro m q nd s hnd hq ⟨s1, s2, s3, s4, s5⟩;obtain ⟨b, z', w1, w2⟩ := walk_ok hR hN hlen FU q s hq s1 s2 (by have := List.count_le_length (a := (0 : Int)) (l := s); rw [FUv]; omega) s3;simp only [m_graph_contractive_l1];rw [decide_eq_true (show (q : Int) < t.l.length by omega), cond_true, w1, Option.bind_some]
   dsimp only
   cases b with
   | true =>
    obtain ⟨y1, y2, y3⟩ := w2.yes rfl;refine .inl ⟨z', by rw [Bool.not_true, cond_false, grd_pos (by omega)], w2.len, w2.col, y2, fun j hj => s4 j ((y3 j).1 hj), fun p hp => ?_⟩
    by_cases hpq : p = q
    ·subst hpq; exact y1
    ·exact s5 p (by omega)
   | false =>
    refine .inr ⟨_, by rw [Bool.not_false, cond_true], .inl ⟨rfl, fun hA => ?_⟩⟩;obtain ⟨k, hk⟩ := hA q hq;exact w2.no rfl k hk fun j hj => absurd hj (s4 j))
  (by
   rintro m s ⟨s1, s2, s3, s4, s5⟩;refine ⟨Out.go s, ?_, .inr ⟨s, rfl, s5⟩⟩;simp only [m_graph_contractive_l1];rw [decide_eq_false (by omega), cond_false])
  (by rw [FUv]; omega) (List.replicate t.l.length 0) ⟨by simp, fun c hc => (by rw [List.mem_replicate] at hc; exact .inl hc.2), fun j hj => (by rw [List.getElem?_replicate] at hj; split at hj <;> simp at hj), fun j hj => (by rw [List.getElem?_replicate] at hj; split at hj <;> simp at hj), fun p hp => by omega⟩
 rw [e1, Option.bind_some]
 rcases e2 with ⟨rfl, h⟩ | ⟨s, rfl, h⟩
 ·rw [decide_eq_false h]; rfl
 ·rw [decide_eq_true h]; rfl
end Go.Proofs.YtkfnogdccpcmhaaGreatDoor
namespace Go.Proofs.YtkfnogdccpcmhaaGreatDoor
open Go.V Tryz
open Classical
def AllRight (L : List ApiTNode) : Prop := ∀ n ∈ L, rightB n L.length = true
theorem right_in {n : ApiTNode} {all : Int} (h : rightB n all = true) : ∀ k ∈ kidsL n, 0 <= k /\ k < all := by
 intro k hk
 unfold rightB at h;simp only [Bool.and_eq_true, Bool.not_eq_true', decide_eq_false_iff_not] at h
 have h2 := h.2.2.2.2.2
 have : inB all k = false := by
  cases hq : inB all k with
  | false => rfl
  | true => exact absurd ⟨k, hk, hq⟩ h2
 unfold inB at this;rw [Bool.or_eq_false_iff, decide_eq_false_iff_not, decide_eq_false_iff_not] at this
 omega
theorem allRight_in {L : List ApiTNode} (h : AllRight L) : InL L := fun n hn k hk => right_in (h n hn) k hk
theorem wrong_eq (t : ApiType) (hlen : t.l.length <= 2001) (hN : ∀ n ∈ t.l, NB n) : m_cnN t.l (fun y0 => m_graph_May_1 y0 t) = some (!decide (AllRight t.l)) := by
 unfold m_cnN m_ixN;rw [loop_find (φ := m_ixN_l1 t.l (fun y0 => m_graph_May_1 y0 t)) (l := t.l) (fun i => (i : Int)) (fun n => !rightB n t.l.length) ?_ ?_ (by rw [FUv]; omega)]
 ·rw [Option.bind_some]
  cases hf : t.l.findIdx? (fun n => !rightB n t.l.length) with
  | none =>
   have : AllRight t.l := by
    intro n hn
    have := List.findIdx?_eq_none_iff.1 hf n hn
    simpa using this
   rw [decide_eq_true this]; rfl
  | some i =>
   obtain ⟨hi, h1, _⟩ := List.findIdx?_eq_some_iff_getElem.1 hf
   have : ¬ AllRight t.l := fun h => by
    rw [h _ (List.getElem_mem hi)] at h1; cases h1
   rw [decide_eq_false this]
   show some (decide (0 <= (i : Int))) = some true
   rw [decide_eq_true (by omega)]
 ·intro n i x hx hi
  simp only [m_ixN_l1];rw [decide_eq_true (show (i : Int) < t.l.length by omega), cond_true, getI hx, Option.bind_some, show m_graph_May_1 x t = some (!rightB x t.l.length) by unfold m_graph_May_1; rw [right_eq _ _ (hN x (List.mem_of_getElem? hx)), Option.bind_some], Option.bind_some];exact ⟨fun hq => by rw [hq, cond_false, grd_pos (by omega)], fun hq => by rw [hq, cond_true]⟩
 ·intro n
  simp only [m_ixN_l1];rw [decide_eq_false (by omega), cond_false]
theorem rwrong_eq (t : ApiType) (hlen : t.l.length <= 2001) (hN : ∀ n ∈ t.l, NB n) : m_rg_May_l1 t FU 0 = some (if AllRight t.l then .go () else .ret 4) := by
 rw [loop_all (φ := m_rg_May_l1 t) (l := t.l) 4 (fun _ n => rightB n t.l.length = true) ?_ ?_ (by rw [FUv]; omega)]
 ·have e : (∀ (i : Nat) (x : ApiTNode), t.l[i]? = some x -> rightB x t.l.length = true) ↔ AllRight t.l := ⟨fun h b hb => by obtain ⟨i, hi⟩ := List.getElem?_of_mem hb; exact h i b hi, fun h i x hx => h x (List.mem_of_getElem? hx)⟩
  by_cases h2 : AllRight t.l
  ·rw [if_pos (e.2 h2), if_pos h2]
  ·rw [if_neg (fun h3 => h2 (e.1 h3)), if_neg h2]
 ·intro n i x hx hi
  simp only [m_rg_May_l1];rw [decide_eq_true (show (i : Int) < t.l.length by omega), cond_true, getI hx, Option.bind_some, rright_eq _ _ (hN x (List.mem_of_getElem? hx)), Option.bind_some]
  cases rightB x t.l.length
  ·exact ⟨fun h => (by cases h), fun _ => by rw [Bool.not_false, cond_true]⟩
  ·exact ⟨fun _ => by rw [Bool.not_true, cond_false, grd_pos (by omega)], fun h => absurd rfl h⟩
 ·intro n
  simp only [m_rg_May_l1];rw [decide_eq_false (by omega), cond_false]
noncomputable def mayT (L : List ApiTNode) (root : Int) : Int := if L.length = 0 \/ 2000 < L.length then 8 else if root < 0 \/ (L.length : Int) <= root then 4 else if AllRight L /\ AllEnds L then 0 else 4
theorem may_eq (t : ApiType) (hlen : t.l.length <= 2001) (hN : ∀ n ∈ t.l, NB n) : m_graph_May t = some (mayT t.l t.root) := by
 unfold m_graph_May mayT
 by_cases h0 : t.l.length = 0 \/ 2000 < t.l.length
 ·rw [if_pos h0, show (decide ((t.l.length : Int) = 0) || decide (2000 < (t.l.length : Int))) = true by rw [Bool.or_eq_true, decide_eq_true_eq, decide_eq_true_eq]; omega, cond_true]
 rw [if_neg h0, decide_eq_false (by omega), decide_eq_false (by omega), Bool.or_false, cond_false]
 by_cases hr : t.root < 0 \/ (t.l.length : Int) <= t.root
 ·rw [if_pos hr, show (decide (t.root < 0) || decide ((t.l.length : Int) <= t.root)) = true by rw [Bool.or_eq_true, decide_eq_true_eq, decide_eq_true_eq]; exact hr, cond_true]
 rw [if_neg hr, decide_eq_false (by omega), decide_eq_false (by omega), Bool.or_false, cond_false, wrong_eq t hlen hN, Option.bind_some]
 by_cases hA : AllRight t.l
 ·rw [decide_eq_true hA, Bool.not_true, cond_false, contractive_eq (allRight_in hA) hN hlen, Option.bind_some]
  by_cases hE : AllEnds t.l
  ·rw [decide_eq_true hE, if_pos ⟨hA, hE⟩]; rfl
  ·rw [decide_eq_false hE, if_neg (fun h => hE h.2)]; rfl
 ·rw [decide_eq_false hA, Bool.not_false, cond_true, if_neg (fun h => hA h.1)]; rfl
theorem rmay_eq (t : ApiType) (hlen : t.l.length <= 2001) (hN : ∀ n ∈ t.l, NB n) : m_rg_May t = some (mayT t.l t.root) := by
 unfold m_rg_May mayT
 by_cases h0 : t.l.length = 0 \/ 2000 < t.l.length
 ·rw [if_pos h0, show (decide ((t.l.length : Int) < 1) || decide (2000 < (t.l.length : Int))) = true by rw [Bool.or_eq_true, decide_eq_true_eq, decide_eq_true_eq]; omega, cond_true]
 rw [if_neg h0, decide_eq_false (by omega), decide_eq_false (by omega), Bool.or_false, cond_false]
 by_cases hr : t.root < 0 \/ (t.l.length : Int) <= t.root
 ·rw [if_pos hr, show (decide (t.root < 0) || decide ((t.l.length : Int) <= t.root)) = true by rw [Bool.or_eq_true, decide_eq_true_eq, decide_eq_true_eq]; exact hr, cond_true]
 rw [if_neg hr, decide_eq_false (by omega), decide_eq_false (by omega), Bool.or_false, cond_false, rwrong_eq t hlen hN, Option.bind_some]
 by_cases hA : AllRight t.l
 ·rw [if_pos hA]
  show grd _ _ = _
  rw [grd_pos (by omega), grd_pos (by omega), Int.toNat_natCast];obtain ⟨l, l1, l2, l3⟩ := rounds (allRight_in hA) hlen;rw [l1, Option.bind_some, allTrue_eq l (by omega), Option.bind_some]
  have e : (∀ b ∈ l, b = true) ↔ AllEnds t.l := by
   constructor
   ·intro h i hi
    have hx : l[i]? = some (l[i]'(by omega)) := List.getElem?_eq_getElem (by omega)
    rw [h _ (List.getElem_mem (by omega))] at hx;exact (l3 i hi).1 hx
   ·intro h b hb
    obtain ⟨i, hi⟩ := List.getElem?_of_mem hb
    have hlt := getLt hi
    have := (l3 i (by omega)).2 (h i (by omega))
    rw [hi] at this; exact Option.some.inj this
  by_cases hE : AllEnds t.l
  ·rw [if_pos (e.2 hE), if_pos ⟨hA, hE⟩]; rfl
  ·rw [if_neg (fun h => hE (e.1 h)), if_neg (fun h => hE h.2)]; rfl
 ·rw [if_neg hA, if_neg (fun h => hA h.1)]; rfl
theorem mayT_ok {L : List ApiTNode} {r : Int} (h : mayT L r = 0) : 0 < L.length /\ L.length <= 2000 /\ 0 <= r /\ r < L.length /\ AllRight L /\ AllEnds L := by
 unfold mayT at h
 split at h
 ·omega
 ·split at h
  ·omega
  ·split at h
   ·rename_i h1 h2 h3; exact ⟨by omega, by omega, by omega, by omega, h3.1, h3.2⟩
   ·omega
end Go.Proofs.YtkfnogdccpcmhaaGreatDoor
namespace Go.Proofs.YtkfnogdccpcmhaaGreatDoor
open Go.V Tryz
open Classical
theorem nodup_bound : ∀ (m : Nat) (l : List Int), l.Nodup -> (∀ x ∈ l, 0 <= x /\ x < (m : Int)) -> l.length <= m
 | 0, l, _, h => by
  cases l with
  | nil => simp
  | cons a l => have := h a (by simp); omega
 | m + 1, l, hn, h => by
  have h1 := nodup_bound m (l.erase (m : Int)) (hn.erase _) (fun x hx => by
   have h2 := h x (List.mem_of_mem_erase hx)
   have h3 : x ≠ (m : Int) := fun e => by rw [e] at hx; exact absurd hx (by rw [hn.mem_erase_iff]; simp)
   omega)
  have := List.length_erase_le (a := (m : Int)) (l := l)
  have h4 : l.length <= (l.erase (m : Int)).length + 1 := by rw [List.length_erase]; split <;> omega
  omega
theorem sorted_ext : ∀ (a b : List Int), a.Pairwise (· < ·) -> b.Pairwise (· < ·) -> (∀ x, x ∈ a ↔ x ∈ b) -> a = b
 | [], [], _, _, _ => rfl
 | [], y :: b, _, _, h => by have := (h y).2 (by simp); simp at this
 | x :: a, [], _, _, h => by have := (h x).1 (by simp); simp at this
 | x :: a, y :: b, ha, hb, h => by
  rw [List.pairwise_cons] at ha hb
  have hxy : x = y := by
   have h1 := (h x).1 (by simp)
   have h2 := (h y).2 (by simp)
   rcases List.mem_cons.1 h1 with h1 | h1
   ·exact h1
   ·rcases List.mem_cons.1 h2 with h2 | h2
    ·exact h2.symm
    ·have := hb.1 x h1; have := ha.1 y h2; omega
  subst hxy
  congr 1
  refine sorted_ext a b ha.2 hb.2 fun z => ?_
  have h1 := h z
  simp only [List.mem_cons] at h1
  constructor
  ·intro hz
   rcases h1.1 (.inr hz) with e | e
   ·have := ha.1 z hz; omega
   ·exact e
  ·intro hz
   rcases h1.2 (.inr hz) with e | e
   ·have := hb.1 z hz; omega
   ·exact e
theorem compact_upto {d : Array Int} (hd : ∀ i j, i < j -> j < d.size -> d[i]! <= d[j]!) : ∀ m, m <= d.size -> (Lib.compactUpTo d m).Pairwise (· < ·) /\ (∀ x, x ∈ Lib.compactUpTo d m ↔ ∃ j, j < m /\ d[j]! = x) /\ ∀ x ∈ Lib.compactUpTo d m, 0 < m /\ x <= d[m - 1]!
 | 0, _ => by simp [Lib.compactUpTo]
 | m + 1, hm => by
  obtain ⟨h1, h2, h3⟩ := compact_upto hd m (by omega);rw [Lib.compactUpTo_succ]
  by_cases hk : Lib.keeps d m = true
  ·rw [if_pos hk]
   have hk2 : m = 0 \/ d[m]! ≠ d[m - 1]! := by simpa [Lib.keeps] using hk
   have hlt : ∀ x ∈ Lib.compactUpTo d m, x < d[m]! := by
    intro x hx
    obtain ⟨h4, h5⟩ := h3 x hx
    have h6 := hd (m - 1) m (by omega) (by omega)
    rcases hk2 with h7 | h7
    ·omega
    ·omega
   refine ⟨?_, fun x => ?_, fun x hx => ⟨by omega, ?_⟩⟩
   ·rw [List.pairwise_append]
    exact ⟨h1, by simp, fun a ha b hb => by simp at hb; subst hb; exact hlt a ha⟩
   ·rw [List.mem_append, h2 x]
    simp only [List.mem_cons, List.not_mem_nil, or_false]
    constructor
    ·rintro (⟨j, hj, e⟩ | e)
     ·exact ⟨j, by omega, e⟩
     ·exact ⟨m, by omega, e.symm⟩
    ·rintro ⟨j, hj, e⟩
     by_cases hjm : j = m
     ·subst hjm; exact .inr e.symm
     ·exact .inl ⟨j, by omega, e⟩
   ·rw [Nat.add_sub_cancel]
    rcases List.mem_append.1 hx with hx | hx
    ·exact Int.le_of_lt (hlt x hx)
    ·simp at hx; omega
  ·have hk' : Lib.keeps d m = false := by simpa using hk
   rw [hk']
   have hk2 : 0 < m /\ d[m]! = d[m - 1]! := by
    have : ¬ (m = 0 \/ d[m]! ≠ d[m - 1]!) := by simpa [Lib.keeps] using hk'
    omega
   simp only [Bool.false_eq_true, if_false, List.append_nil];refine ⟨h1, fun x => ?_, fun x hx => ⟨by omega, ?_⟩⟩
   ·rw [h2 x]
    constructor
    ·rintro ⟨j, hj, e⟩; exact ⟨j, by omega, e⟩
    ·rintro ⟨j, hj, e⟩
     by_cases hjm : j = m
     ·subst hjm; exact ⟨j - 1, by omega, by rw [<- hk2.2]; exact e⟩
     ·exact ⟨j, by omega, e⟩
   ·rw [Nat.add_sub_cancel]
    have := (h3 x hx).2
    omega
theorem compact_sorted {l : List Int} (h : l.Pairwise (· <= ·)) : (Lib.compact l).Pairwise (· < ·) /\ ∀ x, x ∈ Lib.compact l ↔ x ∈ l := by
 have hget : ∀ j, j < l.length -> l.toArray[j]! = l[j]! := fun j _ => by simp
 obtain ⟨h1, h2, _⟩ := compact_upto (d := l.toArray) (fun i j hij hj => by
  simp at hj
  have := List.pairwise_iff_getElem.1 h i j (by omega) hj hij
  simpa [hj, show i < l.length by omega] using this) l.length (by simp)
 refine ⟨h1, fun x => (h2 x).trans ?_⟩
 constructor
 ·rintro ⟨j, hj, e⟩
  rw [<- e]; simp [hj]
 ·intro hx
  obtain ⟨j, hj, e⟩ := List.getElem_of_mem hx;exact ⟨j, hj, by simp [hj, e]⟩
theorem sortI_sorted (l : List Int) : (List.mergeSort l fun x y => decide (x <= y)).Pairwise (· <= ·) := by
 have := List.pairwise_mergeSort (le := fun x y : Int => decide (x <= y)) (fun a b c h1 h2 => by simp at *; omega) (fun a b => by simp; omega) l
 exact this.imp (fun h => by simpa using h)
end Go.Proofs.YtkfnogdccpcmhaaGreatDoor
namespace Go.Proofs.YtkfnogdccpcmhaaGreatDoor
open Go.V Tryz
open Classical
theorem range_lt : ∀ n : Nat, (List.range n).Pairwise (· < ·)
 | 0 => by simp
 | n + 1 => by
  rw [List.range_succ, List.pairwise_append];exact ⟨range_lt n, by simp, fun a ha b hb => by simp at ha hb; omega⟩
end Go.Proofs.YtkfnogdccpcmhaaGreatDoor
namespace Go.Proofs.YtkfnogdccpcmhaaGreatDoor
open Go.V Tryz
open Classical
def movedN (f : Int -> Int) (n : ApiTNode) : ApiTNode := ⟨n.kind, bif pB n.kind then f n.a else n.a, bif pB n.kind then f n.b else n.b, n.l.map (fun x => ⟨x.name, f x.at_⟩)⟩
theorem moved_eq (n : ApiTNode) (p : Int -> Option Int) (f : Int -> Int) (h : NB n) (h1 : pB n.kind = true -> p n.a = some (f n.a) /\ p n.b = some (f n.b)) (h2 : ∀ x ∈ n.l, p x.at_ = some (f x.at_)) : m_graph_moved n p = some (movedN f n) := by
 unfold m_graph_moved movedN;unfold NB at h;rw [show m_graph_pair n.kind = some (pB n.kind) from rfl, Option.bind_some]
 have key : ∀ z1 z2 z3, m_graph_moved_l1 p n.l FU (0, n.l, z1, z2, z3) = some (n.l.map (fun x => ⟨x.name, f x.at_⟩), z1, z2, z3) := by
  intro z1 z2 z3
  refine loop_setmap (φ := fun k i s => m_graph_moved_l1 p n.l k (i, s, z1, z2, z3)) (l := n.l) (fun x => ⟨x.name, f x.at_⟩) (fun s => (s, z1, z2, z3)) ?_ ?_ (by rw [FUv]; omega)
  ·intro k i x s hx hi hs hsx
   simp only [m_graph_moved_l1];rw [decide_eq_true (show (i : Int) < n.l.length by omega), cond_true, getI hsx, Option.bind_some, h2 x (List.mem_of_getElem? hx), Option.bind_some, Option.bind_some, grd_pos (by omega), Int.toNat_natCast]
  ·intro k s hs
   simp only [m_graph_moved_l1];rw [decide_eq_false (by omega), cond_false]
 cases hp : pB n.kind with
 | true =>
  obtain ⟨ha, hb⟩ := h1 hp;rw [cond_true, ha, Option.bind_some, hb, Option.bind_some, Option.bind_some]
  dsimp only
  rw [grd_pos (by omega), key, Option.bind_some]; rfl
 | false =>
  rw [cond_false, Option.bind_some]
  dsimp only
  rw [grd_pos (by omega), key, Option.bind_some]; rfl
theorem right_wide {n : ApiTNode} {all : Int} (h : rightB n all = true) (hw : wB n.kind = false) : n.l = [] := by
 unfold rightB at h;simp only [Bool.and_eq_true, Bool.not_eq_true'] at h
 have h2 := h.2.2.2.1
 rw [hw, Bool.not_false, Bool.true_and, decide_eq_false_iff_not] at h2;exact List.length_eq_zero_iff.1 (by omega)
theorem pw_no {k : Int} (h : wB k = true) : pB k = false := by
 unfold wB at h; unfold pB
 rw [Bool.or_eq_true, decide_eq_true_eq, decide_eq_true_eq] at h
 rcases h with h | h <;> rw [h] <;> rfl
theorem right_kids {n : ApiTNode} {all : Int} (h : rightB n all = true) : (pB n.kind = true -> (0 <= n.a /\ n.a < all) /\ (0 <= n.b /\ n.b < all)) /\ ∀ x ∈ n.l, 0 <= x.at_ /\ x.at_ < all := by
 have hk := right_in h
 unfold kidsL at hk
 constructor
 ·intro hp
  rw [hp, cond_true] at hk;exact ⟨hk n.a (by simp), hk n.b (by simp)⟩
 ·intro x hx
  cases hw : wB n.kind with
  | false => rw [right_wide h hw] at hx; simp at hx
  | true =>
   rw [pw_no hw, cond_false, hw, cond_true] at hk;exact hk x.at_ (List.mem_map.2 ⟨x, hx, rfl⟩)
noncomputable def graftT (a b : ApiType) : ApiType := ⟨a.l ++ b.l.map (movedN (fun k => k + (a.l.length : Int))), a.root⟩
theorem graft_eq (a b : ApiType) (ha : a.l.length <= 4001) (hb : b.l.length <= 2001) (hN : ∀ n ∈ b.l, NB n) (hR : AllRight b.l) : m_graph_Graft a b = some (graftT a b, (a.l.length : Int)) := by
 unfold m_graph_Graft;rw [grd_pos (by omega)];rw [loop_map (φ := fun n i s => m_graph_Graft_l1 a b n (i, a.root, s)) (l := b.l) (movedN (fun k => k + (a.l.length : Int))) (fun s => (a.root, s)) a.l.length ?_ ?_ (by rw [FUv]; omega) a.l rfl]
 ·rfl
 ·intro n i x s hx hi hs
  have hr := right_kids (hR x (List.mem_of_getElem? hx))
  simp only [m_graph_Graft_l1];rw [decide_eq_true (show (i : Int) < b.l.length by omega), cond_true, getI hx, Option.bind_some, show (⟨x.kind, x.a, x.b, x.l⟩ : ApiTNode) = x from rfl, moved_eq x _ (fun k => k + (a.l.length : Int)) (hN x (List.mem_of_getElem? hx)) (fun hp => by
   obtain ⟨⟨a0, a1⟩, b0, b1⟩ := hr.1 hp;unfold m_graph_Graft_1;rw [grd_pos (by omega), grd_pos (by omega)]; exact ⟨rfl, rfl⟩) (fun y hy => by
   obtain ⟨y0, y1⟩ := hr.2 y hy;unfold m_graph_Graft_1;rw [grd_pos (by omega)]), Option.bind_some, grd_pos (by simp only [List.length_cons, List.length_nil]; omega), grd_pos (by omega)]
 ·intro n s hs
  simp only [m_graph_Graft_l1];rw [decide_eq_false (by omega), cond_false]
theorem movedN_nb {n : ApiTNode} {f : Int -> Int} (h : NB n) : NB (movedN f n) := by unfold NB movedN at *; simpa using h
theorem graftT_nb {a b : ApiType} (ha : ∀ n ∈ a.l, NB n) (hb : ∀ n ∈ b.l, NB n) : ∀ n ∈ (graftT a b).l, NB n := by
 intro n hn
 rcases List.mem_append.1 hn with hn | hn
 ·exact ha n hn
 ·obtain ⟨m, hm, rfl⟩ := List.mem_map.1 hn
  exact movedN_nb (hb m hm)
end Go.Proofs.YtkfnogdccpcmhaaGreatDoor
namespace Go.Proofs.YtkfnogdccpcmhaaGreatDoor
open Go.V Tryz
open Classical
def In (t : ApiType) (i : Int) : Prop := 0 <= i /\ i < (t.l.length : Int)
def nd (t : ApiType) (i : Int) : ApiTNode := (t.l[i.toNat]?).getD ⟨0, 0, 0, []⟩
theorem nd_get {t : ApiType} {i : Int} (h : In t i) : t.l[i.toNat]? = some (nd t i) := by
 unfold nd
 have h1 : i.toNat < t.l.length := by have := h.1; have := h.2; omega
 rw [List.getElem?_eq_getElem h1]; rfl
theorem nd_mem {t : ApiType} {i : Int} (h : In t i) : nd t i ∈ t.l := List.mem_of_getElem? (nd_get h)
def cs (l : List Int) : List Int := Lib.compact (List.mergeSort l fun x y => decide (x <= y))
theorem mem_cs {l : List Int} {x : Int} : x ∈ cs l ↔ x ∈ l := by
 unfold cs;rw [(compact_sorted (sortI_sorted l)).2 x, List.mem_mergeSort]
theorem cs_sorted (l : List Int) : (cs l).Pairwise (· < ·) := (compact_sorted (sortI_sorted l)).1
theorem cs_uniq {l m : List Int} (h : l.Pairwise (· < ·)) (hm : ∀ x, x ∈ l ↔ x ∈ m) : l = cs m := sorted_ext l (cs m) h (cs_sorted m) (fun x => by rw [hm x, mem_cs])
def wsum (w : Int -> Nat) : List Int -> Nat
 | [] => 0
 | x :: l => w x + wsum w l
theorem wsum_app (w : Int -> Nat) : ∀ l m : List Int, wsum w (l ++ m) = wsum w l + wsum w m
 | [], m => by simp [wsum]
 | x :: l, m => by simp only [List.cons_append, wsum, wsum_app w l m]; omega
theorem wsum_perm {w : Int -> Nat} {l m : List Int} (h : l.Perm m) : wsum w l = wsum w m := by
 induction h with
 | nil => rfl
 | cons x _ ih => simp only [wsum, ih]
 | swap x y l => simp only [wsum]; omega
 | trans _ _ a b => exact a.trans b
theorem wsum_sub (w : Int -> Nat) : ∀ s l : List Int, s.Nodup -> (∀ x ∈ s, x ∈ l) -> wsum w s <= wsum w l
 | [], l, _, _ => Nat.zero_le _
 | x :: s, l, hn, h => by
  obtain ⟨h1, h2⟩ := List.nodup_cons.1 hn
  have hp := List.perm_cons_erase (h x (by simp))
  have := wsum_sub w s (l.erase x) h2 (fun y hy => (List.mem_erase_of_ne (fun e => h1 (by rw [<- e]; exact hy))).2 (h y (by simp [hy])))
  rw [wsum_perm hp];simp only [wsum]; omega
theorem wsum_cs (w : Int -> Nat) (l : List Int) : wsum w (cs l) <= wsum w l := wsum_sub w (cs l) l ((cs_sorted l).imp (fun h => by omega)) (fun x hx => mem_cs.1 hx)
structure OkT (t : ApiType) : Prop where
 right : AllRight t.l
 ends : AllEnds t.l
theorem OkT.kind {t : ApiType} (h : OkT t) {i : Int} (hi : In t i) : 1 <= (nd t i).kind /\ (nd t i).kind <= 11 := by
 have := h.right _ (nd_mem hi)
 unfold rightB at this;simp only [Bool.and_eq_true, Bool.not_eq_true', Bool.or_eq_false_iff, decide_eq_false_iff_not] at this
 have := this.1; omega
theorem OkT.kids {t : ApiType} (h : OkT t) {i : Int} (hi : In t i) {k : Int} (hk : k ∈ kidsL (nd t i)) : In t k := allRight_in h.right _ (nd_mem hi) k hk
theorem OkT.pair {t : ApiType} (h : OkT t) {i : Int} (hi : In t i) (hk : (nd t i).kind = 6 \/ (nd t i).kind = 9 \/ (nd t i).kind = 10) : In t (nd t i).a /\ In t (nd t i).b := by
 have h1 : kidsL (nd t i) = [(nd t i).a, (nd t i).b] := by
  unfold kidsL pB
  rcases hk with hk | hk | hk <;> rw [hk] <;> rfl
 exact ⟨h.kids hi (by rw [h1]; simp), h.kids hi (by rw [h1]; simp)⟩
theorem OkT.at_ {t : ApiType} (h : OkT t) {i : Int} (hi : In t i) {f : ApiTField} (hf : f ∈ (nd t i).l) : In t f.at_ := (right_kids (h.right _ (nd_mem hi))).2 f hf
theorem OkT.weight {t : ApiType} (h : OkT t) : ∃ w : Int -> Nat, ∀ i, In t i -> latB (nd t i).kind = true -> w (nd t i).a + w (nd t i).b < w i := by
 have key : ∀ i : Nat, ∃ r : Nat, i < t.l.length -> endk t.l (r + 1) i = true /\ endk t.l r i = false := by
  intro i
  by_cases hi : i < t.l.length
  ·obtain ⟨m, hm⟩ := h.ends i hi
   obtain ⟨k, _, h1, h2⟩ := endk_least m hm;exact ⟨k, fun _ => ⟨h1, h2⟩⟩
  ·exact ⟨0, fun h => absurd h hi⟩
 obtain ⟨r, hr⟩ := Classical.axiomOfChoice key;refine ⟨fun i => 3 ^ r i.toNat, fun i hi hl => ?_⟩
 have hil : i.toNat < t.l.length := by have := hi.1; have := hi.2; omega
 have hp : In t (nd t i).a /\ In t (nd t i).b := h.pair hi (by unfold latB at hl; simp only [Bool.or_eq_true, decide_eq_true_eq] at hl; exact .inr hl)
 obtain ⟨h1, h2⟩ := hr i.toNat hil
 have hlt : ∀ k : Int, In t k -> endk t.l (r i.toNat) k.toNat = true -> r k.toNat < r i.toNat := by
  intro k hk he
  have hkl : k.toNat < t.l.length := by have := hk.1; have := hk.2; omega
  rcases Nat.lt_or_ge (r k.toNat) (r i.toNat) with h3 | h3
  ·exact h3
  ·have := endk_mono h3 he; rw [(hr _ hkl).2] at this; cases this
 have h3 : endk t.l (r i.toNat) (nd t i).a.toNat = true /\ endk t.l (r i.toNat) (nd t i).b.toNat = true := by
  unfold endk at h1;rw [nd_get hi] at h1;simp only [hl, Bool.not_true, Bool.false_or, Bool.and_eq_true] at h1;exact h1
 have ha := hlt _ hp.1 h3.1
 have hb := hlt _ hp.2 h3.2
 obtain ⟨m, hm⟩ : ∃ m, r i.toNat = m + 1 := ⟨r i.toNat - 1, by omega⟩
 have h4 : 3 ^ r (nd t i).a.toNat <= 3 ^ m := Nat.pow_le_pow_right (by omega) (by omega)
 have h5 : 3 ^ r (nd t i).b.toNat <= 3 ^ m := Nat.pow_le_pow_right (by omega) (by omega)
 have h6 : 3 ^ (m + 1) = 3 * 3 ^ m := by rw [Nat.pow_succ]; omega
 have h7 : 0 < 3 ^ m := Nat.pow_pos (by omega)
 show 3 ^ r (nd t i).a.toNat + 3 ^ r (nd t i).b.toNat < 3 ^ r i.toNat
 rw [hm, h6]; omega
def atN (n : ApiTNode) (s : List UInt8) : Option Int := (n.l.find? fun f => decide (f.name = s)).map (·.at_)
theorem atN_mem {n : ApiTNode} {s : List UInt8} {k : Int} (h : atN n s = some k) : ∃ f ∈ n.l, f.name = s /\ f.at_ = k := by
 unfold atN at h
 cases hq : n.l.find? fun f => decide (f.name = s) with
 | none => rw [hq] at h; cases h
 | some f => rw [hq] at h; exact ⟨f, List.mem_of_find?_eq_some hq, by simpa using List.find?_some hq, by simpa using h⟩
theorem atN_some {n : ApiTNode} {s : List UInt8} : atN n s ≠ none ↔ s ∈ n.l.map (·.name) := by
 unfold atN
 constructor
 ·intro h
  cases hq : n.l.find? fun f => decide (f.name = s) with
  | none => rw [hq] at h; exact absurd rfl h
  | some f => exact List.mem_map.2 ⟨f, List.mem_of_find?_eq_some hq, by simpa using List.find?_some hq⟩
 ·intro h hq
  obtain ⟨f, hf, rfl⟩ := List.mem_map.1 h;rw [Option.map_eq_none_iff, List.find?_eq_none] at hq
  simpa using hq f hf
def partsA (t : ApiType) (l : List Int) (s : List UInt8) : List Int := l.filterMap fun i => atN (nd t i) s
def namesA (t : ApiType) : List Int -> List (List UInt8)
 | [] => []
 | i :: l => ((nd t i).l.map (·.name)).filter fun s => (i :: l).all fun j => (atN (nd t j) s).isSome
def ofK (t : ApiType) (l : List Int) (k : Int) : List Int := l.filter fun i => decide ((nd t i).kind = k)
def latA (t : ApiType) (l : List Int) : Option (ApiTNode × List Int) := (l.findIdx? fun i => latB (nd t i).kind).map fun k => (nd t (l.getD k 0), l.take k ++ l.drop (k + 1))
def openA (t : ApiType) (q : BelowSequent) : Option (List BelowSequent) := match latA t q.left with
 | some (n, rest) => some (if n.kind = 10 then [⟨cs (rest ++ [n.a, n.b]), q.right⟩] else [⟨cs (rest ++ [n.a]), q.right⟩, ⟨cs (rest ++ [n.b]), q.right⟩])
 | none => match latA t q.right with
  | some (n, rest) => some (if n.kind = 9 then [⟨q.left, cs (rest ++ [n.a, n.b])⟩] else [⟨q.left, cs (rest ++ [n.a])⟩, ⟨q.left, cs (rest ++ [n.b])⟩])
  | none => none
def badA (t : ApiType) (l r : List Int) (s : List UInt8) : Bool := (partsA t l s).isEmpty || (partsA t r s).isEmpty
def allA (t : ApiType) (k : Int) (l r : List Int) : List (List UInt8) := if k = 7 then namesA t r else if k = 8 then namesA t l else []
def headsA (t : ApiType) (k : Int) (l r : List Int) : Bool × List BelowSequent :=
 if k ≠ 8 /\ r = [] then (true, []) else
 if k = 6 then (false, [⟨cs (r.map fun i => (nd t i).a), cs (l.map fun i => (nd t i).a)⟩, ⟨cs (l.map fun i => (nd t i).b), cs (r.map fun i => (nd t i).b)⟩]) else
 if (allA t k l r).any (badA t l r) then (true, []) else (false, (allA t k l r).map fun s => ⟨cs (partsA t l s), cs (partsA t r s)⟩)
def kindsA (t : ApiType) (l : List Int) : List Int := [3, 4, 5, 6, 7, 8].filter fun k => l.any fun i => decide ((nd t i).kind = k)
def closedA (t : ApiType) (q : BelowSequent) : Bool × List BelowSequent := match kindsA t q.left with
 | [] => (true, [])
 | [k] => headsA t k (ofK t q.left k) (ofK t q.right k)
 | _ => (false, [])
def endA (t : ApiType) (q : BelowSequent) : Bool := (q.left.any fun i => decide ((nd t i).kind = 2)) || (q.right.any fun i => decide ((nd t i).kind = 1))
def shareA (t : ApiType) (q : BelowSequent) : Bool := q.left.any fun i => q.right.any fun j => decide ((nd t i).kind = 11) && decide ((nd t j).kind = 11) && decide ((nd t i).a = (nd t j).a)
def leadsA (t : ApiType) (q : BelowSequent) : Bool × List BelowSequent :=
 if endA t q = true then (false, []) else match openA t q with
 | some l => (false, l)
 | none => if shareA t q = true then (false, []) else closedA t q
theorem latA_some {t : ApiType} {l rest : List Int} {n : ApiTNode} (h : latA t l = some (n, rest)) : ∃ i, n = nd t i /\ latB n.kind = true /\ l.Perm (i :: rest) := by
 unfold latA at h
 cases hq : l.findIdx? fun i => latB (nd t i).kind with
 | none => rw [hq] at h; cases h
 | some k =>
  rw [hq] at h;simp only [Option.map_some, Option.some.injEq, Prod.mk.injEq] at h;obtain ⟨rfl, rfl⟩ := h;rw [List.findIdx?_eq_some_iff_getElem] at hq;obtain ⟨hk, h1, _⟩ := hq
  have e : l.getD k 0 = l[k] := by rw [List.getD_eq_getElem?_getD, List.getElem?_eq_getElem hk]; rfl
  refine ⟨l[k], by rw [e], by rw [e]; exact h1, ?_⟩
  have e2 : l = l.take k ++ l[k] :: l.drop (k + 1) := by rw [<- List.drop_eq_getElem_cons hk, List.take_append_drop]
  have h3 := List.perm_middle (a := l[k]) (l₁ := l.take k) (l₂ := l.drop (k + 1))
  rw [<- e2] at h3;exact h3
theorem latA_none {t : ApiType} {l : List Int} (h : latA t l = none) : ∀ i ∈ l, latB (nd t i).kind = false := by
 unfold latA at h;rw [Option.map_eq_none_iff, List.findIdx?_eq_none_iff] at h
 intro i hi
 simpa using h i hi
theorem mem_names {t : ApiType} {l : List Int} {s : List UInt8} : s ∈ namesA t l ↔ l ≠ [] /\ ∀ i ∈ l, atN (nd t i) s ≠ none := by
 cases l with
 | nil => simp [namesA]
 | cons i l =>
  unfold namesA;rw [List.mem_filter, <- atN_some, List.all_eq_true]
  constructor
  ·rintro ⟨_, h2⟩
   exact ⟨by simp, fun j hj => by have := h2 j hj; cases hq : atN (nd t j) s with
    | none => rw [hq] at this; cases this
    | some _ => simp⟩
  ·rintro ⟨_, h2⟩
   exact ⟨h2 i (by simp), fun j hj => by have := h2 j hj; cases hq : atN (nd t j) s with
    | none => exact absurd hq this
    | some _ => rfl⟩
theorem mem_parts {t : ApiType} {l : List Int} {s : List UInt8} {k : Int} : k ∈ partsA t l s ↔ ∃ i ∈ l, atN (nd t i) s = some k := by unfold partsA; rw [List.mem_filterMap]
theorem mem_ofK {t : ApiType} {l : List Int} {k i : Int} : i ∈ ofK t l k ↔ i ∈ l /\ (nd t i).kind = k := by unfold ofK; rw [List.mem_filter, decide_eq_true_eq]
theorem mem_kinds {t : ApiType} {l : List Int} {k : Int} : k ∈ kindsA t l ↔ (3 <= k /\ k <= 8) /\ ∃ i ∈ l, (nd t i).kind = k := by
 unfold kindsA;rw [List.mem_filter, List.any_eq_true];simp only [List.mem_cons, List.not_mem_nil, or_false, decide_eq_true_eq]
 constructor
 ·rintro ⟨h1, h2⟩; exact ⟨by omega, h2⟩
 ·rintro ⟨h1, h2⟩; exact ⟨by omega, h2⟩
theorem kinds_nodup (t : ApiType) (l : List Int) : (kindsA t l).Nodup := by unfold kindsA; exact List.Nodup.sublist List.filter_sublist (by decide)
inductive Pt
 | tag (S : Int -> Prop) (k : Int)
 | dom (S : Int -> Prop) (q : Pt)
 | cod (S : Int -> Prop) (q : Pt)
 | absent (S : Int -> Prop) (s : List UInt8)
 | field (S : Int -> Prop) (s : List UInt8) (q : Pt)
 | hasc (S : Int -> Prop) (s : List UInt8)
 | case (S : Int -> Prop) (s : List UInt8) (q : Pt)
def Pt.vars : Pt -> Int -> Prop
 | .tag S _ => S
 | .dom S _ => S
 | .cod S _ => S
 | .absent S _ => S
 | .field S _ _ => S
 | .hasc S _ => S
 | .case S _ _ => S
def Pt.kind : Pt -> Int
 | .tag _ k => k
 | .dom _ _ => 6
 | .cod _ _ => 6
 | .absent _ _ => 7
 | .field _ _ _ => 7
 | .hasc _ _ => 8
 | .case _ _ _ => 8
def Pt.size : Pt -> Nat
 | .tag _ _ => 0
 | .dom _ q => q.size + 1
 | .cod _ q => q.size + 1
 | .absent _ _ => 0
 | .field _ _ q => q.size + 1
 | .hasc _ _ => 0
 | .case _ _ q => q.size + 1
inductive La (t : ApiType) (S : Int -> Prop) (D : ApiTNode -> Prop) : Int -> Prop
 | top {i : Int} : (nd t i).kind = 1 -> La t S D i
 | inl {i : Int} : (nd t i).kind = 9 -> La t S D (nd t i).a -> La t S D i
 | inr {i : Int} : (nd t i).kind = 9 -> La t S D (nd t i).b -> La t S D i
 | both {i : Int} : (nd t i).kind = 10 -> La t S D (nd t i).a -> La t S D (nd t i).b -> La t S D i
 | var {i : Int} : (nd t i).kind = 11 -> S (nd t i).a -> La t S D i
 | head {i : Int} : 3 <= (nd t i).kind -> (nd t i).kind <= 8 -> D (nd t i) -> La t S D i
def hdP (t : ApiType) : Pt -> ApiTNode -> Prop
 | .tag _ k, x => x.kind = k /\ k ≠ 8
 | .dom _ q, x => x.kind = 6 /\ ¬ La t q.vars (hdP t q) x.a
 | .cod _ q, x => x.kind = 6 /\ La t q.vars (hdP t q) x.b
 | .absent _ s, x => x.kind = 7 /\ atN x s = none
 | .field _ s q, x => x.kind = 7 /\ ∀ k, atN x s = some k -> La t q.vars (hdP t q) k
 | .hasc _ s, x => x.kind = 8 /\ atN x s ≠ none
 | .case _ s q, x => x.kind = 8 /\ ∃ k, atN x s = some k /\ La t q.vars (hdP t q) k
def Sat (t : ApiType) (p : Pt) (i : Int) : Prop := La t p.vars (hdP t p) i
theorem hdP_kind {t : ApiType} {p : Pt} {x : ApiTNode} (h : hdP t p x) : x.kind = p.kind := by
 cases p <;> exact h.1
section
variable {t : ApiType} {S : Int -> Prop} {D : ApiTNode -> Prop} {i : Int}
theorem la_top (h : (nd t i).kind = 1) : La t S D i := .top h
theorem la_bot (h : (nd t i).kind = 2) : ¬ La t S D i := by intro h2; cases h2 <;> omega
theorem la_join (h : (nd t i).kind = 9) : La t S D i ↔ La t S D (nd t i).a \/ La t S D (nd t i).b := by
 constructor
 ·intro h2
  cases h2 with
  | inl _ h3 => exact .inl h3
  | inr _ h3 => exact .inr h3
  | top h3 => omega
  | both h3 _ _ => omega
  | var h3 _ => omega
  | head h3 h4 _ => omega
 ·rintro (h2 | h2)
  ·exact .inl h h2
  ·exact .inr h h2
theorem la_meet (h : (nd t i).kind = 10) : La t S D i ↔ La t S D (nd t i).a /\ La t S D (nd t i).b := by
 constructor
 ·intro h2
  cases h2 with
  | both _ h3 h4 => exact ⟨h3, h4⟩
  | inl h3 _ => omega
  | inr h3 _ => omega
  | top h3 => omega
  | var h3 _ => omega
  | head h3 h4 _ => omega
 ·rintro ⟨h2, h3⟩; exact .both h h2 h3
theorem la_var (h : (nd t i).kind = 11) : La t S D i ↔ S (nd t i).a := by
 constructor
 ·intro h2
  cases h2 with
  | var _ h3 => exact h3
  | both h3 _ _ => omega
  | inl h3 _ => omega
  | inr h3 _ => omega
  | top h3 => omega
  | head h3 h4 _ => omega
 ·intro h2; exact .var h h2
theorem la_head (h : 3 <= (nd t i).kind) (h' : (nd t i).kind <= 8) : La t S D i ↔ D (nd t i) := by
 constructor
 ·intro h2
  cases h2 with
  | head _ _ h3 => exact h3
  | both h3 _ _ => omega
  | inl h3 _ => omega
  | inr h3 _ => omega
  | top h3 => omega
  | var h3 _ => omega
 ·intro h2; exact .head h h' h2
end
def CE (t : ApiType) (p : Pt) (q : BelowSequent) : Prop := (∀ i ∈ q.left, Sat t p i) /\ ∀ i ∈ q.right, ¬ Sat t p i
def InQ (t : ApiType) (q : BelowSequent) : Prop := (∀ i ∈ q.left, In t i) /\ ∀ i ∈ q.right, In t i
structure Closed (t : ApiType) (q : BelowSequent) : Prop where
 bot : ∀ i ∈ q.left, (nd t i).kind ≠ 2
 top : ∀ i ∈ q.right, (nd t i).kind ≠ 1
 latL : ∀ i ∈ q.left, latB (nd t i).kind = false
 latR : ∀ i ∈ q.right, latB (nd t i).kind = false
 share : ∀ i ∈ q.left, ∀ j ∈ q.right, (nd t i).kind = 11 -> (nd t j).kind = 11 -> (nd t i).a ≠ (nd t j).a
theorem lat_no {k : Int} (h : latB k = false) : k ≠ 9 /\ k ≠ 10 := by
 unfold latB at h;simp only [Bool.or_eq_false_iff, decide_eq_false_iff_not] at h;exact h
theorem lat_yes {k : Int} (h : latB k = true) : k = 9 \/ k = 10 := by
 unfold latB at h
 simpa only [Bool.or_eq_true, decide_eq_true_eq] using h
def SV (t : ApiType) (q : BelowSequent) : Int -> Prop := fun v => ∃ i ∈ q.left, (nd t i).kind = 11 /\ (nd t i).a = v
theorem mk_ce {t : ApiType} {q : BelowSequent} {p : Pt} (hO : OkT t) (hq : InQ t q) (hC : Closed t q) (hS : p.vars = SV t q)
  (hL : ∀ i ∈ q.left, 3 <= (nd t i).kind -> (nd t i).kind <= 8 -> hdP t p (nd t i)) (hR : ∀ i ∈ q.right, 3 <= (nd t i).kind -> (nd t i).kind <= 8 -> ¬ hdP t p (nd t i)) : CE t p q := by
 constructor
 ·intro i hi
  have hk := hO.kind (hq.1 i hi)
  have h2 := hC.bot i hi
  have h3 := lat_no (hC.latL i hi)
  by_cases h1 : (nd t i).kind = 1
  ·exact .top h1
  ·by_cases h11 : (nd t i).kind = 11
   ·refine .var h11 ?_
    rw [hS]; exact ⟨i, hi, h11, rfl⟩
   ·exact .head (by omega) (by omega) (hL i hi (by omega) (by omega))
 ·intro i hi hs
  have h1 := hC.top i hi
  have h3 := lat_no (hC.latR i hi)
  unfold Sat at hs
  cases hs with
  | top h => exact h1 h
  | inl h _ => exact h3.1 h
  | inr h _ => exact h3.1 h
  | both h _ _ => exact h3.2 h
  | var h h4 =>
   rw [hS] at h4;obtain ⟨j, hj, hj1, hj2⟩ := h4;exact hC.share j hj i hi hj1 h hj2
  | head h4 h5 h6 => exact hR i hi h4 h5 h6
theorem kinds_nil {t : ApiType} {l : List Int} (h : kindsA t l = []) : ∀ i ∈ l, 3 <= (nd t i).kind -> (nd t i).kind <= 8 -> False := by
 intro i hi h1 h2
 have := (mem_kinds (t := t) (l := l)).2 ⟨⟨h1, h2⟩, i, hi, rfl⟩
 rw [h] at this; cases this
theorem kinds_one {t : ApiType} {l : List Int} {k : Int} (h : kindsA t l = [k]) : (3 <= k /\ k <= 8) /\ (∃ i ∈ l, (nd t i).kind = k) /\ ∀ i ∈ l, 3 <= (nd t i).kind -> (nd t i).kind <= 8 -> (nd t i).kind = k := by
 have h0 := (mem_kinds (t := t) (l := l) (k := k)).1 (by rw [h]; simp)
 refine ⟨h0.1, h0.2, fun i hi h1 h2 => ?_⟩
 have := (mem_kinds (t := t) (l := l)).2 ⟨⟨h1, h2⟩, i, hi, rfl⟩
 rw [h] at this; simpa using this
theorem kinds_two {t : ApiType} {l m : List Int} {a b : Int} (h : kindsA t l = a :: b :: m) : ∃ i ∈ l, ∃ j ∈ l, (3 <= (nd t i).kind /\ (nd t i).kind <= 8) /\ (3 <= (nd t j).kind /\ (nd t j).kind <= 8) /\ (nd t i).kind ≠ (nd t j).kind := by
 have ha := (mem_kinds (t := t) (l := l) (k := a)).1 (by rw [h]; simp)
 have hb := (mem_kinds (t := t) (l := l) (k := b)).1 (by rw [h]; simp)
 have hn := kinds_nodup t l
 rw [h] at hn
 have hab : a ≠ b := fun e => by subst e; exact (List.nodup_cons.1 hn).1 (by simp)
 obtain ⟨i, hi, rfl⟩ := ha.2;obtain ⟨j, hj, rfl⟩ := hb.2;exact ⟨i, hi, j, hj, ha.1, hb.1, hab⟩
theorem bad_some {t : ApiType} {l r : List Int} {s : List UInt8} (h : badA t l r s = true) : (∀ i ∈ l, atN (nd t i) s = none) \/ ∀ i ∈ r, atN (nd t i) s = none := by
 unfold badA at h;rw [Bool.or_eq_true, List.isEmpty_iff, List.isEmpty_iff] at h
 have key : ∀ l : List Int, partsA t l s = [] -> ∀ i ∈ l, atN (nd t i) s = none := by
  intro l hl i hi
  cases hq : atN (nd t i) s with
  | none => rfl
  | some k => have := (mem_parts (t := t) (l := l)).2 ⟨i, hi, hq⟩; rw [hl] at this; cases this
 exact h.imp (key l) (key r)
theorem bad_of {t : ApiType} {l r : List Int} {s : List UInt8} (h : (∀ i ∈ l, atN (nd t i) s = none) \/ ∀ i ∈ r, atN (nd t i) s = none) : badA t l r s = true := by
 unfold badA;rw [Bool.or_eq_true, List.isEmpty_iff, List.isEmpty_iff]
 have key : ∀ l : List Int, (∀ i ∈ l, atN (nd t i) s = none) -> partsA t l s = [] := by
  intro l hl
  rw [List.eq_nil_iff_forall_not_mem]
  intro k hk
  obtain ⟨i, hi, h2⟩ := mem_parts.1 hk;rw [hl i hi] at h2; cases h2
 exact h.imp (key l) (key r)
theorem heads_bad {t : ApiType} {q : BelowSequent} {k : Int} (hO : OkT t) (hq : InQ t q) (hC : Closed t q) (hk : kindsA t q.left = [k]) (h : (headsA t k (ofK t q.left k) (ofK t q.right k)).1 = true) : ∃ p, CE t p q := by
 obtain ⟨h0, ⟨i0, hi0, hk0⟩, h1⟩ := kinds_one hk;unfold headsA at h
 split at h
 ·rename_i hr
  refine ⟨.tag (SV t q) k, mk_ce hO hq hC rfl (fun i hi h3 h8 => ⟨h1 i hi h3 h8, hr.1⟩) (fun i hi h3 h8 hd => ?_)⟩
  have := mem_ofK.2 ⟨hi, hd.1⟩
  rw [hr.2] at this; cases this
 ·rename_i hr
  split at h
  ·cases h
  ·split at h
   ·rename_i h2
    rw [List.any_eq_true] at h2;obtain ⟨s, hs, hb⟩ := h2;unfold allA at hs
    split at hs
    ·rename_i h7; subst h7
     obtain ⟨hne, hall⟩ := mem_names.1 hs
     rcases bad_some hb with hb | hb
     ·refine ⟨.absent (SV t q) s, mk_ce hO hq hC rfl (fun i hi h3 h8 => ⟨h1 i hi h3 h8, hb i (mem_ofK.2 ⟨hi, h1 i hi h3 h8⟩)⟩) (fun i hi h3 h8 hd => ?_)⟩
      exact hall i (mem_ofK.2 ⟨hi, hd.1⟩) hd.2
     ·exfalso
      cases hq' : ofK t q.right 7 with
      | nil => exact hne hq'
      | cons j m => exact hall j (by rw [hq']; simp) (hb j (by rw [hq']; simp))
    ·split at hs
     ·rename_i h8; subst h8
      obtain ⟨hne, hall⟩ := mem_names.1 hs
      rcases bad_some hb with hb | hb
      ·exfalso
       exact hall i0 (mem_ofK.2 ⟨hi0, hk0⟩) (hb i0 (mem_ofK.2 ⟨hi0, hk0⟩))
      ·refine ⟨.hasc (SV t q) s, mk_ce hO hq hC rfl (fun i hi h3 h8 => ⟨h1 i hi h3 h8, hall i (mem_ofK.2 ⟨hi, h1 i hi h3 h8⟩)⟩) (fun i hi h3 h8 hd => ?_)⟩
       exact hd.2 (hb i (mem_ofK.2 ⟨hi, hd.1⟩))
     ·cases hs
   ·cases h
theorem heads_up {t : ApiType} {q s : BelowSequent} {k : Int} {p : Pt} (hO : OkT t) (hq : InQ t q) (hC : Closed t q) (hk : kindsA t q.left = [k]) (hs : s ∈ (headsA t k (ofK t q.left k) (ofK t q.right k)).2) (hp : CE t p s) : ∃ p, CE t p q := by
 obtain ⟨h0, ⟨i0, hi0, hk0⟩, h1⟩ := kinds_one hk;unfold headsA at hs
 split at hs
 ·cases hs
 ·rename_i hr
  split at hs
  ·rename_i h6; subst h6
   simp only [List.mem_cons, List.not_mem_nil, or_false] at hs
   rcases hs with rfl | rfl
   ·refine ⟨.dom (SV t q) p, mk_ce hO hq hC rfl (fun i hi h3 h8 => ⟨h1 i hi h3 h8, ?_⟩) (fun i hi h3 h8 hd => ?_)⟩
    ·exact hp.2 _ (mem_cs.2 (List.mem_map.2 ⟨i, mem_ofK.2 ⟨hi, h1 i hi h3 h8⟩, rfl⟩))
    ·exact hd.2 (hp.1 _ (mem_cs.2 (List.mem_map.2 ⟨i, mem_ofK.2 ⟨hi, hd.1⟩, rfl⟩)))
   ·refine ⟨.cod (SV t q) p, mk_ce hO hq hC rfl (fun i hi h3 h8 => ⟨h1 i hi h3 h8, ?_⟩) (fun i hi h3 h8 hd => ?_)⟩
    ·exact hp.1 _ (mem_cs.2 (List.mem_map.2 ⟨i, mem_ofK.2 ⟨hi, h1 i hi h3 h8⟩, rfl⟩))
    ·exact hp.2 _ (mem_cs.2 (List.mem_map.2 ⟨i, mem_ofK.2 ⟨hi, hd.1⟩, rfl⟩)) hd.2
  ·split at hs
   ·cases hs
   ·rename_i hb
    obtain ⟨n, hn, rfl⟩ := List.mem_map.1 hs;unfold allA at hn
    split at hn
    ·rename_i h7; subst h7
     obtain ⟨hne, hall⟩ := mem_names.1 hn;refine ⟨.field (SV t q) n p, mk_ce hO hq hC rfl (fun i hi h3 h8 => ⟨h1 i hi h3 h8, fun k hk => ?_⟩) (fun i hi h3 h8 hd => ?_)⟩
     ·exact hp.1 _ (mem_cs.2 (mem_parts.2 ⟨i, mem_ofK.2 ⟨hi, h1 i hi h3 h8⟩, hk⟩))
     ·have hi2 := mem_ofK.2 ⟨hi, hd.1⟩
      cases hq2 : atN (nd t i) n with
      | none => exact hall i hi2 hq2
      | some k => exact hp.2 _ (mem_cs.2 (mem_parts.2 ⟨i, hi2, hq2⟩)) (hd.2 k hq2)
    ·split at hn
     ·rename_i h8; subst h8
      obtain ⟨hne, hall⟩ := mem_names.1 hn;refine ⟨.case (SV t q) n p, mk_ce hO hq hC rfl (fun i hi h3 h8 => ⟨h1 i hi h3 h8, ?_⟩) (fun i hi h3 h8 hd => ?_)⟩
      ·have hi2 := mem_ofK.2 ⟨hi, h1 i hi h3 h8⟩
       cases hq2 : atN (nd t i) n with
       | none => exact absurd hq2 (hall i hi2)
       | some k => exact ⟨k, rfl, hp.1 _ (mem_cs.2 (mem_parts.2 ⟨i, hi2, hq2⟩))⟩
      ·obtain ⟨k, hk2, hk3⟩ := hd.2
       exact hp.2 _ (mem_cs.2 (mem_parts.2 ⟨i, mem_ofK.2 ⟨hi, hd.1⟩, hk2⟩)) hk3
     ·cases hn
theorem mk_closed {t : ApiType} {q : BelowSequent} (h1 : ¬ endA t q = true) (h2 : openA t q = none) (h3 : ¬ shareA t q = true) : Closed t q := by
 unfold endA at h1;unfold openA at h2;unfold shareA at h3;rw [Bool.or_eq_true, List.any_eq_true, List.any_eq_true] at h1;simp only [List.any_eq_true, Bool.and_eq_true, decide_eq_true_eq] at h1 h3
 have hL : latA t q.left = none := by
  cases hq : latA t q.left with
  | none => rfl
  | some x => rw [hq] at h2; cases h2
 have hR : latA t q.right = none := by
  cases hq : latA t q.right with
  | none => rfl
  | some x => rw [hL, hq] at h2; cases h2
 exact ⟨fun i hi h => h1 (.inl ⟨i, hi, h⟩), fun i hi h => h1 (.inr ⟨i, hi, h⟩), latA_none hL, latA_none hR, fun i hi j hj h4 h5 h6 => h3 ⟨i, hi, j, hj, ⟨h4, h5⟩, h6⟩⟩
theorem lead_bad {t : ApiType} {q : BelowSequent} (hO : OkT t) (hq : InQ t q) (h : (leadsA t q).1 = true) : ∃ p, CE t p q := by
 unfold leadsA at h
 split at h
 ·cases h
 ·rename_i h1
  split at h
  ·cases h
  ·rename_i h2
   split at h
   ·cases h
   ·rename_i h3
    have hC := mk_closed h1 h2 h3
    unfold closedA at h
    split at h
    ·rename_i hk
     exact ⟨.tag (SV t q) 0, mk_ce hO hq hC rfl (fun i hi h3 h8 => (kinds_nil hk i hi h3 h8).elim) (fun i hi h3 h8 hd => by have := hd.1; omega)⟩
    ·rename_i k hk
     exact heads_bad hO hq hC hk h
    ·cases h
theorem open_up {t : ApiType} {q s : BelowSequent} {l : List BelowSequent} {p : Pt} (h : openA t q = some l) (hs : s ∈ l) (hp : CE t p s) : CE t p q := by
 unfold openA at h
 split at h
 ·rename_i n rest hl
  obtain ⟨i, rfl, hk, hpm⟩ := latA_some hl
  cases h
  have key : Sat t p i -> (∀ j ∈ rest, Sat t p j) -> (∀ j ∈ q.right, ¬ Sat t p j) -> CE t p q := fun h1 h2 h3 => ⟨fun j hj => by rcases List.mem_cons.1 (hpm.mem_iff.1 hj) with rfl | h; exact h1; exact h2 j h, h3⟩
  split at hs
  ·rename_i h10
   simp only [List.mem_singleton] at hs; subst hs
   exact key ((la_meet h10).2 ⟨hp.1 _ (mem_cs.2 (by simp)), hp.1 _ (mem_cs.2 (by simp))⟩) (fun j hj => hp.1 _ (mem_cs.2 (by simp [hj]))) hp.2
  ·rename_i h10
   have h9 : (nd t i).kind = 9 := (lat_yes hk).resolve_right h10
   simp only [List.mem_cons, List.not_mem_nil, or_false] at hs
   rcases hs with rfl | rfl
   ·exact key ((la_join h9).2 (.inl (hp.1 _ (mem_cs.2 (by simp))))) (fun j hj => hp.1 _ (mem_cs.2 (by simp [hj]))) hp.2
   ·exact key ((la_join h9).2 (.inr (hp.1 _ (mem_cs.2 (by simp))))) (fun j hj => hp.1 _ (mem_cs.2 (by simp [hj]))) hp.2
 ·split at h
  ·rename_i n rest hl
   obtain ⟨i, rfl, hk, hpm⟩ := latA_some hl
   cases h
   have key : ¬ Sat t p i -> (∀ j ∈ rest, ¬ Sat t p j) -> (∀ j ∈ q.left, Sat t p j) -> CE t p q := fun h1 h2 h3 => ⟨h3, fun j hj => by rcases List.mem_cons.1 (hpm.mem_iff.1 hj) with rfl | h; exact h1; exact h2 j h⟩
   split at hs
   ·rename_i h9
    simp only [List.mem_singleton] at hs; subst hs
    exact key (fun h => ((la_join h9).1 h).elim (hp.2 _ (mem_cs.2 (by simp))) (hp.2 _ (mem_cs.2 (by simp)))) (fun j hj => hp.2 _ (mem_cs.2 (by simp [hj]))) hp.1
   ·rename_i h9
    have h10 : (nd t i).kind = 10 := (lat_yes hk).resolve_left h9
    simp only [List.mem_cons, List.not_mem_nil, or_false] at hs
    rcases hs with rfl | rfl
    ·exact key (fun h => hp.2 _ (mem_cs.2 (by simp)) ((la_meet h10).1 h).1) (fun j hj => hp.2 _ (mem_cs.2 (by simp [hj]))) hp.1
    ·exact key (fun h => hp.2 _ (mem_cs.2 (by simp)) ((la_meet h10).1 h).2) (fun j hj => hp.2 _ (mem_cs.2 (by simp [hj]))) hp.1
  ·cases h
theorem lead_up {t : ApiType} {q s : BelowSequent} {p : Pt} (hO : OkT t) (hq : InQ t q) (hs : s ∈ (leadsA t q).2) (hp : CE t p s) : ∃ p, CE t p q := by
 unfold leadsA at hs
 split at hs
 ·cases hs
 ·rename_i h1
  split at hs
  ·rename_i l h2
   exact ⟨p, open_up h2 hs hp⟩
  ·rename_i h2
   split at hs
   ·cases hs
   ·rename_i h3
    have hC := mk_closed h1 h2 h3
    unfold closedA at hs
    split at hs
    ·cases hs
    ·rename_i k hk
     exact heads_up hO hq hC hk hs hp
    ·cases hs
def wq (w : Int -> Nat) (q : BelowSequent) : Nat := wsum w q.left + wsum w q.right
theorem open_down {t : ApiType} {q : BelowSequent} {l : List BelowSequent} {p : Pt} {w : Int -> Nat} (hw : ∀ i, In t i -> latB (nd t i).kind = true -> w (nd t i).a + w (nd t i).b < w i) (hq : InQ t q) (h : openA t q = some l) (hp : CE t p q) : ∃ s ∈ l, CE t p s /\ wq w s < wq w q := by
 unfold openA at h
 split at h
 ·rename_i n rest hl
  obtain ⟨i, rfl, hk, hpm⟩ := latA_some hl
  cases h
  have hi : i ∈ q.left := hpm.mem_iff.2 (by simp)
  have hrest : ∀ j ∈ rest, Sat t p j := fun j hj => hp.1 j (hpm.mem_iff.2 (by simp [hj]))
  have hwi := hw i (hq.1 i hi) hk
  have hwl : wsum w q.left = w i + wsum w rest := by rw [wsum_perm hpm]; rfl
  have h2 : ∀ m : List Int, (∀ j ∈ m, Sat t p j) -> wsum w m < w i -> CE t p ⟨cs (rest ++ m), q.right⟩ /\ wq w ⟨cs (rest ++ m), q.right⟩ < wq w q := by
   intro m hm hwm
   refine ⟨⟨fun j hj => ?_, hp.2⟩, ?_⟩
   ·rcases List.mem_append.1 (mem_cs.1 hj) with h | h
    ·exact hrest j h
    ·exact hm j h
   ·have := wsum_cs w (rest ++ m)
    rw [wsum_app] at this;simp only [wq]
    omega
  split
  ·rename_i h10
   have hs := (la_meet h10).1 (hp.1 i hi)
   have := h2 [(nd t i).a, (nd t i).b] (fun j hj => by simp at hj; rcases hj with rfl | rfl; exact hs.1; exact hs.2) (by simp only [wsum]; omega)
   exact ⟨_, by simp, this⟩
  ·rename_i h10
   have h9 : (nd t i).kind = 9 := (lat_yes hk).resolve_right h10
   rcases (la_join h9).1 (hp.1 i hi) with hs | hs
   ·have := h2 [(nd t i).a] (fun j hj => by simp at hj; subst hj; exact hs) (by simp only [wsum]; omega)
    exact ⟨_, by simp, this⟩
   ·have := h2 [(nd t i).b] (fun j hj => by simp at hj; subst hj; exact hs) (by simp only [wsum]; omega)
    exact ⟨⟨cs (rest ++ [(nd t i).b]), q.right⟩, by simp, this⟩
 ·split at h
  ·rename_i n rest hl
   obtain ⟨i, rfl, hk, hpm⟩ := latA_some hl
   cases h
   have hi : i ∈ q.right := hpm.mem_iff.2 (by simp)
   have hrest : ∀ j ∈ rest, ¬ Sat t p j := fun j hj => hp.2 j (hpm.mem_iff.2 (by simp [hj]))
   have hwi := hw i (hq.2 i hi) hk
   have hwl : wsum w q.right = w i + wsum w rest := by rw [wsum_perm hpm]; rfl
   have h2 : ∀ m : List Int, (∀ j ∈ m, ¬ Sat t p j) -> wsum w m < w i -> CE t p ⟨q.left, cs (rest ++ m)⟩ /\ wq w ⟨q.left, cs (rest ++ m)⟩ < wq w q := by
    intro m hm hwm
    refine ⟨⟨hp.1, fun j hj => ?_⟩, ?_⟩
    ·rcases List.mem_append.1 (mem_cs.1 hj) with h | h
     ·exact hrest j h
     ·exact hm j h
    ·have := wsum_cs w (rest ++ m)
     rw [wsum_app] at this;simp only [wq]
     omega
   have hs := hp.2 i hi
   split
   ·rename_i h9
    have := h2 [(nd t i).a, (nd t i).b] (fun j hj => by
     simp at hj
     rcases hj with rfl | rfl
     ·exact fun h => hs ((la_join h9).2 (.inl h))
     ·exact fun h => hs ((la_join h9).2 (.inr h))) (by simp only [wsum]; omega)
    exact ⟨_, by simp, this⟩
   ·rename_i h9
    have h10 : (nd t i).kind = 10 := (lat_yes hk).resolve_left h9
    by_cases ha : Sat t p (nd t i).a
    ·have := h2 [(nd t i).b] (fun j hj => by simp at hj; subst hj; exact fun h => hs ((la_meet h10).2 ⟨ha, h⟩)) (by simp only [wsum]; omega)
     exact ⟨⟨q.left, cs (rest ++ [(nd t i).b])⟩, by simp, this⟩
    ·have := h2 [(nd t i).a] (fun j hj => by simp at hj; subst hj; exact ha) (by simp only [wsum]; omega)
     exact ⟨_, by simp, this⟩
  ·cases h
theorem head_sat {t : ApiType} {q : BelowSequent} {p : Pt} {k : Int} (hk : kindsA t q.left = [k]) (hp : CE t p q) : k = p.kind /\ (3 <= k /\ k <= 8) /\ (∃ i, i ∈ ofK t q.left k) /\ (∀ i ∈ ofK t q.left k, hdP t p (nd t i)) /\ ∀ i ∈ ofK t q.right k, ¬ hdP t p (nd t i) := by
 obtain ⟨h0, ⟨i0, hi0, hk0⟩, h1⟩ := kinds_one hk
 have hd : ∀ i ∈ ofK t q.left k, hdP t p (nd t i) := fun i hi => by
  obtain ⟨h2, h3⟩ := mem_ofK.1 hi;exact (la_head (by omega) (by omega)).1 (hp.1 i h2)
 refine ⟨?_, h0, ⟨i0, mem_ofK.2 ⟨hi0, hk0⟩⟩, hd, fun i hi hh => ?_⟩
 ·rw [<- hdP_kind (hd i0 (mem_ofK.2 ⟨hi0, hk0⟩)), hk0]
 ·obtain ⟨h2, h3⟩ := mem_ofK.1 hi
  exact hp.2 i h2 ((la_head (by omega) (by omega)).2 hh)
theorem heads_down {t : ApiType} {p : Pt} {l r : List Int} (h0 : 3 <= p.kind /\ p.kind <= 8) (hne : ∃ i, i ∈ l) (hK : ∀ i ∈ r, (nd t i).kind = p.kind) (hL : ∀ i ∈ l, hdP t p (nd t i)) (hR : ∀ i ∈ r, ¬ hdP t p (nd t i)) :
  (headsA t p.kind l r).1 = true \/ ∃ s ∈ (headsA t p.kind l r).2, ∃ p', CE t p' s /\ p'.size < p.size := by
 by_cases hr : p.kind ≠ 8 /\ r = []
 ·left; unfold headsA; rw [if_pos hr]
 have hnil : p.kind ≠ 8 -> r ≠ [] := fun h h2 => hr ⟨h, h2⟩
 cases p with
 | tag S k =>
  exfalso
  by_cases h8 : k = 8
  ·obtain ⟨i, hi⟩ := hne
   exact (hL i hi).2 h8
  ·cases r with
   | nil => exact hnil h8 rfl
   | cons j m => exact hR j (by simp) ⟨hK j (by simp), h8⟩
 | dom S p =>
  right
  refine ⟨⟨cs (r.map fun i => (nd t i).a), cs (l.map fun i => (nd t i).a)⟩, by unfold headsA; rw [if_neg hr]; simp [Pt.kind], p, ⟨fun x hx => ?_, fun x hx => ?_⟩, by simp [Pt.size]⟩
  ·obtain ⟨i, hi, rfl⟩ := List.mem_map.1 (mem_cs.1 hx)
   exact Classical.byContradiction fun h => hR i hi ⟨hK i hi, h⟩
  ·obtain ⟨i, hi, rfl⟩ := List.mem_map.1 (mem_cs.1 hx)
   exact (hL i hi).2
 | cod S p =>
  right
  refine ⟨⟨cs (l.map fun i => (nd t i).b), cs (r.map fun i => (nd t i).b)⟩, by unfold headsA; rw [if_neg hr]; simp [Pt.kind], p, ⟨fun x hx => ?_, fun x hx => ?_⟩, by simp [Pt.size]⟩
  ·obtain ⟨i, hi, rfl⟩ := List.mem_map.1 (mem_cs.1 hx)
   exact (hL i hi).2
  ·obtain ⟨i, hi, rfl⟩ := List.mem_map.1 (mem_cs.1 hx)
   exact fun h => hR i hi ⟨hK i hi, h⟩
 | absent S s =>
  left
  have hs : s ∈ namesA t r := mem_names.2 ⟨hnil (by simp [Pt.kind]), fun i hi h => hR i hi ⟨hK i hi, h⟩⟩
  unfold headsA;rw [if_neg hr, if_neg (by simp [Pt.kind]), if_pos (List.any_eq_true.2 ⟨s, by simp [allA, Pt.kind, hs], bad_of (.inl fun i hi => (hL i hi).2)⟩)]
 | field S s p =>
  have hex : ∀ i ∈ r, ∃ k, atN (nd t i) s = some k /\ ¬ Sat t p k := fun i hi => Classical.byContradiction fun h => hR i hi ⟨hK i hi, fun k hk => Classical.byContradiction fun h2 => h ⟨k, hk, h2⟩⟩
  have hs : s ∈ namesA t r := mem_names.2 ⟨hnil (by simp [Pt.kind]), fun i hi h => by obtain ⟨k, hk, _⟩ := hex i hi; rw [h] at hk; cases hk⟩
  by_cases hb : (allA t (Pt.field S s p).kind l r).any (badA t l r) = true
  ·left; unfold headsA; rw [if_neg hr, if_neg (by simp [Pt.kind]), if_pos hb]
  ·right
   refine ⟨⟨cs (partsA t l s), cs (partsA t r s)⟩, ?_, p, ⟨fun x hx => ?_, fun x hx => ?_⟩, by simp [Pt.size]⟩
   ·unfold headsA; rw [if_neg hr, if_neg (by simp [Pt.kind]), if_neg hb]
    exact List.mem_map.2 ⟨s, by simp [allA, Pt.kind, hs], rfl⟩
   ·obtain ⟨i, hi, hk⟩ := mem_parts.1 (mem_cs.1 hx)
    exact (hL i hi).2 x hk
   ·obtain ⟨i, hi, hk⟩ := mem_parts.1 (mem_cs.1 hx)
    obtain ⟨k, hk2, hk3⟩ := hex i hi;rw [hk] at hk2; cases hk2
    exact hk3
 | hasc S s =>
  left
  obtain ⟨i0, hi0⟩ := hne
  have hs : s ∈ namesA t l := mem_names.2 ⟨fun e => (by rw [e] at hi0; cases hi0), fun i hi => (hL i hi).2⟩
  have hn : ∀ i ∈ r, atN (nd t i) s = none := fun i hi => by
   cases hq : atN (nd t i) s with
   | none => rfl
   | some k => exact absurd ⟨hK i hi, by rw [hq]; simp⟩ (hR i hi)
  unfold headsA;rw [if_neg hr, if_neg (by simp [Pt.kind]), if_pos (List.any_eq_true.2 ⟨s, by simp [allA, Pt.kind, hs], bad_of (.inr hn)⟩)]
 | case S s p =>
  obtain ⟨i0, hi0⟩ := hne
  have hs : s ∈ namesA t l := mem_names.2 ⟨fun e => (by rw [e] at hi0; cases hi0), fun i hi h => by obtain ⟨k, hk, _⟩ := (hL i hi).2; rw [h] at hk; cases hk⟩
  by_cases hb : (allA t (Pt.case S s p).kind l r).any (badA t l r) = true
  ·left; unfold headsA; rw [if_neg hr, if_neg (by simp [Pt.kind]), if_pos hb]
  ·right
   refine ⟨⟨cs (partsA t l s), cs (partsA t r s)⟩, ?_, p, ⟨fun x hx => ?_, fun x hx => ?_⟩, by simp [Pt.size]⟩
   ·unfold headsA; rw [if_neg hr, if_neg (by simp [Pt.kind]), if_neg hb]
    exact List.mem_map.2 ⟨s, by simp [allA, Pt.kind, hs], rfl⟩
   ·obtain ⟨i, hi, hk⟩ := mem_parts.1 (mem_cs.1 hx)
    obtain ⟨k, hk2, hk3⟩ := (hL i hi).2;rw [hk] at hk2; cases hk2
    exact hk3
   ·obtain ⟨i, hi, hk⟩ := mem_parts.1 (mem_cs.1 hx)
    exact fun h => hR i hi ⟨hK i hi, x, hk, h⟩
theorem lead_down {t : ApiType} {q : BelowSequent} {p : Pt} {w : Int -> Nat} (hO : OkT t) (hw : ∀ i, In t i -> latB (nd t i).kind = true -> w (nd t i).a + w (nd t i).b < w i) (hq : InQ t q) (hp : CE t p q) :
  (leadsA t q).1 = true \/ ∃ s ∈ (leadsA t q).2, ∃ p', CE t p' s /\ (p'.size < p.size \/ (p'.size = p.size /\ wq w s < wq w q)) := by
 have h1 : ¬ endA t q = true := by
  unfold endA;rw [Bool.or_eq_true, List.any_eq_true, List.any_eq_true];rintro (⟨i, hi, h⟩ | ⟨i, hi, h⟩)
  ·exact la_bot (of_decide_eq_true h) (hp.1 i hi)
  ·exact hp.2 i hi (la_top (of_decide_eq_true h))
 unfold leadsA;rw [if_neg h1]
 cases h2 : openA t q with
 | some l =>
  right
  obtain ⟨s, hs, h3, h4⟩ := open_down hw hq h2 hp;exact ⟨s, hs, p, h3, .inr ⟨rfl, h4⟩⟩
 | none =>
  have h3 : ¬ shareA t q = true := by
   unfold shareA;simp only [List.any_eq_true, Bool.and_eq_true, decide_eq_true_eq];rintro ⟨i, hi, j, hj, ⟨h4, h5⟩, h6⟩
   have := (la_var h4).1 (hp.1 i hi)
   rw [h6] at this;exact hp.2 j hj ((la_var h5).2 this)
  simp only [if_neg h3];unfold closedA
  cases hk : kindsA t q.left with
  | nil => left; rfl
  | cons k m =>
   cases m with
   | nil =>
    obtain ⟨rfl, h5, h6, h7, h8⟩ := head_sat hk hp
    rcases heads_down h5 h6 (fun i hi => (mem_ofK.1 hi).2) h7 h8 with h | ⟨s, hs, p', h9, h10⟩
    ·left; exact h
    ·right; exact ⟨s, hs, p', h9, .inl h10⟩
   | cons b m =>
    exfalso
    obtain ⟨i, hi, j, hj, h5, h6, h7⟩ := kinds_two hk
    have e1 := hdP_kind ((la_head h5.1 h5.2).1 (hp.1 i hi))
    have e2 := hdP_kind ((la_head h6.1 h6.2).1 (hp.1 j hj))
    exact h7 (e1.trans e2.symm)
structure Kept (t : ApiType) (A : Int -> Prop) : Prop where
 inn : ∀ i, A i -> In t i
 pair : ∀ i, A i -> (nd t i).kind = 6 \/ (nd t i).kind = 9 \/ (nd t i).kind = 10 -> A (nd t i).a /\ A (nd t i).b
 fld : ∀ i, A i -> ∀ f ∈ (nd t i).l, A f.at_
theorem Kept.all {t : ApiType} (hO : OkT t) : Kept t (In t) := ⟨fun _ h => h, fun _ h hk => hO.pair h hk, fun _ h _ hf => hO.at_ h hf⟩
def InAB (A B : Int -> Prop) (q : BelowSequent) : Prop := (∀ i ∈ q.left, A i) /\ ∀ i ∈ q.right, B i
theorem Kept.parts {t : ApiType} {A : Int -> Prop} (hA : Kept t A) {l : List Int} (h : ∀ i ∈ l, A i) (s : List UInt8) : ∀ i ∈ cs (partsA t l s), A i := fun k hk => by
 obtain ⟨i, hi, h2⟩ := mem_parts.1 (mem_cs.1 hk);obtain ⟨f, hf, _, rfl⟩ := atN_mem h2;exact hA.fld i (h i hi) f hf
theorem lead_in {t : ApiType} {A B : Int -> Prop} (hA : Kept t A) (hB : Kept t B) {q s : BelowSequent} (hq : InAB A B q) (hs : s ∈ (leadsA t q).2) : InAB A B s \/ InAB B A s := by
 unfold leadsA at hs
 split at hs
 ·cases hs
 ·split at hs
  ·rename_i l h2
   left
   unfold openA at h2
   split at h2
   ·rename_i n rest hl
    obtain ⟨i, rfl, hk, hpm⟩ := latA_some hl
    cases h2
    have hi : A i := hq.1 i (hpm.mem_iff.2 (by simp))
    have hp := hA.pair i hi (.inr (lat_yes hk))
    have hrest : ∀ j ∈ rest, A j := fun j hj => hq.1 j (hpm.mem_iff.2 (by simp [hj]))
    have h2 : ∀ m : List Int, (∀ j ∈ m, A j) -> InAB A B ⟨cs (rest ++ m), q.right⟩ := fun m hm => ⟨fun j hj => by
     rcases List.mem_append.1 (mem_cs.1 hj) with h | h
     ·exact hrest j h
     ·exact hm j h, hq.2⟩
    split at hs
    ·simp only [List.mem_singleton] at hs; subst hs
     exact h2 _ (fun j hj => by simp at hj; rcases hj with rfl | rfl; exact hp.1; exact hp.2)
    ·simp only [List.mem_cons, List.not_mem_nil, or_false] at hs
     rcases hs with rfl | rfl
     ·exact h2 _ (fun j hj => by simp at hj; subst hj; exact hp.1)
     ·exact h2 _ (fun j hj => by simp at hj; subst hj; exact hp.2)
   ·split at h2
    ·rename_i n rest hl
     obtain ⟨i, rfl, hk, hpm⟩ := latA_some hl
     cases h2
     have hi : B i := hq.2 i (hpm.mem_iff.2 (by simp))
     have hp := hB.pair i hi (.inr (lat_yes hk))
     have hrest : ∀ j ∈ rest, B j := fun j hj => hq.2 j (hpm.mem_iff.2 (by simp [hj]))
     have h2 : ∀ m : List Int, (∀ j ∈ m, B j) -> InAB A B ⟨q.left, cs (rest ++ m)⟩ := fun m hm => ⟨hq.1, fun j hj => by
      rcases List.mem_append.1 (mem_cs.1 hj) with h | h
      ·exact hrest j h
      ·exact hm j h⟩
     split at hs
     ·simp only [List.mem_singleton] at hs; subst hs
      exact h2 _ (fun j hj => by simp at hj; rcases hj with rfl | rfl; exact hp.1; exact hp.2)
     ·simp only [List.mem_cons, List.not_mem_nil, or_false] at hs
      rcases hs with rfl | rfl
      ·exact h2 _ (fun j hj => by simp at hj; subst hj; exact hp.1)
      ·exact h2 _ (fun j hj => by simp at hj; subst hj; exact hp.2)
    ·cases h2
  ·split at hs
   ·cases hs
   ·unfold closedA at hs
    split at hs
    ·cases hs
    ·rename_i k hk
     have hL : ∀ i ∈ ofK t q.left k, A i := fun i hi => hq.1 i (mem_ofK.1 hi).1
     have hR : ∀ i ∈ ofK t q.right k, B i := fun i hi => hq.2 i (mem_ofK.1 hi).1
     unfold headsA at hs
     split at hs
     ·cases hs
     ·split at hs
      ·rename_i h6; subst h6
       simp only [List.mem_cons, List.not_mem_nil, or_false] at hs
       rcases hs with rfl | rfl
       ·right
        refine ⟨fun x hx => ?_, fun x hx => ?_⟩ <;> obtain ⟨i, hi, rfl⟩ := List.mem_map.1 (mem_cs.1 hx)
        ·exact (hB.pair i (hR i hi) (.inl (mem_ofK.1 hi).2)).1
        ·exact (hA.pair i (hL i hi) (.inl (mem_ofK.1 hi).2)).1
       ·left
        refine ⟨fun x hx => ?_, fun x hx => ?_⟩ <;> obtain ⟨i, hi, rfl⟩ := List.mem_map.1 (mem_cs.1 hx)
        ·exact (hA.pair i (hL i hi) (.inl (mem_ofK.1 hi).2)).2
        ·exact (hB.pair i (hR i hi) (.inl (mem_ofK.1 hi).2)).2
      ·split at hs
       ·cases hs
       ·obtain ⟨n, hn, rfl⟩ := List.mem_map.1 hs
        left
        exact ⟨hA.parts hL n, hB.parts hR n⟩
    ·cases hs
inductive Rch (t : ApiType) (q : BelowSequent) : BelowSequent -> Prop
 | refl : Rch t q q
 | step {s s' : BelowSequent} : Rch t q s -> s' ∈ (leadsA t s).2 -> Rch t q s'
theorem Rch.head {t : ApiType} {q s s' : BelowSequent} (h1 : s ∈ (leadsA t q).2) (h : Rch t s s') : Rch t q s' := by
 induction h with
 | refl => exact .step .refl h1
 | step _ h2 ih => exact .step ih h2
theorem lead_inQ {t : ApiType} (hO : OkT t) {q s : BelowSequent} (hq : InQ t q) (hs : s ∈ (leadsA t q).2) : InQ t s := (lead_in (Kept.all hO) (Kept.all hO) hq hs).elim id id
theorem Rch.inQ {t : ApiType} (hO : OkT t) {q s : BelowSequent} (hq : InQ t q) (h : Rch t q s) : InQ t s := by
 induction h with
 | refl => exact hq
 | step _ h2 ih => exact lead_inQ hO ih h2
theorem ce_fails {t : ApiType} (hO : OkT t) {w : Int -> Nat} (hw : ∀ i, In t i -> latB (nd t i).kind = true -> w (nd t i).a + w (nd t i).b < w i) : ∀ (n m : Nat) (q : BelowSequent) (p : Pt), p.size <= n -> wq w q <= m -> InQ t q -> CE t p q -> ∃ s, Rch t q s /\ (leadsA t s).1 = true := by
 intro n
 induction n with
 | zero =>
  intro m
  induction m with
  | zero =>
   intro q p h1 h2 hq hp
   rcases lead_down hO hw hq hp with h | ⟨s, _, p', _, h⟩
   ·exact ⟨q, .refl, h⟩
   ·omega
  | succ m ih =>
   intro q p h1 h2 hq hp
   rcases lead_down hO hw hq hp with h | ⟨s, hs, p', hp', h⟩
   ·exact ⟨q, .refl, h⟩
   ·obtain ⟨s', h3, h4⟩ := ih s p' (by omega) (by omega) (lead_inQ hO hq hs) hp'
    exact ⟨s', h3.head hs, h4⟩
 | succ n ihn =>
  intro m
  induction m with
  | zero =>
   intro q p h1 h2 hq hp
   rcases lead_down hO hw hq hp with h | ⟨s, hs, p', hp', h⟩
   ·exact ⟨q, .refl, h⟩
   ·obtain ⟨s', h3, h4⟩ := ihn (wq w s) s p' (by omega) (Nat.le_refl _) (lead_inQ hO hq hs) hp'
    exact ⟨s', h3.head hs, h4⟩
  | succ m ih =>
   intro q p h1 h2 hq hp
   rcases lead_down hO hw hq hp with h | ⟨s, hs, p', hp', h⟩
   ·exact ⟨q, .refl, h⟩
   ·by_cases h5 : p'.size <= n
    ·obtain ⟨s', h3, h4⟩ := ihn (wq w s) s p' h5 (Nat.le_refl _) (lead_inQ hO hq hs) hp'
     exact ⟨s', h3.head hs, h4⟩
    ·obtain ⟨s', h3, h4⟩ := ih s p' (by omega) (by omega) (lead_inQ hO hq hs) hp'
     exact ⟨s', h3.head hs, h4⟩
theorem fails_ce {t : ApiType} (hO : OkT t) {q s : BelowSequent} (h : Rch t q s) (hq : InQ t q) (hs : ∃ p, CE t p s) : ∃ p, CE t p q := by
 induction h with
 | refl => exact hs
 | step h1 h2 ih =>
  obtain ⟨p, hp⟩ := hs;exact ih (lead_up hO (h1.inQ hO hq) h2 hp)
def Valid (t : ApiType) (q : BelowSequent) : Prop := ∀ p, ¬ CE t p q
theorem valid_iff {t : ApiType} (hO : OkT t) {q : BelowSequent} (hq : InQ t q) : (∀ s, Rch t q s -> (leadsA t s).1 = false) ↔ Valid t q := by
 obtain ⟨w, hw⟩ := hO.weight
 constructor
 ·intro h p hp
  obtain ⟨s, h1, h2⟩ := ce_fails hO hw p.size (wq w q) q p (Nat.le_refl _) (Nat.le_refl _) hq hp;rw [h s h1] at h2; cases h2
 ·intro h s hs
  cases h1 : (leadsA t s).1 with
  | false => rfl
  | true =>
   obtain ⟨p, hp⟩ := fails_ce hO hs hq (lead_bad hO (hs.inQ hO hq) h1);exact absurd hp (h p)
end Go.Proofs.YtkfnogdccpcmhaaGreatDoor
namespace Go.Proofs.YtkfnogdccpcmhaaGreatDoor
open Go.V Tryz
open Classical
theorem takeS {α : Type} {l : List α} {i : Nat} {x : α} (h : l[i]? = some x) : l.take (i + 1) = l.take i ++ [x] := by
 have hi := (List.getElem?_eq_some_iff.1 h).1
 rw [List.take_succ_eq_append_getElem hi];rw [List.getElem?_eq_getElem hi] at h;rw [Option.some.inj h]
theorem getN {t : ApiType} {i : Int} (h : In t i) : idx t.l i = some (nd t i) := by unfold idx; rw [if_pos h.1, nd_get h]
theorem kind_eq {t : ApiType} {i : Int} (h : In t i) : m_below_search_kind t i = some (nd t i).kind := by unfold m_below_search_kind; rw [getN h]; rfl
theorem index_eq (l : List Int) (f : Int -> Option Bool) (g : Int -> Bool) (h : ∀ x ∈ l, f x = some (g x)) (hl : l.length <= 1000000) : m_ixI l f = some (match l.findIdx? g with | some i => (i : Int) | none => -1) := by
 unfold m_ixI;rw [loop_find (φ := m_ixI_l1 l f) (l := l) (fun i => (i : Int)) g ?_ ?_ (by rw [FUv]; omega)]
 ·rw [Option.bind_some]
  cases hf : l.findIdx? g with
  | none => rfl
  | some i => rfl
 ·intro n i x hx hi
  simp only [m_ixI_l1];rw [decide_eq_true (show (i : Int) < l.length by omega), cond_true, getI hx, Option.bind_some, h x (List.mem_of_getElem? hx), Option.bind_some];exact ⟨fun hq => by rw [hq, cond_false, grd_pos (by omega)], fun hq => by rw [hq, cond_true]⟩
 ·intro n
  simp only [m_ixI_l1];rw [decide_eq_false (by omega), cond_false]
theorem contains_eq (l : List Int) (f : Int -> Option Bool) (g : Int -> Bool) (h : ∀ x ∈ l, f x = some (g x)) (hl : l.length <= 1000000) : m_cnI l f = some (l.any g) := by
 unfold m_cnI;rw [index_eq l f g h hl, Option.bind_some]
 cases hf : l.findIdx? g with
 | none =>
  have : l.any g = false := by
   rw [List.any_eq_false]
   intro x hx
   have := List.findIdx?_eq_none_iff.1 hf x hx
   simp [this]
  rw [this]; rfl
 | some i =>
  obtain ⟨hi, h1, _⟩ := List.findIdx?_eq_some_iff_getElem.1 hf
  have : l.any g = true := List.any_eq_true.2 ⟨l[i], List.getElem_mem hi, h1⟩
  rw [this]
  show some (decide (0 <= (i : Int))) = some true
  rw [decide_eq_true (by omega)]
theorem has_eq {t : ApiType} {l : List Int} (h : ∀ i ∈ l, In t i) (hl : l.length <= 1000) (k : Int) : m_below_search_has t l k = some (l.any fun i => decide ((nd t i).kind = k)) := by
 unfold m_below_search_has;rw [contains_eq l _ (fun i => decide ((nd t i).kind = k)) (fun x hx => by unfold m_below_search_has_1; rw [kind_eq (h x hx)]; rfl) (by omega)]
 rfl
theorem lattice_eq {t : ApiType} {l : List Int} (h : ∀ i ∈ l, In t i) (hl : l.length <= 1000) : m_below_search_lattice t l = some (match latA t l with | some (n, rest) => (n, rest, true) | none => (⟨0, 0, 0, []⟩, [], false)) := by
 unfold m_below_search_lattice;rw [index_eq l _ (fun i => latB (nd t i).kind) (fun x hx => by
  unfold m_below_search_lattice_1;rw [kind_eq (h x hx), Option.bind_some];unfold latB
  cases decide ((nd t x).kind = 9) <;> rfl) (by omega), Option.bind_some]
 unfold latA
 cases hf : l.findIdx? (fun i => latB (nd t i).kind) with
 | none => rfl
 | some i =>
  obtain ⟨hi, h1, _⟩ := List.findIdx?_eq_some_iff_getElem.1 hf
  have hx : l[i]? = some l[i] := List.getElem?_eq_getElem hi
  have e : l.getD i 0 = l[i] := by rw [List.getD_eq_getElem?_getD, hx]; rfl
  simp only [Option.map_some];rw [decide_eq_false (by omega), cond_false, getI hx, Option.bind_some, getN (h _ (List.getElem_mem hi)), Option.bind_some, grd_pos (by omega), grd_pos (by constructor <;> omega), grd_pos (by omega), grd_pos (by omega), grd_pos (by omega), grd_pos (by rintro rfl; cases hi), e]
  congr 3
theorem concat_eq (ls : List (List Int)) (h : ls.length <= 3) (h2 : ∀ l ∈ ls, l.length <= 2000) : m_ccI ls = some ls.flatten := by
 have hm : ∀ {i : Nat} {x : List Int}, ls[i]? = some x -> x.length <= 2000 := fun hx => h2 _ (List.mem_of_getElem? hx)
 unfold m_ccI
 have e1 := loop_fold (φ := fun n i s => m_ccI_l1 ls n (s, i)) (l := ls) (fun i s => 0 <= s /\ s <= 2000 * i) (fun _ s x => s + (x.length : Int)) id (by
  intro n i x s hx hi hI
  have hm := hm hx
  simp only [m_ccI_l1];rw [decide_eq_true (by omega), cond_true, getI hx, Option.bind_some, grd_pos (by omega), decide_eq_false (by omega), cond_false, grd_pos (by omega)];exact ⟨rfl, by omega⟩) (by
  intro n s hI
  simp only [m_ccI_l1];rw [decide_eq_false (by omega), cond_false]; rfl) (by rw [FUv]; omega) (fun _ t s => t.foldl (fun s x => s + (x.length : Int)) s) (fun _ _ => rfl) (fun _ _ _ _ => rfl) 0 (by omega)
 have e2 := loop_fold (φ := fun n i s => m_ccI_l2 ls n (i, s)) (l := ls) (fun i s => s.length <= 2000 * i) (fun _ s x => s ++ x) id (by
  intro n i x s hx hi hI
  have hm := hm hx
  simp only [m_ccI_l2];rw [decide_eq_true (by omega), cond_true, getI hx, Option.bind_some, grd_pos (by omega), grd_pos (by omega)];exact ⟨rfl, by simp; omega⟩) (by
  intro n s hI
  simp only [m_ccI_l2];rw [decide_eq_false (by omega), cond_false]; rfl) (by rw [FUv]; omega) (fun _ t s => s ++ t.flatten) (by simp) (by simp) [] (by simp)
 rw [e1.1, Option.bind_some]
 have e3 := e1.2
 rw [id, grd_pos (by omega), grd_pos (by omega)];rw [e2.1]; rfl
theorem set_eq {l : List Int} (h : l.length <= 1000000) : m_below_set l = some (cs l) := by
 unfold m_below_set;rw [grd_pos (by omega), grd_pos (by omega)]; rfl
theorem plus_eq {l m : List Int} (h : l.length <= 1000) (h2 : m.length <= 1000) : m_below_plus l m = some (cs (l ++ m)) := by
 unfold m_below_plus;rw [concat_eq [l, m] (by simp) (by simp; omega), Option.bind_some, set_eq (by simp; omega)]
 simp
theorem latA_len {t : ApiType} {l rest : List Int} {n : ApiTNode} (h : latA t l = some (n, rest)) : rest.length <= l.length := by
 obtain ⟨i, _, _, hp⟩ := latA_some h
 have := hp.length_eq
 simp at this; omega
theorem opened_eq {t : ApiType} {q : BelowSequent} (hq : InQ t q) (h1 : q.left.length <= 500) (h2 : q.right.length <= 500) : m_below_search_opened t q = some (match openA t q with | some l => (⟨l, false⟩, true) | none => (⟨[], false⟩, false)) := by
 unfold m_below_search_opened openA;rw [lattice_eq hq.1 (by omega), Option.bind_some]
 cases hl : latA t q.left with
 | some x =>
  obtain ⟨n, rest⟩ := x
  have := latA_len hl
  simp only [cond_true]
  by_cases h10 : n.kind = 10
  ·rw [decide_eq_true h10, cond_true, plus_eq (by omega) (by simp), if_pos h10]; rfl
  ·rw [decide_eq_false h10, cond_false, plus_eq (by omega) (by simp), Option.bind_some, plus_eq (by omega) (by simp), if_neg h10]; rfl
 | none =>
  simp only [cond_false];rw [lattice_eq hq.2 (by omega), Option.bind_some]
  cases hr : latA t q.right with
  | some x =>
   obtain ⟨n, rest⟩ := x
   have := latA_len hr
   simp only [cond_true]
   by_cases h9 : n.kind = 9
   ·rw [decide_eq_true h9, cond_true, plus_eq (by omega) (by simp), if_pos h9]; rfl
   ·rw [decide_eq_false h9, cond_false, plus_eq (by omega) (by simp), Option.bind_some, plus_eq (by omega) (by simp), if_neg h9]; rfl
  | none => simp only [cond_false]
theorem shared_eq {t : ApiType} {q : BelowSequent} (hq : InQ t q) (h1 : q.left.length <= 500) (h2 : q.right.length <= 500) : m_below_search_shared t q = some (shareA t q) := by
 unfold m_below_search_shared;obtain ⟨o, e1, e2⟩ := loop_rng (φ := fun n i s => m_below_search_shared_l1 t q n (i, s)) (l := q.left) (fun i s => ∀ v, (mget s v).getD false = (q.left.take i).any fun j => decide ((nd t j).kind = 11) && decide ((nd t j).a = v)) (fun o => ∀ v, (mget o v).getD false = q.left.any fun j => decide ((nd t j).kind = 11) && decide ((nd t j).a = v))
  (by
   intro n i x s hx hi hI
   left
   simp only [m_below_search_shared_l1];rw [decide_eq_true (show (i : Int) < (q.left.length : Int) by omega), cond_true, getI hx, Option.bind_some, getN (hq.1 _ (List.mem_of_getElem? hx)), Option.bind_some]
   by_cases h11 : (nd t x).kind = 11
   ·rw [decide_eq_true h11, cond_true, grd_pos (by constructor <;> omega)]
    refine ⟨_, rfl, fun v => ?_⟩;rw [takeS hx, List.any_append, mget_set, <- hI v]
    by_cases hv : v = (nd t x).a
    ·subst hv; simp [h11]
    ·rw [if_neg hv]; simp [h11, show ¬ (nd t x).a = v from fun e => hv e.symm]
   ·rw [decide_eq_false h11, cond_false, grd_pos (by constructor <;> omega)]
    refine ⟨_, rfl, fun v => ?_⟩;rw [takeS hx, List.any_append, <- hI v]
    simp [h11])
  (by
   intro n s hI
   simp only [m_below_search_shared_l1];rw [decide_eq_false (by omega), cond_false];exact ⟨s, rfl, by simpa using hI⟩) (by rw [FUv]; omega) [] (by intro v; simp [mget])
 rw [e1, Option.bind_some];rw [contains_eq q.right _ (fun j => decide ((nd t j).kind = 11) && (mget o (nd t j).a).getD false) (fun x hx => by
  unfold m_below_search_shared_1;rw [getN (hq.2 _ hx)]; rfl) (by omega), Option.bind_some]
 congr 1
 unfold shareA;rw [Bool.eq_iff_iff];simp only [List.any_eq_true, Bool.and_eq_true, decide_eq_true_eq, e2]
 constructor
 ·rintro ⟨j, hj, h3, i, hi, h4, h5⟩; exact ⟨i, hi, j, hj, ⟨h4, h3⟩, h5⟩
 ·rintro ⟨i, hi, j, hj, ⟨h4, h3⟩, h5⟩; exact ⟨j, hj, h3, i, hi, h4, h5⟩
theorem nodup_one {l : List Int} {k : Int} (hn : l.Nodup) (h : ∀ x, x ∈ l ↔ x = k) : l = [k] := by
 cases l with
 | nil => have := (h k).2 rfl; cases this
 | cons a m =>
  have ha := (h a).1 (by simp)
  subst ha
  cases m with
  | nil => rfl
  | cons b m =>
   have hb := (h b).1 (by simp)
   subst hb;exact absurd (List.nodup_cons.1 hn).1 (by simp)
def headsI (t : ApiType) (l : List Int) (k : Int) : Prop := (k = 0 /\ ∀ i ∈ l, 3 <= (nd t i).kind -> (nd t i).kind <= 8 -> False) \/ ((3 <= k /\ k <= 8) /\ (∃ i ∈ l, (nd t i).kind = k) /\ ∀ i ∈ l, 3 <= (nd t i).kind -> (nd t i).kind <= 8 -> (nd t i).kind = k)
theorem heads_kinds {t : ApiType} {l : List Int} {k : Int} (h : headsI t l k) : (k = 0 /\ kindsA t l = []) \/ (3 <= k /\ kindsA t l = [k]) := by
 rcases h with ⟨h1, h2⟩ | ⟨h1, h2, h3⟩
 ·left
  refine ⟨h1, ?_⟩;rw [List.eq_nil_iff_forall_not_mem]
  intro x hx
  obtain ⟨h4, i, hi, rfl⟩ := mem_kinds.1 hx;exact h2 i hi h4.1 h4.2
 ·right
  refine ⟨h1.1, nodup_one (kinds_nodup t l) (fun x => ⟨fun hx => ?_, fun hx => ?_⟩)⟩
  ·obtain ⟨h4, i, hi, rfl⟩ := mem_kinds.1 hx
   exact h3 i hi h4.1 h4.2
  ·subst hx; exact mem_kinds.2 ⟨h1, h2⟩
theorem heads_eq {t : ApiType} {l : List Int} (hO : OkT t) (h : ∀ i ∈ l, In t i) (hb : ∀ i ∈ l, (nd t i).kind ≠ 2) (hla : ∀ i ∈ l, latB (nd t i).kind = false) (hl : l.length <= 500) :
  ∃ k more, m_below_search_heads t l = some (k, more) /\ (more = true -> ∃ a b m, kindsA t l = a :: b :: m) /\ (more = false -> (k = 0 /\ kindsA t l = []) \/ (3 <= k /\ kindsA t l = [k])) := by
 unfold m_below_search_heads;obtain ⟨o, e1, e2⟩ := loop_rng (φ := fun n i s => m_below_search_heads_l1 t l n (s, i)) (l := l) (fun i k => headsI t (l.take i) k) (fun o => (∃ k, o = Out.go k /\ headsI t l k) \/ (∃ k a b m, o = Out.ret (k, true) /\ kindsA t l = a :: b :: m))
  (by
   intro n i x k hx hi hI
   have hxm := List.mem_of_getElem? hx
   have hk := hO.kind (h x hxm)
   have h2 := hb x hxm
   have h3 := lat_no (hla x hxm)
   simp only [m_below_search_heads_l1];rw [decide_eq_true (show (i : Int) < (l.length : Int) by omega), cond_true, getI hx, Option.bind_some, kind_eq (h x hxm), Option.bind_some]
   by_cases hv : (nd t x).kind = 11 \/ (nd t x).kind = 1
   ·left
    rw [show (decide ((nd t x).kind = 11) || decide ((nd t x).kind = 1)) = true by simpa using hv, cond_true, grd_pos (by constructor <;> omega)];refine ⟨_, rfl, ?_⟩;rw [takeS hx]
    rcases hI with ⟨h4, h5⟩ | ⟨h4, ⟨j, hj, h5⟩, h6⟩
    ·left
     refine ⟨h4, fun j hj h6 h7 => ?_⟩
     rcases List.mem_append.1 hj with hj | hj
     ·exact h5 j hj h6 h7
     ·simp at hj; subst hj; omega
    ·right
     refine ⟨h4, ⟨j, by simp [hj], h5⟩, fun j hj h7 h8 => ?_⟩
     rcases List.mem_append.1 hj with hj | hj
     ·exact h6 j hj h7 h8
     ·simp at hj; subst hj; omega
   ·rw [show (decide ((nd t x).kind = 11) || decide ((nd t x).kind = 1)) = false by simpa using hv, cond_false]
    have hx38 : 3 <= (nd t x).kind /\ (nd t x).kind <= 8 := by omega
    by_cases hc : k ≠ 0 /\ (nd t x).kind ≠ k
    ·right
     rw [show ((!decide (k = 0)) && (!decide ((nd t x).kind = k))) = true by simpa using hc, cond_true];refine ⟨_, rfl, .inr ?_⟩
     rcases hI with ⟨h4, _⟩ | ⟨h4, ⟨j, hj, h5⟩, _⟩
     ·exact absurd h4 hc.1
     ·cases hkk : kindsA t l with
      | nil => exact (kinds_nil hkk x hxm hx38.1 hx38.2).elim
      | cons a m =>
       cases m with
       | nil =>
        obtain ⟨_, _, h7⟩ := kinds_one hkk
        have e1 := h7 x hxm hx38.1 hx38.2
        have e2 := h7 j (List.mem_of_mem_take hj) (by omega) (by omega)
        omega
       | cons b m => exact ⟨k, a, b, m, rfl, rfl⟩
    ·left
     rw [show ((!decide (k = 0)) && (!decide ((nd t x).kind = k))) = false by
      by_cases h0 : k = 0
      ·simp [h0]
      ·simp [h0]; exact Classical.byContradiction fun h => hc ⟨h0, h⟩, cond_false, grd_pos (by constructor <;> omega)]
     refine ⟨_, rfl, .inr ⟨hx38, ⟨x, by rw [takeS hx]; simp, rfl⟩, fun j hj h7 h8 => ?_⟩⟩;rw [takeS hx] at hj
     rcases List.mem_append.1 hj with hj | hj
     ·rcases hI with ⟨h4, h5⟩ | ⟨h4, _, h6⟩
      ·exact (h5 j hj h7 h8).elim
      ·have := h6 j hj h7 h8
       have : k = (nd t x).kind := Classical.byContradiction fun h => hc ⟨by omega, fun e => h e.symm⟩
       omega
     ·simp at hj; subst hj; rfl)
  (by
   intro n k hI
   simp only [m_below_search_heads_l1];rw [decide_eq_false (by omega), cond_false];exact ⟨_, rfl, .inl ⟨k, rfl, by simpa using hI⟩⟩) (by rw [FUv]; omega) 0 (.inl ⟨rfl, by simp⟩)
 rw [e1, Option.bind_some]
 rcases e2 with ⟨k, rfl, h4⟩ | ⟨k, a, b, m, rfl, h4⟩
 ·exact ⟨k, false, rfl, fun h => (by cases h), fun _ => heads_kinds h4⟩
 ·exact ⟨k, true, rfl, fun _ => ⟨a, b, m, h4⟩, fun h => (by cases h)⟩
theorem kAt_nd (t : ApiType) (x : Int) : kAt t x = (nd t x).kind := by
 unfold kAt nd
 cases t.l[x.toNat]? <;> rfl
theorem only_eq {t : ApiType} {l : List Int} (h : ∀ i ∈ l, In t i) (hl : l.length <= 500) (k : Int) : m_below_search_only t l k = some (ofK t l k) := by
 unfold m_below_search_only;rw [grd_pos (by omega), grd_pos (show ∀ x ∈ l, 0 <= x /\ x < (t.l.length : Int) from h)]
 congr 1
 unfold keepK ofK
 congr 1
 funext x
 rw [kAt_nd, Bool.not_not]
theorem arrows_eq {t : ApiType} {l r : List Int} (hq : InQ t ⟨l, r⟩) (h1 : l.length <= 500) (h2 : r.length <= 500) (hr : r ≠ []) :
  m_below_search_arrows t ⟨l, r⟩ = some ⟨[⟨cs (r.map fun i => (nd t i).a), cs (l.map fun i => (nd t i).a)⟩, ⟨cs (l.map fun i => (nd t i).b), cs (r.map fun i => (nd t i).b)⟩], false⟩ := by
 unfold m_below_search_arrows;rw [decide_eq_false (by have := List.length_pos_iff.2 hr; simp only; omega), cond_false];obtain ⟨o, e1, e2⟩ := loop_rng (φ := fun n i s => m_below_search_arrows_l1 t ⟨l, r⟩ n (i, s)) (l := l) (fun i s => s = ([], (l.take i).map (fun i => (nd t i).b), (l.take i).map (fun i => (nd t i).a), [])) (fun o => o = ([], l.map (fun i => (nd t i).b), l.map (fun i => (nd t i).a), []))
  (by
   rintro n i x s hx hi rfl
   left
   have hxm := List.mem_of_getElem? hx
   have hti : (l.take i).length <= 500 := by rw [List.length_take]; omega
   simp only [m_below_search_arrows_l1];rw [decide_eq_true (show (i : Int) < (l.length : Int) by omega), cond_true, getI hx, Option.bind_some, getN (hq.1 x hxm), Option.bind_some, grd_pos (by simp only [List.length_map, List.length_cons, List.length_nil]; omega), Option.bind_some, grd_pos (by simp only [List.length_map, List.length_cons, List.length_nil]; omega), grd_pos (by constructor <;> omega)];refine ⟨_, rfl, ?_⟩;rw [takeS hx]; simp)
  (by
   rintro n s rfl;simp only [m_below_search_arrows_l1];rw [decide_eq_false (by omega), cond_false];exact ⟨_, rfl, by simp⟩) (by rw [FUv]; omega) ([], [], [], []) (by simp)
 rw [e1, Option.bind_some, e2];obtain ⟨o, e3, e4⟩ := loop_rng (φ := fun n i s => m_below_search_arrows_l2 t ⟨l, r⟩ n (i, s)) (l := r) (fun i s => s = ((r.take i).map (fun i => (nd t i).b), l.map (fun i => (nd t i).b), l.map (fun i => (nd t i).a), (r.take i).map (fun i => (nd t i).a))) (fun o => o = (r.map (fun i => (nd t i).b), l.map (fun i => (nd t i).b), l.map (fun i => (nd t i).a), r.map (fun i => (nd t i).a)))
  (by
   rintro n i x s hx hi rfl
   left
   have hxm := List.mem_of_getElem? hx
   have hti : (r.take i).length <= 500 := by rw [List.length_take]; omega
   simp only [m_below_search_arrows_l2];rw [decide_eq_true (show (i : Int) < (r.length : Int) by omega), cond_true, getI hx, Option.bind_some, getN (hq.2 x hxm), Option.bind_some, grd_pos (by simp only [List.length_map, List.length_cons, List.length_nil]; omega), Option.bind_some, grd_pos (by simp only [List.length_map, List.length_cons, List.length_nil]; omega), grd_pos (by constructor <;> omega)];refine ⟨_, rfl, ?_⟩;rw [takeS hx]; simp)
  (by
   rintro n s rfl;simp only [m_below_search_arrows_l2];rw [decide_eq_false (by omega), cond_false];exact ⟨_, rfl, by simp⟩) (by rw [FUv]; omega) ([], l.map (fun i => (nd t i).b), l.map (fun i => (nd t i).a), []) (by simp)
 simp only
 rw [e3, Option.bind_some, e4]
 simp only
 rw [set_eq (by simp; omega), Option.bind_some, set_eq (by simp; omega), Option.bind_some, set_eq (by simp; omega), Option.bind_some, set_eq (by simp; omega), Option.bind_some]
end Go.Proofs.YtkfnogdccpcmhaaGreatDoor
