/- Part 6 of the proof: a program logic, what the functions compute, and what these answer; no condition. -/
import Derived.Test.YtkfnogdccpcmhaaGreatDoorp5
set_option linter.unusedVariables false
set_option linter.unusedSimpArgs false
set_option maxRecDepth 100000
set_option maxHeartbeats 2000000
namespace Go.Proofs.YtkfnogdccpcmhaaGreatDoor
open Go.V Tryz
noncomputable def m_below_search_only (s1 : ApiType) (l1 : (List Int)) (kind1 : Int) : Option (List Int) :=
 grd (l1.length * 8 <= 140737488355328) <|
 grd (∀ x ∈ l1, 0 <= x /\ x < (s1.l.length : Int)) <|
 some (keepK s1 kind1 l1)
theorem w_below_search_only {s1 : ApiType} {l1 : (List Int)} {kind1 : Int} {r_1 : (List Int)} (hm : m_below_search_only s1 l1 kind1 = some r_1) : Fn0 Tryz.prog 153 [.ref (ApiType.d s1), .list 1 D.i64 l1, .i64 kind1] (.list 1 D.i64 r_1) := by
 unfold m_below_search_only at hm;refine fn_intro func153 rfl ntmps153 rfl fun H0 fr w0 => ?_;refine g_seq (gRg ?_);refine go_p rfl rfl rfl (o_box rfl rfl) ?_;refine go_p rfl rfl rfl (o_box rfl rfl) ?_;refine go_p rfl rfl rfl (oAs rfl) ?_;refine go_conv (nilE (i := 6) (sz := 1) (f := D.i64) rfl).refines ?_;refine gNl (g_seq (gRg ?_));refine go_p rfl rfl rfl (oMv rfl) ?_;obtain ⟨hg1, hm⟩ := grd_some hm;refine go_op rfl rfl rfl (o_call (ms₁ := []) call97 rfl (List.Perm.refl _) (w_Clone_97 hg1)) ?_;rintro _ _ ⟨_, ⟨a_r1, cap_r1, rfl, rfl⟩, rfl⟩
 generalize hm_r1 : l1.length = m_r1
 clear hm_r1
 refine go_p rfl rfl rfl (o_makeFunc rfl rfl) ?_;obtain ⟨hg2, hm⟩ := grd_some hm;refine go_op rfl rfl rfl (o_call_own [0] call178 rfl rfl (getL_c rfl getL_n) (sh_DeleteOnly hg2) (by rintro _ _ ⟨_, _, rfl⟩; rfl)) ?_;rintro _ _ ⟨_, ⟨m_r1, rfl, rfl⟩, rfl⟩;refine go_ms (ms' := [_]) rfl ?_;refine go_p rfl rfl rfl (oAs rfl) ?_;refine gNl ?_;refine g_thaw 0 rfl rfl ?_;rintro rfl;refine g_conv (peekE (i := 6) 0 rfl rfl rfl).refines ?_;refine g_ret ?_;exact retK (ret_one' rfl (ret_tmp rfl) (perm_drop _)) (congrArg (fun (p : (List Int)) => (.list 1 D.i64 p : D)) (some_eq hm))
noncomputable def m_below_search_closed (s1 : ApiType) (q1 : BelowSequent) : Option BelowAnswer :=
 (m_below_search_heads s1 q1.left).bind fun (x1, x2) =>
 bif x2 then
  some (⟨([] : List BelowSequent), false⟩ : BelowAnswer)
 else
  bif (decide (x1 = 0)) then
   some (⟨([] : List BelowSequent), true⟩ : BelowAnswer)
  else
   (m_below_search_only s1 q1.left x1).bind fun x3 =>
   (m_below_search_only s1 q1.right x1).bind fun x4 =>
   (m_parts s1 x3).bind fun mm1 =>
   (m_parts s1 x4).bind fun mm2 =>
   bif (decide (x1 = 6)) then
    (m_below_search_arrows s1 (⟨x3, x4⟩ : BelowSequent)).bind fun x5 =>
    some (⟨x5.to_, x5.fails⟩ : BelowAnswer)
   else
    bif (decide (x1 = 7)) then
     bif (decide ((x4.length : Int) = 0)) then
      some (⟨([] : List BelowSequent), true⟩ : BelowAnswer)
     else
      (m_wide mm1 mm2 mm2 (x4.length : Int)).bind fun x6 =>
      some x6
    else
     bif (decide (x1 = 8)) then
      (m_wide mm1 mm2 mm1 (x3.length : Int)).bind fun x7 =>
      some x7
     else
      some (⟨([] : List BelowSequent), (decide ((x4.length : Int) = 0))⟩ : BelowAnswer)
theorem w_below_search_closed {s1 : ApiType} {q1 : BelowSequent} {r_1 : BelowAnswer} (hm : m_below_search_closed s1 q1 = some r_1) : Go.V.Fn Tryz.prog 133 [.ref (ApiType.d s1), BelowSequent.d q1] [] (fun d ms' => ∃ p, p.Perm r_1.to_ /\ d = BelowAnswer.d ⟨p, r_1.fails⟩ /\ ms' = []) := by
 unfold m_below_search_closed at hm;refine fn_intro func133 rfl ntmps133 rfl fun H0 fr w0 => ?_;refine g_seq (gRg ?_);refine go_op rfl rfl rfl (o_box_own rfl rfl rfl) ?_;rintro _ _ ⟨b1, rfl, rfl⟩;refine go_op rfl rfl rfl (o_alloc_own zeroValue117 (cs := [.list 2 BelowSequent.d [], .bool false]) rfl) ?_;rintro _ _ ⟨b2, rfl, rfl⟩;refine gNl (g_seq (gRg ?_));refine go_p rfl rfl rfl (oMv rfl) ?_;refine go_p rfl rfl rfl (oFb fi_75_0 rfl) ?_;refine go_p rfl rfl rfl (oLb 1 isAgg25 rfl rfl rfl rfl) ?_;obtain ⟨⟨x1, x2⟩, hx1, hm⟩ := bind_some hm;refine go_p rfl rfl rfl (o_call0 call152 rfl (w_below_search_heads hx1)) ?_;refine go_p rfl rfl rfl (oMv rfl) ?_;refine go_p rfl rfl rfl (o_extract rfl rfl) ?_;refine go_p rfl rfl rfl (o_extract rfl rfl) ?_;refine go_p rfl rfl rfl (oAs rfl) ?_;refine go_p rfl rfl rfl (oAs rfl) ?_;refine gNl (g_seq (g_block (g_seq (gRg ?_))));refine go_p rfl rfl rfl (oMv rfl) ?_;refine go_p rfl rfl rfl (oAs rfl) ?_;refine gNl ?_;refine gCd rfl (fun hc1 => ?_) (fun hc1 => ?_)
 ·replace hm := cond_t hc1 hm
  refine g_seq (gRg ?_);refine go_p rfl rfl rfl (o_build (zs := [.list 2 BelowSequent.d [], .bool false]) runUnderlying117 zeroValue117 (pl_117 _ runUnderlying117) rfl rfl rfl rfl) ?_;refine go_u rfl rfl (oSb 0 sizeOf117 rfl rfl rfl rfl rfl rfl rfl rfl (Nat.le_of_ble_eq_true rfl)) ?_;rintro _ _ rfl;refine go_ms (ms' := [box b2 117 [_, _], box b1 75 [_, _]]) rfl ?_;refine gNl (g_ret ?_);obtain rfl := some_eq hm;exact retK (ret_one' (ms' := []) (drop := [_, _]) rfl (ret_cell 0 rfl rfl rfl isAgg117 sizeOf117 rfl) (perm_all _)) ⟨_, List.Perm.refl _, rfl, rfl⟩
 ·replace hm := cond_f hc1 hm
  refine g_seq (gRg ?_);refine go_p rfl rfl rfl (oMv rfl) ?_;refine go_p rfl rfl rfl (o_cmp rfl rfl rfl) ?_;refine go_p rfl rfl rfl (oAs rfl) ?_;refine gNl ?_;refine gCd rfl (fun hc2 => ?_) (fun hc2 => ?_)
  ·replace hm := cond_t hc2 hm
   refine g_seq (gRg ?_);refine go_p rfl rfl rfl (o_build (zs := [.list 2 BelowSequent.d [], .bool false]) runUnderlying117 zeroValue117 (pl_117 _ runUnderlying117) rfl rfl rfl rfl) ?_;refine go_u rfl rfl (oSb 0 sizeOf117 rfl rfl rfl rfl rfl rfl rfl rfl (Nat.le_of_ble_eq_true rfl)) ?_;rintro _ _ rfl;refine go_ms (ms' := [box b2 117 [_, _], box b1 75 [_, _]]) rfl ?_;refine gNl (g_ret ?_);obtain rfl := some_eq hm;exact retK (ret_one' (ms' := []) (drop := [_, _]) rfl (ret_cell 0 rfl rfl rfl isAgg117 sizeOf117 rfl) (perm_all _)) ⟨_, List.Perm.refl _, rfl, rfl⟩
  ·replace hm := cond_f hc2 hm
   refine gSp (g_seq ?_);obtain ⟨x3, hx2, hm⟩ := bind_some hm;obtain ⟨x4, hx3, hm⟩ := bind_some hm;refine g_draw 11 Tryz_mixed (by decide +kernel) ?_;refine gd_p rfl rfl rfl (oMv rfl) ?_;refine gd_p rfl rfl rfl (oFb fi_75_0 rfl) ?_;refine gd_p rfl rfl rfl (oLb 1 isAgg25 rfl rfl rfl rfl) ?_;refine gd_p rfl rfl rfl (oMv rfl) ?_;refine gd_p rfl rfl rfl (o_call0 call153 rfl (w_below_search_only hx2)) ?_;refine gd_p rfl rfl rfl (oMv rfl) ?_;refine gd_p rfl rfl rfl (oFb fi_75_1 rfl) ?_;refine gd_p rfl rfl rfl (oLb 1 isAgg25 rfl rfl rfl rfl) ?_;refine gd_p rfl rfl rfl (oMv rfl) ?_;refine gd_p rfl rfl rfl (o_call0 call153 rfl (w_below_search_only hx3)) ?_;refine gd_p rfl rfl rfl (o_build (zs := [.list 1 D.i64 [], .list 1 D.i64 []]) runUnderlying75 zeroValue75 (pl_75 _ runUnderlying75) rfl rfl rfl rfl) ?_;refine gd_nil ?_;refine go_u rfl rfl (oSb 1 sizeOf75 rfl rfl rfl rfl rfl rfl rfl rfl (Nat.le_of_ble_eq_true rfl)) ?_;rintro _ _ rfl;refine go_ms (ms' := [box b2 117 [_, _], box b1 75 [_, _]]) rfl ?_;refine gNl (g_seq ?_);obtain ⟨mm1, hx4, hm⟩ := bind_some hm;obtain ⟨mm2, hx5, hm⟩ := bind_some hm;refine g_draw_cc 3 [3, 7, 8, 9] [4, 5, 6] [6] (by decide +kernel) (by decide +kernel) Tryz_mixed (by decide +kernel) (by decide +kernel) rfl ?_;refine gdc_p rfl rfl rfl rfl rfl rfl (oMv rfl) ?_;refine gdc_p rfl rfl rfl rfl rfl rfl (oFb fi_75_0 rfl) ?_;refine gdc_p rfl rfl rfl rfl rfl rfl (oLb 1 isAgg25 rfl rfl rfl rfl) ?_;refine gdc_e rfl ?_;refine gdc_p rfl rfl rfl rfl rfl rfl (oMv rfl) ?_;refine gdc_p rfl rfl rfl rfl rfl rfl (oFb fi_75_1 rfl) ?_;refine gdc_f rfl rfl rfl rfl rfl (oLb 1 isAgg25 rfl rfl rfl rfl) ?_;refine gdc_e rfl ?_;refine gdc_e rfl ?_;refine gdc_e rfl ?_;refine gdc_nil ?_;refine gdc2_t rfl rfl rfl rfl (o_call (ms₁ := []) call154 rfl (List.Perm.refl _) (w_parts hx4)) ?_;rintro _ _ ⟨_, ⟨b3, rfl, rfl⟩, rfl⟩;refine ⟨fun _ => ⟨trivial, oLb 2 isAgg25 rfl rfl rfl rfl⟩, ?_⟩;refine gdc2_t rfl rfl rfl rfl (o_call (ms₁ := []) call154 rfl (List.Perm.refl _) (w_parts hx5)) ?_;rintro _ _ ⟨_, ⟨b4, rfl, rfl⟩, rfl⟩;refine ⟨fun hc => absurd hc (by decide), ?_⟩;refine gdc2_t rfl rfl rfl rfl (oAs rfl) ?_;rintro _ _ ⟨rfl, rfl⟩;refine ⟨fun hc => absurd hc (by decide), ?_⟩;refine gdc2_t rfl rfl rfl rfl (oAs rfl) ?_;rintro _ _ ⟨rfl, rfl⟩;refine ⟨fun hc => absurd hc (by decide), ?_⟩;refine gdc2_nil ?_;refine g_seq (g_seq (gRg ?_));refine go_p rfl rfl rfl (oMv rfl) ?_;refine gNl (g_block (g_seq (gRg ?_)));refine go_p rfl rfl rfl (o_cmp rfl rfl rfl) ?_;refine go_p rfl rfl rfl (oAs rfl) ?_;refine gNl ?_;refine gCd rfl (fun hc3 => ?_) (fun hc3 => ?_)
   ·replace hm := cond_t hc3 hm
    refine g_seq (gRg ?_);refine go_p rfl rfl rfl (oMv rfl) ?_;refine go_p rfl rfl rfl (oLg 3 isAgg75 sizeOf75 rfl rfl rfl rfl (Nat.le_of_ble_eq_true rfl)) ?_;obtain ⟨x5, hx6, hm⟩ := bind_some hm;refine go_p rfl rfl rfl (o_call0 call155 rfl (w_below_search_arrows hx6)) ?_;refine go_u rfl rfl (oSb 2 sizeOf117 rfl rfl rfl rfl rfl rfl rfl rfl (Nat.le_of_ble_eq_true rfl)) ?_;rintro _ _ rfl;refine go_ms (ms' := [_, _, box b2 117 [_, _], box b1 75 [_, _]]) rfl ?_;refine gNl (g_ret ?_);obtain rfl := some_eq hm;exact retK (ret_one' (ms' := []) (drop := [_, _, _, _]) rfl (ret_cell 2 rfl rfl rfl isAgg117 sizeOf117 rfl) (perm_all _)) ⟨_, List.Perm.refl _, rfl, rfl⟩
   ·replace hm := cond_f hc3 hm
    refine g_seq (gRg ?_);refine go_p rfl rfl rfl (o_cmp rfl rfl rfl) ?_;refine go_p rfl rfl rfl (oAs rfl) ?_;refine gNl ?_;refine gCd rfl (fun hc4 => ?_) (fun hc4 => ?_)
    ·replace hm := cond_t hc4 hm
     refine g_seq (g_seq (gRg ?_));refine go_p rfl rfl rfl (oFb fi_75_1 rfl) ?_;refine go_p rfl rfl rfl (oLb 3 isAgg25 rfl rfl rfl rfl) ?_;refine go_p rfl rfl rfl (o_len runUnderlying25 rfl) ?_;refine go_p rfl rfl rfl (o_cmp rfl rfl rfl) ?_;refine gNl ?_;refine gCd rfl (fun hc5 => ?_) (fun hc5 => ?_)
     ·replace hm := cond_t hc5 hm
      refine g_seq (gRg ?_);refine go_p rfl rfl rfl (o_build (zs := [.list 2 BelowSequent.d [], .bool false]) runUnderlying117 zeroValue117 (pl_117 _ runUnderlying117) rfl rfl rfl rfl) ?_;refine go_u rfl rfl (oSb 2 sizeOf117 rfl rfl rfl rfl rfl rfl rfl rfl (Nat.le_of_ble_eq_true rfl)) ?_;rintro _ _ rfl;refine go_ms (ms' := [_, _, box b2 117 [_, _], box b1 75 [_, _]]) rfl ?_;refine gNl (g_ret ?_);obtain rfl := some_eq hm;exact retK (ret_one' (ms' := []) (drop := [_, _, _, _]) rfl (ret_cell 2 rfl rfl rfl isAgg117 sizeOf117 rfl) (perm_all _)) ⟨_, List.Perm.refl _, rfl, rfl⟩
     ·replace hm := cond_f hc5 hm
      refine gSp (g_seq (gRg ?_));refine go_p rfl rfl rfl (oMv rfl) ?_;refine go_p rfl rfl rfl (oMv rfl) ?_;refine go_p rfl rfl rfl (oMv rfl) ?_;refine go_p rfl rfl rfl (oFb fi_75_1 rfl) ?_;refine go_p rfl rfl rfl (oLb 3 isAgg25 rfl rfl rfl rfl) ?_;refine go_p rfl rfl rfl (o_len runUnderlying25 rfl) ?_;obtain ⟨x6, hx7, hm⟩ := bind_some hm;refine go_op rfl rfl rfl (o_call (ms₁ := [_, _]) call156 rfl ((permA 1 rfl (permA 0 rfl permN)).trans List.perm_append_comm) (w_wideR hx7)) ?_;rintro _ _ ⟨_, ⟨p_1, hp_1, rfl, rfl⟩, rfl⟩;refine go_ms (ms' := [_, _, box b2 117 [_, _], box b1 75 [_, _]]) rfl ?_;refine go_u rfl rfl (oSb 2 sizeOf117 rfl rfl rfl rfl rfl rfl rfl rfl (Nat.le_of_ble_eq_true rfl)) ?_;rintro _ _ rfl;refine go_ms (ms' := [_, _, box b2 117 [_, _], box b1 75 [_, _]]) rfl ?_;refine gNl (g_ret ?_);obtain rfl := some_eq hm;exact retK (ret_one' (ms' := []) (drop := [_, _, _, _]) rfl (ret_cell 2 rfl rfl rfl isAgg117 sizeOf117 rfl) (perm_all _)) ⟨_, hp_1, rfl, rfl⟩
    ·replace hm := cond_f hc4 hm
     refine g_seq (gRg ?_);refine go_p rfl rfl rfl (o_cmp rfl rfl rfl) ?_;refine go_p rfl rfl rfl (oAs rfl) ?_;refine gNl ?_;refine gCd rfl (fun hc6 => ?_) (fun hc6 => ?_)
     ·replace hm := cond_t hc6 hm
      refine g_seq (gRg ?_);refine go_p rfl rfl rfl (oMv rfl) ?_;refine go_p rfl rfl rfl (oMv rfl) ?_;refine go_p rfl rfl rfl (oMv rfl) ?_;refine go_p rfl rfl rfl (oFb fi_75_0 rfl) ?_;refine go_p rfl rfl rfl (oLb 3 isAgg25 rfl rfl rfl rfl) ?_;refine go_p rfl rfl rfl (o_len runUnderlying25 rfl) ?_;obtain ⟨x7, hx8, hm⟩ := bind_some hm;refine go_op rfl rfl rfl (o_call (ms₁ := [_, _]) call156 rfl ((permA 1 rfl (permA 0 rfl permN)).trans List.perm_append_comm) (w_wideL hx8)) ?_;rintro _ _ ⟨_, ⟨p_2, hp_2, rfl, rfl⟩, rfl⟩;refine go_ms (ms' := [_, _, box b2 117 [_, _], box b1 75 [_, _]]) rfl ?_;refine go_u rfl rfl (oSb 2 sizeOf117 rfl rfl rfl rfl rfl rfl rfl rfl (Nat.le_of_ble_eq_true rfl)) ?_;rintro _ _ rfl;refine go_ms (ms' := [_, _, box b2 117 [_, _], box b1 75 [_, _]]) rfl ?_;refine gNl (g_ret ?_);obtain rfl := some_eq hm;exact retK (ret_one' (ms' := []) (drop := [_, _, _, _]) rfl (ret_cell 2 rfl rfl rfl isAgg117 sizeOf117 rfl) (perm_all _)) ⟨_, hp_2, rfl, rfl⟩
     ·replace hm := cond_f hc6 hm
      refine gSp (g_seq (gRg ?_));refine go_p rfl rfl rfl (oFb fi_75_1 rfl) ?_;refine go_p rfl rfl rfl (oLb 3 isAgg25 rfl rfl rfl rfl) ?_;refine go_p rfl rfl rfl (o_len runUnderlying25 rfl) ?_;refine go_p rfl rfl rfl (o_cmp rfl rfl rfl) ?_;refine go_p rfl rfl rfl (o_build (zs := [.list 2 BelowSequent.d [], .bool false]) runUnderlying117 zeroValue117 (pl_117 _ runUnderlying117) rfl rfl rfl rfl) ?_;refine go_u rfl rfl (oSb 2 sizeOf117 rfl rfl rfl rfl rfl rfl rfl rfl (Nat.le_of_ble_eq_true rfl)) ?_;rintro _ _ rfl;refine go_ms (ms' := [_, _, box b2 117 [_, _], box b1 75 [_, _]]) rfl ?_;refine gNl (g_ret ?_);obtain rfl := some_eq hm;exact retK (ret_one' (ms' := []) (drop := [_, _, _, _]) rfl (ret_cell 2 rfl rfl rfl isAgg117 sizeOf117 rfl) (perm_all _)) ⟨_, List.Perm.refl _, rfl, rfl⟩
noncomputable def m_below_search_leads (s1 : ApiType) (q1 : BelowSequent) : Option BelowAnswer :=
 (m_below_search_has s1 q1.left 2).bind fun x1 =>
 (bif x1 then (some true) else ((m_below_search_has s1 q1.right 1).bind fun x2 =>
 some x2)).bind fun p1 =>
 bif p1 then
  some (⟨([] : List BelowSequent), false⟩ : BelowAnswer)
 else
  (m_below_search_opened s1 q1).bind fun (x3, x4) =>
  bif x4 then
   some (⟨x3.to_, x3.fails⟩ : BelowAnswer)
  else
   (m_below_search_shared s1 q1).bind fun x5 =>
   bif x5 then
    some (⟨([] : List BelowSequent), false⟩ : BelowAnswer)
   else
    (m_below_search_closed s1 q1).bind fun x6 =>
    some x6
theorem w_below_search_leads {s1 : ApiType} {q1 : BelowSequent} {r_1 : BelowAnswer} (hm : m_below_search_leads s1 q1 = some r_1) : Go.V.Fn Tryz.prog 96 [.ref (ApiType.d s1), BelowSequent.d q1] [] (fun d ms' => ∃ p, p.Perm r_1.to_ /\ d = BelowAnswer.d ⟨p, r_1.fails⟩ /\ ms' = []) := by
 unfold m_below_search_leads at hm;refine fn_intro func96 rfl ntmps96 rfl fun H0 fr w0 => ?_;refine g_seq (gRg ?_);refine go_p rfl rfl rfl (o_box rfl rfl) ?_;refine go_op rfl rfl rfl (o_alloc_own zeroValue117 (cs := [.list 2 BelowSequent.d [], .bool false]) rfl) ?_;rintro _ _ ⟨b1, rfl, rfl⟩;refine gNl (g_seq (g_seq (gRg ?_)));refine go_p rfl rfl rfl (oMv rfl) ?_;refine go_p rfl rfl rfl (oFa fi_75_0 rfl rfl rfl) ?_;refine go_p rfl rfl rfl (o_load isAgg25 rfl rfl) ?_;obtain ⟨x1, hx1, hm⟩ := bind_some hm;refine go_p rfl rfl rfl (o_call0 call130 rfl (w_below_search_has hx1)) ?_;refine go_p rfl rfl rfl (oMv rfl) ?_;obtain ⟨p1, hp_1, hm⟩ := bind_some hm;refine go_two [(0, _), (3, _), (4, _)] 5 16 p1 (t := 11) ⟨rfl, rfl, rfl, trivial⟩ rfl (fun hg_1 hk1 => ?_) (fun hg_1 hk1 => ?_) ?_
 ·replace hp_1 := cond_t hg_1 hp_1
  refine gKp rfl rfl rfl hg_1 rfl rfl ?_;refine gKp rfl rfl rfl hg_1 rfl rfl ?_;refine gKp rfl rfl rfl hg_1 rfl rfl ?_;refine gKp rfl rfl rfl hg_1 rfl rfl ?_;refine go_p rfl rfl rfl (o_pickT rfl hg_1 rfl) ?_;exact gMt hk1 (congrArg (fun b => some (D.bool b)) (some_eq hp_1)) ⟨rfl, rfl, rfl, trivial⟩
 ·replace hp_1 := cond_f hg_1 hp_1
  refine gWp rfl rfl rfl hg_1 rfl rfl (oMv rfl) ?_;refine gWp rfl rfl rfl hg_1 rfl rfl (oFa fi_75_1 rfl rfl rfl) ?_;refine gWp rfl rfl rfl hg_1 rfl rfl (o_load isAgg25 rfl rfl) ?_;obtain ⟨x2, hx2, hp_1⟩ := bind_some hp_1;refine gWp rfl rfl rfl hg_1 rfl rfl (o_call0 call130 rfl (w_below_search_has hx2)) ?_;refine go_p rfl rfl rfl (o_pickF rfl hg_1 rfl) ?_;exact gMt hk1 (congrArg (fun b => some (D.bool b)) (some_eq hp_1)) ⟨rfl, rfl, rfl, trivial⟩
 refine gNl ?_;refine gCd rfl (fun hc1 => ?_) (fun hc1 => ?_)
 ·replace hm := cond_t hc1 hm
  refine g_seq (gRg ?_);refine go_p rfl rfl rfl (o_build (zs := [.list 2 BelowSequent.d [], .bool false]) runUnderlying117 zeroValue117 (pl_117 _ runUnderlying117) rfl rfl rfl rfl) ?_;refine go_u rfl rfl (oSb 0 sizeOf117 rfl rfl rfl rfl rfl rfl rfl rfl (Nat.le_of_ble_eq_true rfl)) ?_;rintro _ _ rfl;refine go_ms (ms' := [box b1 117 [_, _]]) rfl ?_;refine gNl (g_ret ?_);obtain rfl := some_eq hm;exact retK (ret_one' (ms' := []) (drop := [_]) rfl (ret_cell 0 rfl rfl rfl isAgg117 sizeOf117 rfl) (perm_all _)) ⟨_, List.Perm.refl _, rfl, rfl⟩
 ·replace hm := cond_f hc1 hm
  refine gSp (g_seq (g_seq (gRg ?_)));refine go_p rfl rfl rfl (oMv rfl) ?_;refine go_p rfl rfl rfl (o_load_agg isAgg75 sizeOf75 rfl rfl) ?_;obtain ⟨⟨x3, x4⟩, hx3, hm⟩ := bind_some hm;refine go_p rfl rfl rfl (o_call0 call131 rfl (w_below_search_opened hx3)) ?_;refine go_p rfl rfl rfl (oMv rfl) ?_;refine go_p rfl rfl rfl (o_extract rfl rfl) ?_;refine go_p rfl rfl rfl (o_extract rfl rfl) ?_;refine go_op rfl rfl rfl (o_alloc_own zeroValue117 (cs := [.list 2 BelowSequent.d [], .bool false]) rfl) ?_;rintro _ _ ⟨b2, rfl, rfl⟩;refine go_u rfl rfl (oSb 0 sizeOf117 rfl rfl rfl rfl rfl rfl rfl rfl (Nat.le_of_ble_eq_true rfl)) ?_;rintro _ _ rfl;refine go_ms (ms' := [box b2 117 [_, _], box b1 117 [_, _]]) rfl ?_;refine go_p rfl rfl rfl (oAs rfl) ?_;refine gNl (g_seq (gRg ?_));refine go_p rfl rfl rfl (oMv rfl) ?_;refine gNl ?_;refine gCd rfl (fun hc2 => ?_) (fun hc2 => ?_)
  ·replace hm := cond_t hc2 hm
   refine g_seq (gRg ?_);refine go_p rfl rfl rfl (oLg 0 isAgg117 sizeOf117 rfl rfl rfl rfl (Nat.le_of_ble_eq_true rfl)) ?_;refine go_u rfl rfl (oSb 1 sizeOf117 rfl rfl rfl rfl rfl rfl rfl rfl (Nat.le_of_ble_eq_true rfl)) ?_;rintro _ _ rfl;refine go_ms (ms' := [box b2 117 [_, _], box b1 117 [_, _]]) rfl ?_;refine gNl (g_ret ?_);obtain rfl := some_eq hm;exact retK (ret_one' (ms' := []) (drop := [_, _]) rfl (ret_cell 1 rfl rfl rfl isAgg117 sizeOf117 rfl) (perm_all _)) ⟨_, List.Perm.refl _, rfl, rfl⟩
  ·replace hm := cond_f hc2 hm
   refine gSp (g_seq (g_seq (gRg ?_)));refine go_p rfl rfl rfl (oMv rfl) ?_;refine go_p rfl rfl rfl (o_load_agg isAgg75 sizeOf75 rfl rfl) ?_;obtain ⟨x5, hx4, hm⟩ := bind_some hm;refine go_p rfl rfl rfl (o_call0 call132 rfl (w_below_search_shared hx4)) ?_;refine gNl ?_;refine gCd rfl (fun hc3 => ?_) (fun hc3 => ?_)
   ·replace hm := cond_t hc3 hm
    refine g_seq (gRg ?_);refine go_p rfl rfl rfl (o_build (zs := [.list 2 BelowSequent.d [], .bool false]) runUnderlying117 zeroValue117 (pl_117 _ runUnderlying117) rfl rfl rfl rfl) ?_;refine go_u rfl rfl (oSb 1 sizeOf117 rfl rfl rfl rfl rfl rfl rfl rfl (Nat.le_of_ble_eq_true rfl)) ?_;rintro _ _ rfl;refine go_ms (ms' := [box b2 117 [_, _], box b1 117 [_, _]]) rfl ?_;refine gNl (g_ret ?_);obtain rfl := some_eq hm;exact retK (ret_one' (ms' := []) (drop := [_, _]) rfl (ret_cell 1 rfl rfl rfl isAgg117 sizeOf117 rfl) (perm_all _)) ⟨_, List.Perm.refl _, rfl, rfl⟩
   ·replace hm := cond_f hc3 hm
    refine gSp (g_seq (gRg ?_));refine go_p rfl rfl rfl (oMv rfl) ?_;refine go_p rfl rfl rfl (o_load_agg isAgg75 sizeOf75 rfl rfl) ?_;obtain ⟨x6, hx5, hm⟩ := bind_some hm;refine go_op rfl rfl rfl (o_call (ms₁ := []) call133 rfl (List.Perm.refl _) (w_below_search_closed hx5)) ?_;rintro _ _ ⟨_, ⟨p_1, hp_1, rfl, rfl⟩, rfl⟩;refine go_u rfl rfl (oSb 1 sizeOf117 rfl rfl rfl rfl rfl rfl rfl rfl (Nat.le_of_ble_eq_true rfl)) ?_;rintro _ _ rfl;refine go_ms (ms' := [box b2 117 [_, _], box b1 117 [_, _]]) rfl ?_;refine gNl (g_ret ?_);obtain rfl := some_eq hm;exact retK (ret_one' (ms' := []) (drop := [_, _]) rfl (ret_cell 1 rfl rfl rfl isAgg117 sizeOf117 rfl) (perm_all _)) ⟨_, hp_1, rfl, rfl⟩
end Go.Proofs.YtkfnogdccpcmhaaGreatDoor
namespace Go.Proofs.YtkfnogdccpcmhaaGreatDoor
open Go.V Tryz
inductive Reach (t : ApiType) (q : BelowSequent) : BelowSequent -> Prop
 | refl : Reach t q q
 | step {s s' : BelowSequent} {r : BelowAnswer} : Reach t q s -> m_below_search_leads t s = some r -> s' ∈ r.to_ -> Reach t q s'
def HoldsOk (t : ApiType) (q : BelowSequent) (b : Bool) : Prop := ∃ U : List BelowSequent, q ∈ U /\ U.length <= 1000000000000 /\ (∀ s ∈ U, ∃ k, m_below_sequent_key s = some k) /\ (∀ s ∈ U, ∀ s' ∈ U, m_below_sequent_key s = m_below_sequent_key s' -> s = s') /\
 (∀ s ∈ U, ∃ r, m_below_search_leads t s = some r /\ ∀ s' ∈ r.to_, s' ∈ U) /\ (b = true ↔ ∀ s, Reach t q s -> ∀ r, m_below_search_leads t s = some r -> r.fails = false)
open Classical in
noncomputable def m_holds (t : ApiType) (q : BelowSequent) : Option Bool := if HoldsOk t q true then some true else if HoldsOk t q false then some false else none
theorem holds_ok {t : ApiType} {q : BelowSequent} {b : Bool} (h : m_holds t q = some b) : HoldsOk t q b := by
 unfold m_holds at h
 split at h
 ·rename_i h1; cases h; exact h1
 ·split at h
  ·rename_i h1; cases h; exact h1
  ·cases h
theorem holds_of {t : ApiType} {q : BelowSequent} {b : Bool} (h : HoldsOk t q b) : m_holds t q = some b := by
 unfold m_holds
 cases b with
 | true => rw [if_pos h]
 | false =>
  rw [if_neg, if_pos h]
  intro h2
  obtain ⟨_, _, _, _, _, _, h3⟩ := h;obtain ⟨_, _, _, _, _, _, h4⟩ := h2;exact absurd (h3.2 (h4.1 rfl)) (by simp)
def OkIn (t : ApiType) (S : List BelowSequent) (s : BelowSequent) : Prop := ∃ r, m_below_search_leads t s = some r /\ r.fails = false /\ ∀ s' ∈ r.to_, s' ∈ S
structure InvS (t : ApiType) (q : BelowSequent) (U X : List BelowSequent) (seen : List (List UInt8 × Bool)) (todo S : List BelowSequent) : Prop where
 nodup : S.Nodup
 inU : ∀ s ∈ S, s ∈ U
 reach : ∀ s ∈ S, Reach t q s
 seenE : ∀ k, (mget seen k).getD false = true ↔ ∃ s ∈ S, m_below_sequent_key s = some k
 todoE : ∀ s ∈ todo, s ∈ S
 len : todo.length <= S.length
 done : ∀ s ∈ S, s ∉ todo -> s ∉ X -> OkIn t S s
theorem nodup_sub {α : Type} : ∀ (S U : List α), S.Nodup -> (∀ s ∈ S, s ∈ U) -> S.length <= U.length
 | [], U, _, _ => Nat.zero_le _
 | a :: S, U, hn, h => by
  classical
  obtain ⟨h1, h2⟩ := List.nodup_cons.1 hn
  have ha : a ∈ U := h a (by simp)
  have := nodup_sub S (U.erase a) h2 (fun s hs => (List.mem_erase_of_ne (fun e => h1 (by rw [<- e]; exact hs))).2 (h s (by simp [hs])))
  rw [List.length_erase_of_mem ha] at this
  have := List.length_pos_of_mem ha
  simp only [List.length_cons]
  omega
section
variable {t : ApiType} {q : BelowSequent} {U X : List BelowSequent} {seen : List (List UInt8 × Bool)} {todo S : List BelowSequent}
theorem InvS.le (h : InvS t q U X seen todo S) : S.length <= U.length := nodup_sub S U h.nodup h.inU
def askS (seen : List (List UInt8 × Bool)) (k : List UInt8) : List (List UInt8 × Bool) := if (mget seen k).getD false = true then seen else mset seen k true
def askT (seen : List (List UInt8 × Bool)) (k : List UInt8) (todo : List BelowSequent) (s : BelowSequent) : List BelowSequent := if (mget seen k).getD false = true then todo else todo ++ [s]
theorem InvS.ask (h : InvS t q U X seen todo S) (hinj : ∀ s ∈ U, ∀ s' ∈ U, m_below_sequent_key s = m_below_sequent_key s' -> s = s') {s : BelowSequent} {k : List UInt8} (hs : s ∈ U) (hr : Reach t q s) (hk : m_below_sequent_key s = some k) :
  InvS t q U X (askS seen k) (askT seen k todo s) (if (mget seen k).getD false = true then S else S ++ [s]) /\ s ∈ (if (mget seen k).getD false = true then S else S ++ [s]) /\
   2 * (U.length - (if (mget seen k).getD false = true then S else S ++ [s]).length) + (askT seen k todo s).length <= 2 * (U.length - S.length) + todo.length /\ ∀ x ∈ S, x ∈ (if (mget seen k).getD false = true then S else S ++ [s]) := by
 unfold askS askT
 by_cases hg : (mget seen k).getD false = true
 ·simp only [if_pos hg]
  obtain ⟨s1, h1, h2⟩ := (h.seenE k).1 hg
  have := hinj s1 (h.inU s1 h1) s hs (by rw [h2, hk])
  subst this;exact ⟨h, h1, Nat.le_refl _, fun x hx => hx⟩
 ·simp only [if_neg hg]
  have hns : s ∉ S := fun hm => hg ((h.seenE k).2 ⟨s, hm, hk⟩)
  have hI : InvS t q U X (mset seen k true) (todo ++ [s]) (S ++ [s]) := by
   refine ⟨?_, ?_, ?_, ?_, ?_, ?_, ?_⟩
   ·rw [List.nodup_append]; exact ⟨h.nodup, by simp, fun a ha b hb e => by simp at hb; subst hb; subst e; exact hns ha⟩
   ·intro x hx; rcases List.mem_append.1 hx with hx | hx
    ·exact h.inU x hx
    ·simp at hx; subst hx; exact hs
   ·intro x hx; rcases List.mem_append.1 hx with hx | hx
    ·exact h.reach x hx
    ·simp at hx; subst hx; exact hr
   ·intro k'
    rw [mget_set]
    by_cases hkk : k' = k
    ·subst hkk
     simp only [if_true, Option.getD_some, true_iff];exact ⟨s, by simp, hk⟩
    ·rw [if_neg hkk, h.seenE k']
     constructor
     ·rintro ⟨x, hx, hxk⟩; exact ⟨x, by simp [hx], hxk⟩
     ·rintro ⟨x, hx, hxk⟩
      rcases List.mem_append.1 hx with hx | hx
      ·exact ⟨x, hx, hxk⟩
      ·simp at hx; subst hx; rw [hk] at hxk; exact absurd (Option.some.inj hxk).symm hkk
   ·intro x hx; rcases List.mem_append.1 hx with hx | hx
    ·exact List.mem_append_left _ (h.todoE x hx)
    ·exact List.mem_append_right _ hx
   ·have := h.len; simp only [List.length_append, List.length_cons, List.length_nil]; omega
   ·intro x hx hxt hxX
    rcases List.mem_append.1 hx with hx | hx
    ·obtain ⟨r, r1, r2, r3⟩ := h.done x hx (fun e => hxt (List.mem_append_left _ e)) hxX
     exact ⟨r, r1, r2, fun s' hs' => List.mem_append_left _ (r3 s' hs')⟩
    ·exact absurd (List.mem_append_right _ hx) hxt
  have := hI.le
  refine ⟨hI, by simp, ?_, fun x hx => List.mem_append_left _ hx⟩;simp only [List.length_append, List.length_cons, List.length_nil] at this ⊢
  omega
theorem InvS.pop {x : BelowSequent} (h : InvS t q U [] seen (todo ++ [x]) S) : InvS t q U [x] seen todo S :=
 ⟨h.nodup, h.inU, h.reach, h.seenE, fun s hs => h.todoE s (by simp [hs]), by have := h.len; simp at this; omega, fun s hs ht hx => h.done s hs (by simp only [List.mem_append]; rintro (e | e); exact ht e; exact hx e) (by simp)⟩
theorem InvS.close {x : BelowSequent} {r : BelowAnswer} (h : InvS t q U [x] seen todo S) (hr : m_below_search_leads t x = some r) (hf : r.fails = false) (ht : ∀ s' ∈ r.to_, s' ∈ S) : InvS t q U [] seen todo S :=
 ⟨h.nodup, h.inU, h.reach, h.seenE, h.todoE, h.len, fun s hs h1 _ => by
  by_cases e : s = x
  ·subst e; exact ⟨r, hr, hf, ht⟩
  ·exact h.done s hs h1 (by simpa using e)⟩
theorem InvS.all (h : InvS t q U [] seen [] S) (hq : q ∈ S) : ∀ s, Reach t q s -> ∀ r, m_below_search_leads t s = some r -> r.fails = false := by
 have key : ∀ s, Reach t q s -> s ∈ S := by
  intro s hr
  induction hr with
  | refl => exact hq
  | step h1 h2 h3 ih =>
   obtain ⟨r', r1, _, r3⟩ := h.done _ ih (by simp) (by simp);rw [h2] at r1; cases r1
   exact r3 _ h3
 intro s hr r h2
 obtain ⟨r', r1, r2, _⟩ := h.done _ (key s hr) (by simp) (by simp);rw [h2] at r1; cases r1
 exact r2
end
theorem fi_w114_1 : FieldIs Tryz.prog 114 1 2 1 false := ⟨⟨_, _, runUnderlying114, rfl, rfl, sizeOf111, by decide, isAgg111⟩⟩
theorem fi_w114_2 : FieldIs Tryz.prog 114 2 3 1 false := ⟨⟨_, _, runUnderlying114, rfl, rfl, sizeOf112, by decide, isAgg112⟩⟩
theorem w_ask {t : ApiType} {s : BelowSequent} {k : List UInt8} {seen : List (List UInt8 × Bool)} {todo : List BelowSequent} {bs bm : Nat} {a : Option Addr} {m cap : Nat} (hk : m_below_sequent_key s = some k) (hl : todo.length <= 1000000000000) :
  Go.V.Fn Tryz.prog 95 [.v (.pointer (some ⟨bs, 0, none⟩)), BelowSequent.d s] [boxf bs 114 2 [.list 4 ApiTNode.d t.l, .i64 t.root, .v (.map (some bm)), .v (.slice a m cap)], mp bm kStr D.bool seen, arr a m cap 75 2 BelowSequent.d todo]
   (fun d ms' => d = .tup [] /\ ∃ a' m' cap', ms' = [boxf bs 114 2 [.list 4 ApiTNode.d t.l, .i64 t.root, .v (.map (some bm)), .v (.slice a' m' cap')], mp bm kStr D.bool (askS seen k), arr a' m' cap' 75 2 BelowSequent.d (askT seen k todo s)]) := by
 refine fn_intro func95 rfl ntmps95 rfl fun H0 fr w0 => ?_;refine g_seq (gRg ?_);refine go_p rfl rfl rfl (o_box rfl rfl) ?_;refine gNl (g_seq (gRg ?_));refine go_p rfl rfl rfl (o_load_agg isAgg75 sizeOf75 rfl rfl) ?_;refine go_p rfl rfl rfl (o_call0 call129 rfl (w_below_sequent_key hk)) ?_;refine go_p rfl rfl rfl (oAs rfl) ?_;refine gNl (g_seq (gRg ?_));refine go_p rfl rfl rfl (oMv rfl) ?_;refine go_p rfl rfl rfl (o_nilCheck_box rfl) ?_;refine go_p rfl rfl rfl (oFb fi_w114_1 rfl) ?_;refine go_p rfl rfl rfl (o_load_boxf 0 isAgg111 rfl rfl rfl rfl) ?_;refine go_p rfl rfl rfl (oMv rfl) ?_;refine go_p rfl rfl rfl (o_lookup (z0 := (false : Bool)) 1 runUnderlying111 (keyStr underlying9) zeroValue4 (fun _ => conc_v.2 rfl) rfl rfl rfl) ?_;refine go_p rfl rfl rfl (o_not rfl) ?_;refine gNl ?_;refine gCd rfl (fun hc1 => ?_) (fun hc1 => ?_)
 ·have hg : ¬ ((mget seen k).getD false = true) := by simpa using hc1
  have e1 : askS seen k = mset seen k true := if_neg hg
  have e2 : askT seen k todo s = todo ++ [s] := if_neg hg
  refine g_seq (gRg ?_);refine go_p rfl rfl rfl (oMv rfl) ?_;refine go_p rfl rfl rfl (o_nilCheck_box rfl) ?_;refine go_p rfl rfl rfl (oFb fi_w114_1 rfl) ?_;refine go_p rfl rfl rfl (o_load_boxf 0 isAgg111 rfl rfl rfl rfl) ?_;refine go_p rfl rfl rfl (oMv rfl) ?_;refine go_u rfl rfl (o_mapUpdate (v := true) 1 runUnderlying111 (keyStr underlying9) rfl rfl rfl rfl) ?_;rintro _ _ rfl;refine go_ms (ms' := [_, _, _]) rfl ?_;refine gNl ?_
  have hg3 : (todo.length + ([(⟨s.left, s.right⟩ : BelowSequent)] : List _).length) * 48 <= 140737488355328 := by simp only [List.length_cons, List.length_nil]; omega
  refine g_draw_c [7, 10] [0, 8, 9] [] Tryz_mixed (by decide +kernel) (by decide +kernel) rfl ?_;refine gde_p rfl rfl rfl rfl rfl rfl (oMv rfl) ?_;refine gde_p rfl rfl rfl rfl rfl rfl (oMv rfl) ?_;refine gde_p rfl rfl rfl rfl rfl rfl (o_nilCheck_box rfl) ?_;refine gde_p rfl rfl rfl rfl rfl rfl (oFb fi_w114_2 rfl) ?_;refine gde_p rfl rfl rfl rfl rfl rfl (o_load_boxf 0 isAgg112 rfl rfl rfl rfl) ?_;refine gde_p rfl rfl rfl rfl rfl rfl (o_load_agg isAgg75 sizeOf75 rfl rfl) ?_;refine gde_p rfl rfl rfl rfl rfl rfl (o_buildSlice (xs := [_]) (f := BelowSequent.d) (l := [(⟨s.left, s.right⟩ : BelowSequent)]) runUnderlying112 sizeOf75 zeroValue75 rfl rfl rfl (fun _ => ⟨rfl, rfl, rfl⟩) rfl) ?_;refine gde_e rfl ?_;refine gde_p rfl rfl rfl rfl rfl rfl (o_nilCheck_box rfl) ?_;refine gde_p rfl rfl rfl rfl rfl rfl (oFb fi_w114_2 rfl) ?_;refine gde_e rfl ?_;refine gde_nil ?_;refine gde2_t rfl rfl rfl rfl (o_append_own (a := _) 2 underlying112 type75 rfl rfl rfl rfl rfl rfl (fun _ => rfl) (fun _ => rfl) hg3 (app_len hg3 rfl)) ?_;rintro _ _ ⟨a', m', cap', rfl, rfl⟩;refine ⟨trivial, ?_⟩;refine gde2_u rfl rfl rfl (o_store_boxf 0 (by decide) sizeOf112 rfl rfl rfl rfl rfl rfl rfl rfl (Nat.le_of_ble_eq_true rfl)) ?_;rintro _ _ rfl;refine ⟨trivial, ?_⟩;refine gde2_nil ?_;exact retKn (ret_none (ms' := [_, _, _]) (drop := []) rfl (List.Perm.refl _)) ⟨rfl, a', m', cap', by rw [e1, e2]; rfl⟩
 ·have hg : (mget seen k).getD false = true := by simpa using hc1
  have e1 : askS seen k = seen := if_pos hg
  have e2 : askT seen k todo s = todo := if_pos hg
  refine gSp ?_;exact retKn (ret_none (ms' := [_, _, _]) (drop := []) rfl (List.Perm.refl _)) ⟨rfl, a, m, cap, by rw [e1, e2]⟩
theorem fi_w117_1 : FieldIs Tryz.prog 117 1 1 1 false := ⟨⟨_, _, runUnderlying117, rfl, rfl, sizeOf4, by decide, isAgg4⟩⟩
theorem pl_w114 : ∀ fs, (∀ w, (underlying 114).run Tryz.prog w = .ok (.struct fs) w) -> placesOf Tryz.prog fs [(0, 2), (2, 1), (3, 1)] := by
 intro fs h w
 have := (h w).symm.trans (runUnderlying114 w)
 simp only [Result.ok.injEq, TypeDesc.struct.injEq, and_true] at this;subst this
 simp [sizeOf24, sizeOf111, sizeOf112, Sem.run]
theorem lastS (l : List BelowSequent) (x : BelowSequent) : idx (l ++ [x]) (((l ++ [x]).length : Int) - 1) = some x := by
 have e : ((l ++ [x]).length : Int) - 1 = (l.length : Int) := by simp
 rw [e];unfold idx;rw [if_pos (by omega)]
 simp
theorem initS (l : List BelowSequent) (x : BelowSequent) : sli (l ++ [x]) 0 (((l ++ [x]).length : Int) - 1) = some l := by
 have e : ((l ++ [x]).length : Int) - 1 = (l.length : Int) := by simp
 rw [e];unfold sli;rw [if_pos ⟨Int.le_refl _, by omega, by simp; omega⟩]
 simp
theorem w_holds {t : ApiType} {q : BelowSequent} {b : Bool} (hm : m_holds t q = some b) : Fn0 Tryz.prog 57 [ApiType.d t, BelowSequent.d q] (.bool b) := by
 obtain ⟨U, hqU, hUl, hkey, hinj, hlead, hb⟩ := holds_ok hm;refine fn_intro func57 rfl ntmps57 rfl fun H0 fr w0 => ?_;refine g_seq (gRg ?_);refine go_p rfl rfl rfl (o_box rfl rfl) ?_;refine go_p rfl rfl rfl (o_box rfl rfl) ?_;refine go_p rfl rfl rfl (oAs rfl) ?_;refine gNl (g_seq (gRg ?_));refine go_p rfl rfl rfl (o_load_agg isAgg24 sizeOf24 rfl rfl) ?_;refine go_op rfl rfl rfl (o_makeMap (fk := kStr) (fv := D.bool)) ?_;rintro _ _ ⟨bm, rfl, rfl⟩;refine go_p rfl rfl rfl (o_build (zs := [.list 4 ApiTNode.d [], .v (.int .i64 0), .v (.map none), .v (.slice none 0 0)]) runUnderlying114 zeroValue114 (pl_w114 _ runUnderlying114) rfl rfl rfl rfl) ?_;refine go_op rfl rfl rfl (o_box_own rfl rfl rfl) ?_;rintro _ _ ⟨bs, rfl, rfl⟩;refine go_conv (refines_newarr (T := 75) (sz := 2) (f := BelowSequent.d)) ?_;refine go_ms (ms' := [_, box bs 114 [.list 4 ApiTNode.d t.l, .i64 t.root, .v (.map (some bm)), .v (.slice none 0 0)], _]) rfl ?_;refine go_conv (refines_boxf 1 2 rfl rfl) ?_;refine go_p rfl rfl rfl (oAs rfl) ?_;refine gNl ?_;refine g_conv (refines_perm (ms' := [boxf bs 114 2 [.list 4 ApiTNode.d t.l, .i64 t.root, .v (.map (some bm)), .v (.slice none 0 0)], mp bm kStr D.bool [], arr none 0 0 75 2 BelowSequent.d []]) (List.perm_append_comm (l₁ := [arr none 0 0 75 2 BelowSequent.d []]) (l₂ := [_, _]))) ?_;obtain ⟨k0, hk0⟩ := hkey q hqU
 have hI0 : InvS t q U [] [] [] [] := ⟨List.nodup_nil, by simp, by simp, by simp [mget], by simp, Nat.le_refl _, by simp⟩
 obtain ⟨hI1, hq1, _, _⟩ := hI0.ask hinj hqU .refl hk0;refine g_seq (gRg ?_);refine go_p rfl rfl rfl (oMv rfl) ?_;refine go_p rfl rfl rfl (o_load_agg isAgg75 sizeOf75 rfl rfl) ?_;refine go_op rfl rfl rfl (o_call_own [0, 1, 2] call95 rfl rfl (getL_c rfl (getL_c rfl (getL_c rfl getL_n))) (w_ask (s := q) hk0 (Nat.zero_le _)) (by rintro _ _ ⟨rfl, _, _, _, rfl⟩; rfl)) ?_;rintro _ _ ⟨_, ⟨rfl, a, m, cap, rfl⟩, rfl⟩;refine go_ms (ms' := [boxf bs 114 2 [_, _, _, _], _, _]) rfl ?_;refine gNl (g_seq (g_block ?_));refine g_loop_k [(5, .v (.pointer (some ⟨bs, 0, none⟩)))] (fun (s : (List (List UInt8 × Bool) × List BelowSequent × List BelowSequent × Option Addr × Nat × Nat)) => match s with | (seen, todo, S, a, m, cap) => InvS t q U [] seen todo S /\ q ∈ S) (fun _ => [])
  (fun s => match s with | (seen, todo, S, a, m, cap) => [boxf bs 114 2 [.list 4 ApiTNode.d t.l, .i64 t.root, .v (.map (some bm)), .v (.slice a m cap)], mp bm kStr D.bool seen, arr a m cap 75 2 BelowSequent.d todo]) (fun s => 2 * (U.length - s.2.2.1.length) + s.2.1.length) (askS [] k0, askT [] k0 [] q, _, a, m, cap) ⟨hI1, hq1⟩ ⟨rfl, trivial⟩ trivial rfl ?_
 rintro ⟨seen, todo, S, a, m, cap⟩ ⟨hI, hqS⟩;refine g_norm (L' := [(5, .v (.pointer (some ⟨bs, 0, none⟩)))]) (ms' := [boxf bs 114 2 [.list 4 ApiTNode.d t.l, .i64 t.root, .v (.map (some bm)), .v (.slice a m cap)], mp bm kStr D.bool seen, arr a m cap 75 2 BelowSequent.d todo]) rfl rfl ?_;refine g_seq (g_seq (gRg ?_));refine go_p rfl rfl rfl (oMv rfl) ?_;refine go_p rfl rfl rfl (o_nilCheck_box rfl) ?_;refine go_p rfl rfl rfl (oFb fi_w114_2 rfl) ?_;refine go_p rfl rfl rfl (o_load_boxf 0 isAgg112 rfl rfl rfl rfl) ?_;refine go_p rfl rfl rfl (o_len_arr 2 runUnderlying112 rfl rfl) ?_;refine go_p rfl rfl rfl (o_cmp rfl rfl rfl) ?_;refine gNl ?_;refine gCd rfl (fun hc1 => ?_) (fun hc1 => ?_)
 rotate_left
 ·have h0 : todo = [] := by
   have := of_decide_eq_false hc1
   exact List.length_eq_zero_iff.1 (by omega)
  subst h0;refine g_exit ?_
  have hbt : b = true := hb.2 (hI.all hqS)
  subst hbt;refine g_seq (gRg ?_);refine go_p rfl rfl rfl (oAs rfl) ?_;refine gNl (g_ret ?_);exact retK (ret_one' rfl (ret_tmp rfl) (perm_drop _)) rfl
 ·refine gSp ?_
  obtain ⟨todo0, x, rfl⟩ : ∃ l x, todo = l ++ [x] := by
   have := of_decide_eq_true hc1
   have hne : todo ≠ [] := by rintro rfl; simp at this
   exact ⟨todo.dropLast, todo.getLast hne, (List.dropLast_concat_getLast hne).symm⟩
  have hxS : x ∈ S := hI.todoE x (by simp)
  have hlt : ((todo0 ++ [x]).length : Int) <= 1000000000000 := by have := hI.len; have := hI.le; omega
  have hg1 : InR (((todo0 ++ [x]).length : Int) - 1) := by constructor <;> omega
  obtain ⟨r, hr, hrU⟩ := hlead x (hI.inU x hxS);refine g_block (g_seq ?_);refine g_draw_f 13 [12] Tryz_mixed (by decide +kernel) (by decide +kernel) rfl (by decide +kernel) ?_;refine gdf_p rfl rfl rfl rfl (oMv rfl) ?_;refine gdf_p rfl rfl rfl rfl (o_nilCheck_box rfl) ?_;refine gdf_p rfl rfl rfl rfl (oFb fi_w114_2 rfl) ?_;refine gdf_p rfl rfl rfl rfl (o_load_boxf 0 isAgg112 rfl rfl rfl rfl) ?_;refine gdf_p rfl rfl rfl rfl (oMv rfl) ?_;refine gdf_p rfl rfl rfl rfl (o_nilCheck_box rfl) ?_;refine gdf_p rfl rfl rfl rfl (oFb fi_w114_2 rfl) ?_;refine gdf_p rfl rfl rfl rfl (o_load_boxf 0 isAgg112 rfl rfl rfl rfl) ?_;refine gdf_p rfl rfl rfl rfl (o_len_arr 2 runUnderlying112 rfl rfl) ?_;refine gdf_p rfl rfl rfl rfl (o_sub rfl rfl (i64_id hg1)) ?_;refine gdf_p rfl rfl rfl rfl (o_indexAddr_arr 2 runUnderlying112 sizeOf75 rfl rfl rfl (lastS todo0 x)) ?_;refine gdf_p rfl rfl rfl rfl (o_load_arr_agg 2 isAgg75 sizeOf75 rfl rfl (idx_some (lastS todo0 x)).2 rfl rfl) ?_;refine gdf_fresh (R := fun d A => ∃ b, d = .v (.pointer (some ⟨b, 0, none⟩)) /\ A = box b 75 [.list 1 D.i64 [], .list 1 D.i64 []]) rfl rfl rfl (OpT.mono (o_alloc_own zeroValue75 (cs := [.list 1 D.i64 [], .list 1 D.i64 []]) rfl) (by rintro d ms' ⟨b, rfl, rfl⟩; exact ⟨_, ⟨b, rfl, rfl⟩, rfl⟩)) ?_;refine gdf_nil ?_;rintro _ _ ⟨bn, rfl, rfl⟩;refine go_u rfl rfl (oSb 0 sizeOf75 rfl rfl rfl rfl rfl rfl rfl rfl (Nat.le_of_ble_eq_true rfl)) ?_;rintro _ _ rfl;refine go_ms (ms' := [box bn 75 [.list 1 D.i64 x.left, .list 1 D.i64 x.right], _, _, _]) rfl ?_;refine gNl (g_seq ?_);refine g_draw_c [11, 14] [0, 12, 13] [] Tryz_mixed (by decide +kernel) (by decide +kernel) rfl ?_;refine gde_p rfl rfl rfl rfl rfl rfl (oMv rfl) ?_;refine gde_p rfl rfl rfl rfl rfl rfl (oMv rfl) ?_;refine gde_p rfl rfl rfl rfl rfl rfl (o_nilCheck_box rfl) ?_;refine gde_p rfl rfl rfl rfl rfl rfl (oFb fi_w114_2 rfl) ?_;refine gde_p rfl rfl rfl rfl rfl rfl (o_load_boxf 1 isAgg112 rfl rfl rfl rfl) ?_;refine gde_p rfl rfl rfl rfl rfl rfl (oMv rfl) ?_;refine gde_p rfl rfl rfl rfl rfl rfl (o_nilCheck_box rfl) ?_;refine gde_p rfl rfl rfl rfl rfl rfl (oFb fi_w114_2 rfl) ?_;refine gde_p rfl rfl rfl rfl rfl rfl (o_load_boxf 1 isAgg112 rfl rfl rfl rfl) ?_;refine gde_p rfl rfl rfl rfl rfl rfl (o_len_arr 3 runUnderlying112 rfl rfl) ?_;refine gde_p rfl rfl rfl rfl rfl rfl (o_sub rfl rfl (i64_id hg1)) ?_;refine gde_e rfl ?_;refine gde_p rfl rfl rfl rfl rfl rfl (o_nilCheck_box rfl) ?_;refine gde_p rfl rfl rfl rfl rfl rfl (oFb fi_w114_2 rfl) ?_;refine gde_e rfl ?_;refine gde_nil ?_;refine gde2_t rfl rfl rfl rfl (o_slice_trunc 3 runUnderlying112 sizeOf75 rfl rfl rfl (initS todo0 x)) ?_;rintro _ _ ⟨a2, m2, cap2, rfl, rfl⟩;refine ⟨trivial, ?_⟩;refine gde2_u rfl rfl rfl (o_store_boxf 1 (by decide) sizeOf112 rfl rfl rfl rfl rfl rfl rfl rfl (Nat.le_of_ble_eq_true rfl)) ?_;rintro _ _ rfl;refine ⟨trivial, ?_⟩
  refine gde2_nil ?_;refine g_seq (gRg ?_);refine go_ms (ms' := [box bn 75 [.list 1 D.i64 x.left, .list 1 D.i64 x.right], boxf bs 114 2 [.list 4 ApiTNode.d t.l, .i64 t.root, .v (.map (some bm)), .v (.slice a2 m2 cap2)], mp bm kStr D.bool seen, arr a2 m2 cap2 75 2 BelowSequent.d todo0]) rfl ?_;refine go_p rfl rfl rfl (oMv rfl) ?_;refine go_p rfl rfl rfl (oLg 0 isAgg75 sizeOf75 rfl rfl rfl rfl (Nat.le_of_ble_eq_true rfl)) ?_;refine go_op rfl rfl rfl (.view (peekF (i := 49) (d := ApiType.d t) 1 rfl rfl rfl rfl) (o_call (ms₁ := []) call96 rfl (List.Perm.refl _) (w_below_search_leads hr))) ?_;rintro _ _ ⟨_, ⟨p, hp, rfl, rfl⟩, rfl⟩;refine go_op rfl rfl rfl (o_alloc_own zeroValue117 (cs := [.list 2 BelowSequent.d [], .bool false]) rfl) ?_;rintro _ _ ⟨ba, rfl, rfl⟩;refine go_u rfl rfl (oSb 0 sizeOf117 rfl rfl rfl rfl rfl rfl rfl rfl (Nat.le_of_ble_eq_true rfl)) ?_;rintro _ _ rfl;refine go_ms (ms' := [box ba 117 [.list 2 BelowSequent.d p, .bool r.fails], box bn 75 [.list 1 D.i64 x.left, .list 1 D.i64 x.right], boxf bs 114 2 [.list 4 ApiTNode.d t.l, .i64 t.root, .v (.map (some bm)), .v (.slice a2 m2 cap2)], mp bm kStr D.bool seen, arr a2 m2 cap2 75 2 BelowSequent.d todo0]) rfl ?_;refine gNl (g_seq (g_seq (gRg ?_)));refine go_p rfl rfl rfl (oFb fi_w117_1 rfl) ?_;refine go_p rfl rfl rfl (oLb 0 isAgg4 rfl rfl rfl rfl) ?_;refine gNl ?_
  have hpU : ∀ s' ∈ p, s' ∈ U := fun s' hs' => hrU s' (hp.mem_iff.1 hs')
  have hpR : ∀ s' ∈ p, Reach t q s' := fun s' hs' => .step (hI.reach x hxS) hr (hp.mem_iff.1 hs')
  refine gCd rfl (fun hc2 => ?_) (fun hc2 => ?_)
  ·have hbf : b = false := by
    cases b with
    | false => rfl
    | true => have := hb.1 rfl x (hI.reach x hxS) r hr; rw [this] at hc2; cases hc2
   subst hbf;refine g_seq (gRg ?_);refine go_p rfl rfl rfl (oAs rfl) ?_;refine gNl (g_ret ?_);exact retK (ret_one' rfl (ret_tmp rfl) (perm_drop _)) rfl
  ·refine gSp ?_
   refine g_seq (gRg ?_);refine go_p rfl rfl rfl (oFb fi_w117_0 rfl) ?_;refine go_p rfl rfl rfl (oLb 0 isAgg112 rfl rfl rfl rfl) ?_;refine go_p rfl rfl rfl (o_len runUnderlying112 rfl) ?_;refine go_p rfl rfl rfl (oMv rfl) ?_;refine gNl ?_;refine g_len_tmp (i := 55) rfl fun hpl => ?_;refine g_block ?_;refine g_loop_k [(5, .v (.pointer (some ⟨bs, 0, none⟩))), (55, .list 2 BelowSequent.d p), (56, .i64 p.length)] (fun (s : Nat × (List (List UInt8 × Bool) × List BelowSequent × List BelowSequent × Option Addr × Nat × Nat)) => match s with | (i, seen', todo', S', a', m', cap') => InvS t q U [x] seen' todo' S' /\ (∀ y ∈ S, y ∈ S') /\ (∀ y ∈ p.take i, y ∈ S') /\ i <= p.length /\ 2 * (U.length - S'.length) + todo'.length <= 2 * (U.length - S.length) + todo0.length) (fun s => [(57, .i64 (s.1 : Int))])
    (fun s => match s with | (i, seen', todo', S', a', m', cap') => [box ba 117 [.list 2 BelowSequent.d p, .bool r.fails], box bn 75 [.list 1 D.i64 x.left, .list 1 D.i64 x.right], boxf bs 114 2 [.list 4 ApiTNode.d t.l, .i64 t.root, .v (.map (some bm)), .v (.slice a' m' cap')], mp bm kStr D.bool seen', arr a' m' cap' 75 2 BelowSequent.d todo']) (fun s => p.length - s.1) (0, seen, todo0, S, a2, m2, cap2) ⟨hI.pop, fun y hy => hy, by simp, Nat.zero_le _, Nat.le_refl _⟩ ⟨rfl, rfl, rfl, trivial⟩ ⟨rfl, trivial⟩ rfl ?_
   rintro ⟨i, seen', todo', S', a', m', cap'⟩ ⟨hJ, hS, htk, hil, hms⟩;refine g_norm (L' := [(57, .i64 (i : Int)), (5, .v (.pointer (some ⟨bs, 0, none⟩))), (55, .list 2 BelowSequent.d p), (56, .i64 p.length)]) (ms' := [box ba 117 [.list 2 BelowSequent.d p, .bool r.fails], box bn 75 [.list 1 D.i64 x.left, .list 1 D.i64 x.right], boxf bs 114 2 [.list 4 ApiTNode.d t.l, .i64 t.root, .v (.map (some bm)), .v (.slice a' m' cap')], mp bm kStr D.bool seen', arr a' m' cap' 75 2 BelowSequent.d todo']) rfl rfl ?_;refine g_seq (gRg ?_);refine go_p rfl rfl rfl (o_cmp rfl rfl rfl) ?_;refine gNl (g_seq ?_);refine gCd rfl (fun hc3 => ?_) (fun hc3 => ?_)
   rotate_left
   ·have hie : i = p.length := by have := of_decide_eq_false hc3; omega
    subst hie;rw [List.take_length] at htk;refine g_exit ?_
    have hK := hJ.close hr hc2 (fun s' hs' => htk s' (hp.mem_iff.2 hs'))
    exact ⟨(seen', todo', S', a', m', cap'), ⟨hK, hS q hqS⟩, by simp only [List.length_append, List.length_cons, List.length_nil] at hms ⊢; omega, trivial, ⟨rfl, trivial⟩, [_, _], rfl⟩
   ·have hlt2 : i < p.length := by have := of_decide_eq_true hc3; omega
    obtain ⟨y, hy⟩ : ∃ y, p[i]? = some y := ⟨p[i], by simp [hlt2]⟩
    have hym : y ∈ p := List.mem_of_getElem? hy
    have hyi : idx p (i : Int) = some y := by unfold idx; rw [if_pos (by omega), Int.toNat_natCast]; exact hy
    obtain ⟨ky, hky⟩ := hkey y (hpU y hym);obtain ⟨hA, hyS, hmu, hmo⟩ := hJ.ask hinj (hpU y hym) (hpR y hym) hky
    have htl : todo'.length <= 1000000000000 := by have := hJ.len; have := hJ.le; omega
    have hg4 : InR ((i : Int) + 1) := by simp only [maxLen] at hpl; constructor <;> omega
    refine gSp (g_seq (g_block (g_seq (gRg ?_))));refine go_p rfl rfl rfl (oIm runUnderlying112 sizeOf75 rfl rfl hyi) ?_;refine go_p rfl rfl rfl (o_load_agg isAgg75 sizeOf75 rfl rfl) ?_;refine go_op rfl rfl rfl (o_alloc_own zeroValue75 (cs := [.list 1 D.i64 [], .list 1 D.i64 []]) rfl) ?_;rintro _ _ ⟨b9, rfl, rfl⟩;refine go_u rfl rfl (oSb 0 sizeOf75 rfl rfl rfl rfl rfl rfl rfl rfl (Nat.le_of_ble_eq_true rfl)) ?_;rintro _ _ rfl;refine go_ms (ms' := [box b9 75 [.list 1 D.i64 y.left, .list 1 D.i64 y.right], box ba 117 [_, _], box bn 75 [_, _], boxf bs 114 2 [_, _, _, _], _, _]) rfl ?_;refine gNl (gRg ?_);refine go_p rfl rfl rfl (oMv rfl) ?_;refine go_p rfl rfl rfl (oLg 0 isAgg75 sizeOf75 rfl rfl rfl rfl (Nat.le_of_ble_eq_true rfl)) ?_;refine go_op rfl rfl rfl (o_call_own [3, 4, 5] call95 rfl rfl (getL_c rfl (getL_c rfl (getL_c rfl getL_n))) (w_ask (s := y) hky htl) (by rintro _ _ ⟨rfl, _, _, _, rfl⟩; rfl)) ?_;rintro _ _ ⟨_, ⟨rfl, a4, m4, cap4, rfl⟩, rfl⟩;refine go_ms (ms' := [box b9 75 [_, _], box ba 117 [_, _], box bn 75 [_, _], boxf bs 114 2 [_, _, _, _], _, _]) rfl ?_;refine gNl (gRg ?_);refine go_p rfl rfl rfl (o_add rfl rfl (i64_id hg4)) ?_;refine go_p rfl rfl rfl (oMv rfl) ?_;refine gNl ?_
    have htk' : p.take (i + 1) = p.take i ++ [y] := by rw [List.take_add_one, hy]; rfl
    refine ⟨(i + 1, askS seen' ky, askT seen' ky todo' y, _, a4, m4, cap4), ⟨hA, fun z hz => hmo z (hS z hz), fun z hz => ?_, hlt2, Nat.le_trans hmu hms⟩, by simp only; omega, ⟨rfl, trivial⟩, ⟨rfl, rfl, rfl, trivial⟩, [_], rfl⟩;rw [htk'] at hz
    rcases List.mem_append.1 hz with hz | hz
    ·exact hmo z (htk z hz)
    ·simp at hz; subst hz; exact hyS
end Go.Proofs.YtkfnogdccpcmhaaGreatDoor
