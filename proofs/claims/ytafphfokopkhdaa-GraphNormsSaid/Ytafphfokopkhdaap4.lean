/- Part 4 of the proof: a program logic, what the functions compute, and what these answer; no condition. -/
import Derived.Test.Ytafphfokopkhdaap3
import Derived.Shelf.Sort.Plain
import Derived.Ground.Names2Prog
import Derived.Shelf.Slices.CompactI
import Derived.Shelf.Slices.In.SortNone
import Derived.Test.YtafphfokopkhdaaProg
set_option linter.unusedVariables false
set_option linter.unusedSimpArgs false
set_option maxRecDepth 100000
set_option maxHeartbeats 2000000
namespace Go.Proofs.Ytafphfokopkhdaa
open Go.V
theorem w_syntagmaref13_Below {t1 : ApiType} {root1 : Int} {r_1 : (List Int)} (hm : m_syntagmaref13_Below t1 root1 = some r_1) : Fn0 Try.prog 72 [ApiType.d t1, .i64 root1] (.list 1 D.i64 r_1) := by
  unfold m_syntagmaref13_Below at hm
  refine fn_intro Try.func72 rfl Try.ntmps72 rfl fun H0 fr w0 => ?_
  refine g_seq ?_
  refine g_region ?_
  refine go_p rfl rfl rfl (o_box rfl rfl) ?_
  refine go_p rfl rfl rfl (o_assign rfl) ?_
  refine go_conv (nilE (i := 4) (sz := 1) (f := D.i64) rfl).refines ?_
  refine go_nil ?_
  refine g_seq ?_
  refine g_region ?_
  refine go_op rfl rfl rfl (o_buildSlice_row (xs := []) (f := D.i64) (l := []) Try.runUnderlying28 Try.sizeOf3 Try.zeroValue3 rfl rfl rfl (fun _ => ⟨rfl, rfl, rfl⟩) rfl (by simp [maxLen])) ?_
  rintro _ _ ⟨a_r1, rfl, rfl⟩
  refine go_p rfl rfl rfl (o_move rfl) ?_
  refine go_op rfl rfl rfl (o_buildSlice_arr (xs := [_]) (f := D.i64) (l := [_]) Try.runUnderlying28 Try.sizeOf3 Try.zeroValue3 rfl rfl rfl (fun _ => ⟨rfl, rfl, rfl⟩) rfl (by simp [maxLen])) ?_
  rintro _ _ ⟨a_r2, m_r2, cap_r2, rfl, rfl⟩
  refine go_p rfl rfl rfl (o_assign rfl) ?_
  refine go_p rfl rfl rfl (o_assign rfl) ?_
  refine go_nil ?_
  refine g_seq ?_
  obtain ⟨o_1, hj1, hm1⟩ := bind_some hm
  refine g_cut_m [] [] (fun (st : ((List Int) × (List Int))) (hid : (Option Addr × Nat × Nat) × (Option Addr × Nat)) => match st, hid with | (l1, l2), ((a_r2, m_r2, cap_r2), (a_r1, cap_r1)) => [(5, .v (.slice a_r1 l2.length cap_r1))]) (fun F (st : ((List Int) × (List Int))) (hid : (Option Addr × Nat × Nat) × (Option Addr × Nat)) => match st, hid with | (l1, l2), ((a_r2, m_r2, cap_r2), (a_r1, cap_r1)) => [arr a_r2 m_r2 cap_r2 3 1 D.i64 l1, row a_r1 cap_r1 3 1 D.i64 l2]) (fun st => st = o_1) trivial trivial ?_ ?_
  · skip
    refine g_block ?_
    refine g_loop_m [(2, _)] [] (fun (st : ((List Int) × (List Int))) (hid : (Option Addr × Nat × Nat) × (Option Addr × Nat)) => match st, hid with | (l3, l4), ((a_r2, m_r2, cap_r2), (a_r1, cap_r1)) => [(5, .v (.slice a_r1 l4.length cap_r1)), (6, .v (.slice a_r2 m_r2 cap_r2))]) (fun F (st : ((List Int) × (List Int))) (hid : (Option Addr × Nat × Nat) × (Option Addr × Nat)) => match st, hid with | (l3, l4), ((a_r2, m_r2, cap_r2), (a_r1, cap_r1)) => [arr a_r2 m_r2 cap_r2 3 1 D.i64 l3, row a_r1 cap_r1 3 1 D.i64 l4]) ((_, _, _), (_, _)) hj1 (fun _ => rfl) ⟨rfl, trivial⟩ trivial ⟨rfl, rfl, trivial⟩ rfl ?_
    rintro n ⟨l3, l4⟩ ⟨⟨a_r2, m_r2, cap_r2⟩, ⟨a_r1, cap_r1⟩⟩ hj1
    rw [m_syntagmaref13_Below_l1] at hj1
    refine g_norm (L' := [(5, .v (.slice a_r1 l4.length cap_r1)), (6, .v (.slice a_r2 m_r2 cap_r2)), (2, _)]) (ms' := [arr a_r2 m_r2 cap_r2 3 1 D.i64 l3, row a_r1 cap_r1 3 1 D.i64 l4]) rfl rfl ?_
    refine g_seq ?_
    refine g_seq ?_
    refine g_region ?_
    refine go_p rfl rfl rfl (o_move rfl) ?_
    refine go_p rfl rfl rfl (o_len_arr 0 Try.runUnderlying28 rfl rfl) ?_
    refine go_p rfl rfl rfl (o_cmp rfl rfl rfl) ?_
    refine go_nil ?_
    refine g_cond rfl (fun hc1 => ?_) (fun hc1 => ?_)
    · replace hj1 := cond_t hc1 hj1
      refine g_skip ?_
      refine g_block ?_
      refine g_seq ?_
      refine g_region ?_
      refine go_p rfl rfl rfl (o_move rfl) ?_
      refine go_p rfl rfl rfl (o_move rfl) ?_
      refine go_p rfl rfl rfl (o_len_arr 0 Try.runUnderlying28 rfl rfl) ?_
      obtain ⟨hg1, hj1⟩ := grd_some hj1
      refine go_p rfl rfl rfl (o_sub rfl rfl (i64_id hg1)) ?_
      obtain ⟨x1, hx2, hj1⟩ := bind_some hj1
      refine go_p rfl rfl rfl (o_indexAddr_arr 0 Try.runUnderlying28 Try.sizeOf3 rfl rfl rfl hx2) ?_
      refine go_p rfl rfl rfl (o_load_arr (off := 0) 0 Try.isAgg3 rfl rfl (idx_some hx2).2 rfl rfl rfl) ?_
      refine go_p rfl rfl rfl (o_assign rfl) ?_
      refine go_nil ?_
      refine g_seq ?_
      refine g_region ?_
      refine go_p rfl rfl rfl (o_move rfl) ?_
      refine go_p rfl rfl rfl (o_move rfl) ?_
      refine go_p rfl rfl rfl (o_len_arr 0 Try.runUnderlying28 rfl rfl) ?_
      obtain ⟨hg3, hj1⟩ := grd_some hj1
      refine go_p rfl rfl rfl (o_sub rfl rfl (i64_id hg3)) ?_
      obtain ⟨l5, hx4, hj1⟩ := bind_some hj1
      refine go_op rfl rfl rfl (o_slice_trunc 0 Try.runUnderlying28 Try.sizeOf3 rfl rfl rfl hx4) ?_
      rintro _ _ ⟨a_r2, m_r2, cap_r2, rfl, rfl⟩
      refine go_p rfl rfl rfl (o_assign rfl) ?_
      refine go_nil ?_
      refine g_seq ?_
      refine g_seq ?_
      refine g_region ?_
      refine go_p rfl rfl rfl (o_move rfl) ?_
      refine go_p rfl rfl rfl (o_move rfl) ?_
      obtain ⟨x2, hx5, hj1⟩ := bind_some hj1
      refine go_p rfl rfl rfl (.view (peekE (i := 27) 1 rfl rfl rfl) (o_call0 Try.call97 rfl (w_syntagmabase_HasInt hx5))) ?_
      refine go_nil ?_
      refine g_cond rfl (fun hc2 => ?_) (fun hc2 => ?_)
      · replace hj1 := cond_t hc2 hj1
        refine g_exit ?_
        exact ⟨_, ((_, _, _), (_, _)), hj1, ⟨rfl, rfl, trivial⟩, ⟨rfl, trivial⟩, [], rfl⟩
      · replace hj1 := cond_f hc2 hj1
        refine g_skip ?_
        refine g_seq ?_
        refine g_region ?_
        refine go_p rfl rfl rfl (o_move rfl) ?_
        refine go_p rfl rfl rfl (o_move rfl) ?_
        refine go_p rfl rfl rfl (o_buildSlice (xs := [_]) (f := D.i64) (l := [_]) Try.runUnderlying28 Try.sizeOf3 Try.zeroValue3 rfl rfl rfl (fun _ => ⟨rfl, rfl, rfl⟩) rfl) ?_
        obtain ⟨hg6, hj1⟩ := grd_some hj1
        refine go_op rfl rfl rfl (o_append (a := _) 1 Try.underlying28 Try.type3 rfl rfl rfl rfl rfl rfl rfl (fun _ => rfl) (fun _ => rfl) hg6 (app_len hg6 rfl)) ?_
        rintro _ _ ⟨a_r1, cap_r1, rfl, rfl⟩
        refine go_ms (ms' := [_, _]) rfl ?_
        refine go_p rfl rfl rfl (o_assign rfl) ?_
        refine go_nil ?_
        refine g_seq ?_
        refine g_region ?_
        refine go_p rfl rfl rfl (o_fieldAddr fi_53_0 rfl rfl rfl) ?_
        refine go_p rfl rfl rfl (o_load Try.isAgg51 rfl rfl) ?_
        refine go_p rfl rfl rfl (o_move rfl) ?_
        obtain ⟨x3, hx7, hj1⟩ := bind_some hj1
        refine go_p rfl rfl rfl (o_indexAddr_m Try.runUnderlying51 Try.sizeOf56 rfl rfl hx7) ?_
        refine go_p rfl rfl rfl (o_load_agg Try.isAgg56 Try.sizeOf56 rfl rfl) ?_
        obtain ⟨x4, hx8, hj1⟩ := bind_some hj1
        refine go_p rfl rfl rfl (o_call0 Try.call33 rfl (w_syntagmaref13_Kids hx8)) ?_
        refine go_p rfl rfl rfl (o_assign rfl) ?_
        refine go_nil ?_
        refine g_seq ?_
        refine g_region ?_
        refine go_p rfl rfl rfl (o_move rfl) ?_
        refine go_p rfl rfl rfl (o_len Try.runUnderlying28 rfl) ?_
        obtain ⟨hg9, hj1⟩ := grd_some hj1
        refine go_p rfl rfl rfl (o_sub rfl rfl (i64_id hg9)) ?_
        refine go_p rfl rfl rfl (o_assign rfl) ?_
        refine go_nil ?_
        obtain ⟨o_2, hj2, hm2⟩ := bind_some hj1
        refine g_cut_m [(2, _), (5, _)] [(1, _)] (fun (st : (List Int)) (hid : (Option Addr × Nat × Nat)) => match st, hid with | l6, (a_r2, m_r2, cap_r2) => [(6, .v (.slice a_r2 m_r2 cap_r2))]) (fun F (st : (List Int)) (hid : (Option Addr × Nat × Nat)) => match st, hid with | l6, (a_r2, m_r2, cap_r2) => [arr a_r2 m_r2 cap_r2 3 1 D.i64 l6, (nthF F 0)]) (fun st => st = o_2) ⟨rfl, rfl, trivial⟩ ⟨rfl, trivial⟩ ?_ ?_
        · skip
          refine g_block ?_
          refine g_loop_m [(2, _), (5, _), (8, _)] [(1, _)] (fun (st : (Int × (List Int))) (hid : (Option Addr × Nat × Nat)) => match st, hid with | (j1, l7), (a_r2, m_r2, cap_r2) => [(6, .v (.slice a_r2 m_r2 cap_r2)), (9, .i64 j1)]) (fun F (st : (Int × (List Int))) (hid : (Option Addr × Nat × Nat)) => match st, hid with | (j1, l7), (a_r2, m_r2, cap_r2) => [arr a_r2 m_r2 cap_r2 3 1 D.i64 l7, (nthF F 0)]) (_, _, _) hj2 (fun _ => rfl) ⟨rfl, rfl, rfl, trivial⟩ ⟨rfl, trivial⟩ ⟨rfl, rfl, trivial⟩ rfl ?_
          rintro n ⟨j1, l7⟩ ⟨a_r2, m_r2, cap_r2⟩ hj2
          rw [m_syntagmaref13_Below_l2] at hj2
          refine g_norm (L' := [(6, .v (.slice a_r2 m_r2 cap_r2)), (9, .i64 j1), (2, _), (5, _), (8, _)]) (ms' := [arr a_r2 m_r2 cap_r2 3 1 D.i64 l7, _]) rfl rfl ?_
          refine g_seq ?_
          refine g_seq ?_
          refine g_region ?_
          refine go_p rfl rfl rfl (o_move rfl) ?_
          refine go_p rfl rfl rfl (o_cmp rfl rfl rfl) ?_
          refine go_nil ?_
          refine g_cond rfl (fun hc3 => ?_) (fun hc3 => ?_)
          · replace hj2 := cond_t hc3 hj2
            refine g_skip ?_
            refine g_seq ?_
            refine g_block ?_
            refine g_region ?_
            refine go_p rfl rfl rfl (o_move rfl) ?_
            refine go_p rfl rfl rfl (o_move rfl) ?_
            refine go_p rfl rfl rfl (o_move rfl) ?_
            obtain ⟨x5, hx10, hj2⟩ := bind_some hj2
            refine go_p rfl rfl rfl (o_indexAddr_m Try.runUnderlying28 Try.sizeOf3 rfl rfl hx10) ?_
            refine go_p rfl rfl rfl (o_load Try.isAgg3 rfl rfl) ?_
            refine go_p rfl rfl rfl (o_buildSlice (xs := [_]) (f := D.i64) (l := [_]) Try.runUnderlying28 Try.sizeOf3 Try.zeroValue3 rfl rfl rfl (fun _ => ⟨rfl, rfl, rfl⟩) rfl) ?_
            obtain ⟨hg11, hj2⟩ := grd_some hj2
            refine go_op rfl rfl rfl (o_append_own (a := _) 0 Try.underlying28 Try.type3 rfl rfl rfl rfl rfl rfl (fun _ => rfl) (fun _ => rfl) hg11 (app_len hg11 rfl)) ?_
            rintro _ _ ⟨a_r2, m_r2, cap_r2, rfl, rfl⟩
            refine go_ms (ms' := [_, _]) rfl ?_
            refine go_p rfl rfl rfl (o_assign rfl) ?_
            refine go_nil ?_
            refine g_region ?_
            refine go_p rfl rfl rfl (o_move rfl) ?_
            obtain ⟨hg12, hj2⟩ := grd_some hj2
            refine go_p rfl rfl rfl (o_sub rfl rfl (i64_id hg12)) ?_
            refine go_p rfl rfl rfl (o_assign rfl) ?_
            refine go_nil ?_
            exact ⟨_, (_, _, _), hj2, ⟨rfl, rfl, trivial⟩, ⟨rfl, rfl, rfl, trivial⟩, [], rfl⟩
          · replace hj2 := cond_f hc3 hj2
            refine g_exit ?_
            exact ⟨_, (_, _, _), some_eq hj2, ⟨rfl, trivial⟩, ⟨rfl, rfl, trivial⟩, [], rfl⟩
        · rintro l6 ⟨a_r2, m_r2, cap_r2⟩ hst
          subst hst
          refine k_norm (L' := [(6, .v (.slice a_r2 m_r2 cap_r2)), (2, _), (5, _)]) (ms' := [arr a_r2 m_r2 cap_r2 3 1 D.i64 l6, _]) rfl rfl ?_
          exact ⟨_, ((_, _, _), (_, _)), hm2, ⟨rfl, rfl, trivial⟩, ⟨rfl, trivial⟩, [], rfl⟩
    · replace hj1 := cond_f hc1 hj1
      refine g_exit ?_
      exact ⟨_, ((_, _, _), (_, _)), some_eq hj1, ⟨rfl, trivial⟩, trivial, [], rfl⟩
  · rintro ⟨l1, l2⟩ ⟨⟨a_r2, m_r2, cap_r2⟩, ⟨a_r1, cap_r1⟩⟩ hst
    subst hst
    refine k_norm (L' := [(5, .v (.slice a_r1 l2.length cap_r1))]) (ms' := [arr a_r2 m_r2 cap_r2 3 1 D.i64 l1, row a_r1 cap_r1 3 1 D.i64 l2]) rfl rfl ?_
    refine g_seq ?_
    refine g_region ?_
    refine go_p rfl rfl rfl (o_move rfl) ?_
    refine go_p rfl rfl rfl (o_assign rfl) ?_
    refine go_nil ?_
    refine g_conv (peekE (i := 4) 1 rfl rfl rfl).refines ?_
    refine g_ret ?_
    exact retK (ret_one' rfl (ret_tmp rfl) (perm_drop _)) (congrArg (fun (p : (List Int)) => (.list 1 D.i64 p : D)) (some_eq hm1))
def m_graph_Vars_r1 (t1 : ApiType) : List Int → (List Int) → Option (List Int)
  | [], l2 =>
    some l2
  | x2 :: rr, l2 =>
    (idx t1.l x2).bind fun x3 =>
    bif (decide (x3.kind = 11)) then
      grd ((l2.length + ([x3.a] : List _).length) * 8 ≤ 140737488355328) <|
      m_graph_Vars_r1 t1 rr (l2 ++ [x3.a])
    else
      m_graph_Vars_r1 t1 rr l2
def m_graph_Vars (t1 : ApiType) : Option (List Int) :=
  (m_graph_May t1).bind fun x1 =>
  bif (!decide (x1 = 0)) then
    some []
  else
    ((m_below t1 t1.root).bind fun xs1 =>
    m_graph_Vars_r1 t1 xs1 [] : Option (List Int)).bind fun l1 =>
    grd (l1.length < 4611686018427387904) <|
    some (Lib.compact (List.mergeSort l1 fun x y => decide (x ≤ y)))
theorem w_graph_Vars {t1 : ApiType} {r_1 : (List Int)} (hm : m_graph_Vars t1 = some r_1) : Fn0 Try.prog 34 [ApiType.d t1] (.list 1 D.i64 r_1) := by
  unfold m_graph_Vars at hm
  refine fn_intro Try.func34 rfl Try.ntmps34 rfl fun H0 fr w0 => ?_
  refine g_seq ?_
  refine g_region ?_
  refine go_p rfl rfl rfl (o_box rfl rfl) ?_
  refine go_p rfl rfl rfl (o_assign rfl) ?_
  refine go_conv (nilE (i := 2) (sz := 1) (f := D.i64) rfl).refines ?_
  refine go_nil ?_
  refine g_seq ?_
  refine g_seq ?_
  refine g_region ?_
  refine go_p rfl rfl rfl (o_load_agg Try.isAgg53 Try.sizeOf53 rfl rfl) ?_
  obtain ⟨x1, hx1, hm⟩ := bind_some hm
  refine go_p rfl rfl rfl (o_call0 Try.call31 rfl (w_graph_May hx1)) ?_
  refine go_p rfl rfl rfl (o_cmp rfl rfl rfl) ?_
  refine go_nil ?_
  refine g_cond rfl (fun hc1 => ?_) (fun hc1 => ?_)
  · replace hm := cond_t hc1 hm
    refine g_seq ?_
    refine g_region ?_
    refine go_p rfl rfl rfl (o_assign rfl) ?_
    refine go_conv (nilE (i := 2) (sz := 1) (f := D.i64) rfl).refines ?_
    refine go_nil ?_
    refine g_ret ?_
    exact retK (ret_one' rfl (ret_tmp rfl) (perm_drop _)) (congrArg (fun (p : (List Int)) => (.list 1 D.i64 p : D)) (some_eq hm))
  · replace hm := cond_f hc1 hm
    refine g_skip ?_
    refine g_seq ?_
    refine g_region ?_
    refine go_op rfl rfl rfl (o_alloc_own Try.zeroValue28 (cs := [.v (.slice none 0 0)]) rfl) ?_
    rintro _ _ ⟨b1, rfl, rfl⟩
    refine go_conv (refines_newarr (T := 3) (sz := 1) (f := D.i64)) ?_
    refine go_nil ?_
    refine g_seq ?_
    refine g_seq ?_
    refine g_region ?_
    refine go_p rfl rfl rfl (o_load_agg Try.isAgg53 Try.sizeOf53 rfl rfl) ?_
    refine go_p rfl rfl rfl (o_fieldAddr fi_53_1 rfl rfl rfl) ?_
    refine go_p rfl rfl rfl (o_load Try.isAgg3 rfl rfl) ?_
    refine go_p rfl rfl rfl (o_call0 Try.call79 rfl w_below) ?_
    refine go_nil ?_
    obtain ⟨o_1, hj1, hm1⟩ := bind_some hm
    refine g_cut_m [(3, _)] [] (fun (st : (List Int)) (hid : (Option Addr × Nat × Nat)) => match st, hid with | l1, (a_r1, m_r1, cap_r1) => []) (fun F (st : (List Int)) (hid : (Option Addr × Nat × Nat)) => match st, hid with | l1, (a_r1, m_r1, cap_r1) => [arr a_r1 m_r1 cap_r1 3 1 D.i64 l1, box b1 28 [.v (.slice a_r1 m_r1 cap_r1)]]) (fun st => st = o_1) ⟨rfl, trivial⟩ trivial ?_ ?_
    · skip
      refine g_block ?_
      obtain ⟨xs1, hx2, hj1⟩ := bind_some hj1
      refine g_range_m (fun (p : Int) => [.i64 p]) [] (fun F (st : (List Int)) (hid : (Option Addr × Nat × Nat)) => match st, hid with | l2, (a_r1, m_r1, cap_r1) => [arr a_r1 m_r1 cap_r1 3 1 D.i64 l2, box b1 28 [.v (.slice a_r1 m_r1 cap_r1)]]) (_, _, _) hj1 trivial rfl rfl Try.call118 (it_below hx2) (fun _ => rfl) rfl ?_ ?_
      · rintro H0r frr ror w0r hrr x2 rr l2 ⟨a_r1, m_r1, cap_r1⟩ hj1
        rw [m_graph_Vars_r1] at hj1
        refine g_norm (ms' := [arr a_r1 m_r1 cap_r1 3 1 D.i64 l2, box b1 28 [.v (.slice a_r1 m_r1 cap_r1)]]) rfl rfl ?_
        refine g_region ?_
        refine go_p rfl rfl rfl (o_assign rfl) ?_
        refine go_nil ?_
        intro H0r frr ror w0r hrr
        refine g_block ?_
        refine g_seq ?_
        refine g_region ?_
        refine go_p rfl rfl rfl (o_fieldAddr fi_53_0 rfl rfl rfl) ?_
        refine go_p rfl rfl rfl (o_load Try.isAgg51 rfl rfl) ?_
        refine go_p rfl rfl rfl (o_move rfl) ?_
        obtain ⟨x3, hx3, hj1⟩ := bind_some hj1
        refine go_p rfl rfl rfl (o_indexAddr_m Try.runUnderlying51 Try.sizeOf56 rfl rfl hx3) ?_
        refine go_p rfl rfl rfl (o_load_agg Try.isAgg56 Try.sizeOf56 rfl rfl) ?_
        refine go_op rfl rfl rfl (o_alloc_own Try.zeroValue56 (cs := [.i64 0, .i64 0, .i64 0, .list 2 ApiTField.d []]) rfl) ?_
        rintro _ _ ⟨b2, rfl, rfl⟩
        refine go_u rfl rfl (o_store_box 0 Try.sizeOf56 rfl rfl rfl rfl rfl rfl rfl rfl (Nat.le_of_ble_eq_true rfl)) ?_
        rintro _ _ rfl
        refine go_ms (ms' := [box b2 56 [_, _, _, _], _, box b1 28 [_]]) rfl ?_
        refine go_nil ?_
        refine g_seq ?_
        refine g_region ?_
        refine go_p rfl rfl rfl (o_fieldAddr_box fi_56_0 rfl) ?_
        refine go_p rfl rfl rfl (o_load_box 0 Try.isAgg3 rfl rfl rfl rfl) ?_
        refine go_p rfl rfl rfl (o_cmp rfl rfl rfl) ?_
        refine go_nil ?_
        refine g_cond rfl (fun hc2 => ?_) (fun hc2 => ?_)
        · replace hj1 := cond_t hc2 hj1
          refine g_region ?_
          refine go_p rfl rfl rfl (o_load_box 2 Try.isAgg28 rfl rfl rfl rfl) ?_
          refine go_p rfl rfl rfl (o_fieldAddr_box fi_56_1 rfl) ?_
          refine go_p rfl rfl rfl (o_load_box 0 Try.isAgg3 rfl rfl rfl rfl) ?_
          refine go_p rfl rfl rfl (o_buildSlice (xs := [_]) (f := D.i64) (l := [_]) Try.runUnderlying28 Try.sizeOf3 Try.zeroValue3 rfl rfl rfl (fun _ => ⟨rfl, rfl, rfl⟩) rfl) ?_
          obtain ⟨hg4, hj1⟩ := grd_some hj1
          refine go_op rfl rfl rfl (o_append_own (a := _) 1 Try.underlying28 Try.type3 rfl rfl rfl rfl rfl rfl (fun _ => rfl) (fun _ => rfl) hg4 (app_len hg4 rfl)) ?_
          rintro _ _ ⟨a_r1, m_r1, cap_r1, rfl, rfl⟩
          refine go_ms (ms' := [box b2 56 [_, _, _, _], _, box b1 28 [_]]) rfl ?_
          refine go_u rfl rfl (o_store_box 2 Try.sizeOf28 rfl rfl rfl rfl rfl rfl rfl rfl (Nat.le_of_ble_eq_true rfl)) ?_
          rintro _ _ rfl
          refine go_ms (ms' := [box b2 56 [_, _, _, _], _, box b1 28 [_]]) rfl ?_
          refine go_nil ?_
          exact ⟨_, (_, _, _), hj1, [_], rfl⟩
        · replace hj1 := cond_f hc2 hj1
          refine g_skip ?_
          exact ⟨_, (_, _, _), hj1, [_], rfl⟩
      · rintro l2 ⟨a_r1, m_r1, cap_r1⟩ hj1
        rw [m_graph_Vars_r1] at hj1
        refine k_norm (ms' := [arr a_r1 m_r1 cap_r1 3 1 D.i64 l2, box b1 28 [.v (.slice a_r1 m_r1 cap_r1)]]) rfl rfl ?_
        exact ⟨_, (_, _, _), some_eq hj1, trivial, ⟨rfl, trivial⟩, [], rfl⟩
    · rintro l1 ⟨a_r1, m_r1, cap_r1⟩ hst
      subst hst
      refine k_norm (L' := [(3, _)]) (ms' := [arr a_r1 m_r1 cap_r1 3 1 D.i64 l1, box b1 28 [.v (.slice a_r1 m_r1 cap_r1)]]) rfl rfl ?_
      refine g_seq ?_
      refine g_region ?_
      refine go_p rfl rfl rfl (o_load_box 1 Try.isAgg28 rfl rfl rfl rfl) ?_
      obtain ⟨hg5, hm1⟩ := grd_some hm1
      refine go_op rfl rfl rfl (o_call_own [0] Try.call80 rfl rfl (getL_c rfl getL_n) (fn_sort_int sh_slices_Sort_int sh_slices_Sort_int_none hg5) (by rintro _ _ ⟨_, rfl⟩; rfl)) ?_
      rintro _ _ ⟨_, ⟨rfl, rfl⟩, rfl⟩
      refine go_ms (ms' := [_, box b1 28 [_]]) rfl ?_
      refine go_nil ?_
      refine g_seq ?_
      refine g_region ?_
      refine go_p rfl rfl rfl (o_load_box 1 Try.isAgg28 rfl rfl rfl rfl) ?_
      refine go_op rfl rfl rfl (o_call_own [0] Try.call81 rfl rfl (getL_c rfl getL_n) (fn_compact_int sh_slices_Compact_int sh_slices_Compact_int_empty) (by rintro _ _ ⟨_, _, rfl⟩; rfl)) ?_
      rintro _ _ ⟨_, ⟨m_r1, rfl, rfl⟩, rfl⟩
      refine go_ms (ms' := [_, box b1 28 [_]]) rfl ?_
      refine go_p rfl rfl rfl (o_assign rfl) ?_
      refine go_nil ?_
      refine g_thaw 0 rfl rfl ?_
      rintro rfl
      refine g_conv (peekE (i := 2) 0 rfl rfl rfl).refines ?_
      refine g_ret ?_
      exact retK (ret_one' rfl (ret_tmp rfl) (perm_drop _)) (congrArg (fun (p : (List Int)) => (.list 1 D.i64 p : D)) (some_eq hm1))
def m_graph_Ground (t1 : ApiType) : Option Bool :=
  (m_graph_May t1).bind fun x1 =>
  (bif (decide (x1 = 0)) then ((m_graph_Vars t1).bind fun x2 =>
  some (decide ((x2.length : Int) = 0))) else (some false)).bind fun p1 =>
  some p1
theorem w_graph_Ground {t1 : ApiType} {r_1 : Bool} (hm : m_graph_Ground t1 = some r_1) : Fn0 Try.prog 35 [ApiType.d t1] (.bool r_1) := by
  unfold m_graph_Ground at hm
  refine fn_intro Try.func35 rfl Try.ntmps35 rfl fun H0 fr w0 => ?_
  refine g_seq ?_
  refine g_region ?_
  refine go_p rfl rfl rfl (o_box rfl rfl) ?_
  refine go_p rfl rfl rfl (o_assign rfl) ?_
  refine go_nil ?_
  refine g_seq ?_
  refine g_region ?_
  refine go_p rfl rfl rfl (o_load_agg Try.isAgg53 Try.sizeOf53 rfl rfl) ?_
  obtain ⟨x1, hx1, hm⟩ := bind_some hm
  refine go_p rfl rfl rfl (o_call0 Try.call31 rfl (w_graph_May hx1)) ?_
  refine go_p rfl rfl rfl (o_cmp rfl rfl rfl) ?_
  refine go_p rfl rfl rfl (o_move rfl) ?_
  obtain ⟨p1, hp_1, hm⟩ := bind_some hm
  refine go_two [] 5 11 p1 (t := 6) trivial rfl (fun hg_1 hk1 => ?_) (fun hg_1 hk1 => ?_) ?_
  · replace hp_1 := cond_t hg_1 hp_1
    refine go_wantp rfl rfl rfl hg_1 rfl rfl (o_load_agg Try.isAgg53 Try.sizeOf53 rfl rfl) ?_
    obtain ⟨x2, hx2, hp_1⟩ := bind_some hp_1
    refine go_wantp rfl rfl rfl hg_1 rfl rfl (o_call0 Try.call34 rfl (w_graph_Vars hx2)) ?_
    refine go_wantp rfl rfl rfl hg_1 rfl rfl (o_len Try.runUnderlying28 rfl) ?_
    refine go_wantp rfl rfl rfl hg_1 rfl rfl (o_cmp rfl rfl rfl) ?_
    refine go_p rfl rfl rfl (o_pickT rfl hg_1 rfl) ?_
    exact go_meet hk1 (congrArg (fun b => some (D.bool b)) (some_eq hp_1)) trivial
  · replace hp_1 := cond_f hg_1 hp_1
    refine go_skip rfl rfl rfl hg_1 rfl rfl ?_
    refine go_skip rfl rfl rfl hg_1 rfl rfl ?_
    refine go_skip rfl rfl rfl hg_1 rfl rfl ?_
    refine go_skip rfl rfl rfl hg_1 rfl rfl ?_
    refine go_p rfl rfl rfl (o_pickF rfl hg_1 rfl) ?_
    exact go_meet hk1 (congrArg (fun b => some (D.bool b)) (some_eq hp_1)) trivial
  refine go_p rfl rfl rfl (o_assign rfl) ?_
  refine go_nil ?_
  refine g_ret ?_
  exact retK (ret_one' rfl (ret_tmp rfl) (perm_drop _)) (congrArg (fun (p : Bool) => (.bool p : D)) (some_eq hm))
def m_graph_moved_l1 (to1 : (Int → Option Int)) (z4 : (List ApiTField)) : Nat → (Int × (List ApiTField) × Int × Int × Int) → Option ((List ApiTField) × Int × Int × Int)
  | 0, _ => none
  | n + 1, (x4, l2, z8, z9, z10) =>
    bif (decide (x4 < (z4.length : Int))) then
      (idx l2 x4).bind fun x5 =>
      (to1 x5.at_).bind fun x6 =>
      (idx l2 x4).bind fun x7 =>
      grd (InR (x4 + 1)) <|
      m_graph_moved_l1 to1 z4 n ((x4 + 1), (l2.set (x4).toNat (⟨x7.name, x6⟩ : ApiTField)), z8, z9, z10)
    else
      some (l2, z8, z9, z10)
def m_graph_moved (n1 : ApiTNode) (to1 : (Int → Option Int)) : Option ApiTNode :=
  (m_graph_pair n1.kind).bind fun x1 =>
  (bif x1 then
    (to1 n1.a).bind fun x2 =>
    (to1 n1.b).bind fun x3 =>
    some (n1.kind, x2, x3, n1.l)
  else
    some (n1.kind, n1.a, n1.b, n1.l) : Option (Int × Int × Int × (List ApiTField))).bind fun (z1, z2, z3, z4) =>
  grd (z4.length * 24 ≤ 140737488355328) <|
  (m_graph_moved_l1 to1 z4 FU (0, z4, z1, z2, z3) : Option ((List ApiTField) × Int × Int × Int)).bind fun (l1, z5, z6, z7) =>
  some (⟨z5, z6, z7, l1⟩ : ApiTNode)
theorem w_graph_moved {n1 : ApiTNode} {to1 : (Int → Option Int)} {r_1 : ApiTNode} {tl_0 : List Asrt} {fv_to1 : D} (hfto1 : FunOk1T Try.prog fv_to1 D.i64 D.i64 tl_0 to1) (hm : m_graph_moved n1 to1 = some r_1) : FnT Try.prog 84 [ApiTNode.d n1, fv_to1] tl_0 (ApiTNode.d r_1) := by
  unfold m_graph_moved at hm
  refine fn_intro Try.func84 rfl Try.ntmps84 rfl fun H0 fr w0 => ?_
  refine g_seq ?_
  refine g_region ?_
  refine go_op rfl rfl rfl (o_box_own rfl rfl rfl) ?_
  rintro _ _ ⟨b1, rfl, rfl⟩
  refine go_op rfl rfl rfl (o_alloc_own Try.zeroValue56 (cs := [.i64 0, .i64 0, .i64 0, .list 2 ApiTField.d []]) rfl) ?_
  rintro _ _ ⟨b2, rfl, rfl⟩
  refine go_nil ?_
  refine g_seq ?_
  refine g_seq ?_
  refine g_region ?_
  refine go_p rfl rfl rfl (o_fieldAddr_box fi_56_0 rfl) ?_
  refine go_p rfl rfl rfl (o_load_box 1 Try.isAgg3 rfl rfl rfl rfl) ?_
  obtain ⟨x1, hx1, hm⟩ := bind_some hm
  refine go_p rfl rfl rfl (o_call0 Try.call77 rfl (w_graph_pair hx1)) ?_
  refine go_nil ?_
  obtain ⟨o_1, hj1, hm1⟩ := bind_some hm
  refine g_cut_m [(1, _), (2, _), (4, _)] [(0, _)] (fun (st : (Int × Int × Int × (List ApiTField))) (hid : Unit) => match st, hid with | (z1, z2, z3, z4), _ => []) (fun F (st : (Int × Int × Int × (List ApiTField))) (hid : Unit) => match st, hid with | (z1, z2, z3, z4), _ => [(nthF F 0), box b1 56 [.i64 z1, .i64 z2, .i64 z3, .list 2 ApiTField.d z4]] ++ tl_0) (fun st => st = o_1) ⟨rfl, rfl, rfl, trivial⟩ ⟨rfl, trivial⟩ ?_ ?_
  · skip
    refine g_cond rfl (fun hc1 => ?_) (fun hc1 => ?_)
    · replace hj1 := cond_t hc1 hj1
      obtain ⟨x2, hx2, hj1⟩ := bind_some hj1
      obtain ⟨x3, hx3, hj1⟩ := bind_some hj1
      refine g_draw 9 Try_mixed (by decide +kernel) ?_
      refine gd_p rfl rfl rfl (o_move rfl) ?_
      refine gd_p rfl rfl rfl (o_fieldAddr_box fi_56_1 rfl) ?_
      refine gd_p rfl rfl rfl (o_load_box 1 Try.isAgg3 rfl rfl rfl rfl) ?_
      refine gd_p rfl rfl rfl (o_callv_t (tl := tl_0) [_, _] rfl rfl rfl (hfto1 _ _ hx2)) ?_
      refine gd_p rfl rfl rfl (o_move rfl) ?_
      refine gd_p rfl rfl rfl (o_fieldAddr_box fi_56_2 rfl) ?_
      refine gd_p rfl rfl rfl (o_load_box 1 Try.isAgg3 rfl rfl rfl rfl) ?_
      refine gd_p rfl rfl rfl (o_callv_t (tl := tl_0) [_, _] rfl rfl rfl (hfto1 _ _ hx3)) ?_
      refine gd_p rfl rfl rfl (o_fieldAddr_box fi_56_1 rfl) ?_
      refine gd_nil ?_
      refine go_u rfl rfl (o_store_box 1 Try.sizeOf3 rfl rfl rfl rfl rfl rfl rfl rfl (Nat.le_of_ble_eq_true rfl)) ?_
      rintro _ _ rfl
      refine go_ms (ms' := [box b2 56 [_, _, _, _], box b1 56 [_, _, _, _]] ++ tl_0) rfl ?_
      refine go_p rfl rfl rfl (o_fieldAddr_box fi_56_2 rfl) ?_
      refine go_u rfl rfl (o_store_box 1 Try.sizeOf3 rfl rfl rfl rfl rfl rfl rfl rfl (Nat.le_of_ble_eq_true rfl)) ?_
      rintro _ _ rfl
      refine go_ms (ms' := [box b2 56 [_, _, _, _], box b1 56 [_, _, _, _]] ++ tl_0) rfl ?_
      refine go_nil ?_
      exact ⟨_, (), some_eq hj1, trivial, ⟨rfl, rfl, rfl, trivial⟩, [], rfl⟩
    · replace hj1 := cond_f hc1 hj1
      refine g_skip ?_
      exact ⟨_, (), some_eq hj1, trivial, ⟨rfl, rfl, rfl, trivial⟩, [], rfl⟩
  · rintro ⟨z1, z2, z3, z4⟩ _ hst
    subst hst
    refine k_norm (L' := [(1, _), (2, _), (4, _)]) (ms' := [_, box b1 56 [.i64 z1, .i64 z2, .i64 z3, .list 2 ApiTField.d z4]] ++ tl_0) rfl rfl ?_
    refine g_seq ?_
    refine g_region ?_
    refine go_p rfl rfl rfl (o_fieldAddr_box fi_56_3 rfl) ?_
    refine go_p rfl rfl rfl (o_load_box 1 Try.isAgg54 rfl rfl rfl rfl) ?_
    obtain ⟨hg4, hm1⟩ := grd_some hm1
    refine go_op rfl rfl rfl (o_call (ms₁ := []) Try.call106 rfl (List.Perm.refl _) (w_Clone_106 hg4)) ?_
    rintro _ _ ⟨_, ⟨a_r1, cap_r1, rfl, rfl⟩, rfl⟩
    generalize hm_r1 : z4.length = m_r1
    clear hm_r1
    refine go_p rfl rfl rfl (o_fieldAddr_box fi_56_3 rfl) ?_
    refine go_u rfl rfl (o_store_box 2 Try.sizeOf54 rfl rfl rfl rfl rfl rfl rfl rfl (Nat.le_of_ble_eq_true rfl)) ?_
    rintro _ _ rfl
    refine go_ms (ms' := [_, box b2 56 [_, _, _, _], box b1 56 [_, _, _, _]] ++ tl_0) rfl ?_
    refine go_nil ?_
    refine g_seq ?_
    refine g_seq ?_
    refine g_region ?_
    refine go_p rfl rfl rfl (o_fieldAddr_box fi_56_3 rfl) ?_
    refine go_p rfl rfl rfl (o_load_box 2 Try.isAgg54 rfl rfl rfl rfl) ?_
    refine go_p rfl rfl rfl (o_len_arr 0 Try.runUnderlying54 rfl rfl) ?_
    refine go_p rfl rfl rfl (o_move rfl) ?_
    refine go_nil ?_
    obtain ⟨o_2, hj2, hm2⟩ := bind_some hm1
    refine g_cut_m [(2, _), (4, _)] [(1, _)] (fun (st : ((List ApiTField) × Int × Int × Int)) (hid : Unit) => match st, hid with | (l1, z5, z6, z7), _ => []) (fun F (st : ((List ApiTField) × Int × Int × Int)) (hid : Unit) => match st, hid with | (l1, z5, z6, z7), _ => [arr a_r1 m_r1 cap_r1 100 2 ApiTField.d l1, (nthF F 0), box b1 56 [.i64 z5, .i64 z6, .i64 z7, .v (.slice a_r1 m_r1 cap_r1)]] ++ tl_0) (fun st => st = o_2) ⟨rfl, rfl, trivial⟩ ⟨rfl, trivial⟩ ?_ ?_
    · skip
      refine g_block ?_
      refine g_loop_m [(1, _), (2, _), (4, _), (25, _)] [(1, _)] (fun (st : (Int × (List ApiTField) × Int × Int × Int)) (hid : Unit) => match st, hid with | (x4, l2, z8, z9, z10), _ => [(26, .i64 x4)]) (fun F (st : (Int × (List ApiTField) × Int × Int × Int)) (hid : Unit) => match st, hid with | (x4, l2, z8, z9, z10), _ => [arr a_r1 m_r1 cap_r1 100 2 ApiTField.d l2, (nthF F 0), box b1 56 [.i64 z8, .i64 z9, .i64 z10, .v (.slice a_r1 m_r1 cap_r1)]] ++ tl_0) () hj2 (fun _ => rfl) ⟨rfl, rfl, rfl, rfl, trivial⟩ ⟨rfl, trivial⟩ ⟨rfl, trivial⟩ rfl ?_
      rintro n ⟨x4, l2, z8, z9, z10⟩ ⟨⟩ hj2
      rw [m_graph_moved_l1] at hj2
      refine g_norm (L' := [(26, .i64 x4), (1, _), (2, _), (4, _), (25, _)]) (ms' := [arr a_r1 m_r1 cap_r1 100 2 ApiTField.d l2, _, box b1 56 [.i64 z8, .i64 z9, .i64 z10, .v (.slice a_r1 m_r1 cap_r1)]] ++ tl_0) rfl rfl ?_
      refine g_seq ?_
      refine g_region ?_
      refine go_p rfl rfl rfl (o_cmp rfl rfl rfl) ?_
      refine go_nil ?_
      refine g_seq ?_
      refine g_cond rfl (fun hc2 => ?_) (fun hc2 => ?_)
      · replace hj2 := cond_t hc2 hj2
        refine g_skip ?_
        refine g_seq ?_
        refine g_block ?_
        refine g_seq ?_
        refine g_region ?_
        refine go_p rfl rfl rfl (o_move rfl) ?_
        refine go_p rfl rfl rfl (o_assign rfl) ?_
        refine go_nil ?_
        obtain ⟨x5, hx5, hj2⟩ := bind_some hj2
        obtain ⟨x6, hx6, hj2⟩ := bind_some hj2
        obtain ⟨x7, hx7, hj2⟩ := bind_some hj2
        refine g_draw 13 Try_mixed (by decide +kernel) ?_
        refine gd_p rfl rfl rfl (o_fieldAddr_box fi_56_3 rfl) ?_
        refine gd_p rfl rfl rfl (o_load_box 2 Try.isAgg54 rfl rfl rfl rfl) ?_
        refine gd_p rfl rfl rfl (o_move rfl) ?_
        refine gd_p rfl rfl rfl (o_move rfl) ?_
        refine gd_p rfl rfl rfl (o_fieldAddr_box fi_56_3 rfl) ?_
        refine gd_p rfl rfl rfl (o_load_box 2 Try.isAgg54 rfl rfl rfl rfl) ?_
        refine gd_p rfl rfl rfl (o_move rfl) ?_
        refine gd_p rfl rfl rfl (o_indexAddr_arr 0 Try.runUnderlying54 Try.sizeOf100 rfl rfl rfl hx5) ?_
        refine gd_p rfl rfl rfl (o_fieldAddr_apt (b := 0) 0 fi_100_1 rfl rfl (idx_some hx5).2) ?_
        refine gd_p rfl rfl rfl (o_load_arr (off := 1) 0 Try.isAgg3 rfl rfl (idx_some hx5).2 rfl rfl rfl) ?_
        refine gd_p rfl rfl rfl (o_callv_t (tl := tl_0) [_, _, _] rfl rfl rfl (hfto1 _ _ hx6)) ?_
        refine gd_p rfl rfl rfl (o_indexAddr_arr 0 Try.runUnderlying54 Try.sizeOf100 rfl rfl rfl hx7) ?_
        refine gd_p rfl rfl rfl (o_fieldAddr_apt (b := 0) 0 fi_100_1 rfl rfl (idx_some hx7).2) ?_
        refine gd_nil ?_
        refine go_u rfl rfl (o_store_arr (off := 1) (z' := (⟨x7.name, x6⟩ : ApiTField)) 0 Try.sizeOf3 rfl rfl (idx_some hx7).2 rfl rfl rfl rfl rfl rfl (Nat.le_of_ble_eq_true rfl) rfl rfl) ?_
        rintro _ _ rfl
        refine go_ms (ms' := [_, box b2 56 [_, _, _, _], box b1 56 [_, _, _, _]] ++ tl_0) rfl ?_
        refine go_nil ?_
        refine g_region ?_
        obtain ⟨hg8, hj2⟩ := grd_some hj2
        refine go_p rfl rfl rfl (o_add rfl rfl (i64_id hg8)) ?_
        refine go_p rfl rfl rfl (o_move rfl) ?_
        refine go_nil ?_
        exact ⟨_, (), hj2, ⟨rfl, trivial⟩, ⟨rfl, rfl, rfl, rfl, trivial⟩, [], rfl⟩
      · replace hj2 := cond_f hc2 hj2
        refine g_exit ?_
        exact ⟨_, (), some_eq hj2, trivial, ⟨rfl, rfl, trivial⟩, [], rfl⟩
    · rintro ⟨l1, z5, z6, z7⟩ ⟨⟩ hst
      subst hst
      refine k_norm (L' := [(2, _), (4, _)]) (ms' := [arr a_r1 m_r1 cap_r1 100 2 ApiTField.d l1, _, box b1 56 [.i64 z5, .i64 z6, .i64 z7, .v (.slice a_r1 m_r1 cap_r1)]] ++ tl_0) rfl rfl ?_
      refine g_seq ?_
      refine g_region ?_
      refine go_thaw 0 rfl rfl ?_
      rintro rfl
      refine go_p rfl rfl rfl (o_load_box_agg 2 Try.isAgg56 Try.sizeOf56 rfl rfl rfl rfl (Nat.le_of_ble_eq_true rfl)) ?_
      refine go_conv (peekAggE (i := 43) (q := 3) 0 rfl rfl rfl rfl rfl).refines ?_
      refine go_u rfl rfl (o_store_box 1 Try.sizeOf56 rfl rfl rfl rfl rfl rfl rfl rfl (Nat.le_of_ble_eq_true rfl)) ?_
      rintro _ _ rfl
      refine go_ms (ms' := [_, box b2 56 [_, _, _, _], box b1 56 [_, _, _, _]] ++ tl_0) rfl ?_
      refine go_nil ?_
      refine g_ret ?_
      exact retK (ret_one' (ms' := tl_0) (drop := [_, _, _]) rfl (ret_cell 1 rfl rfl rfl Try.isAgg56 Try.sizeOf56 rfl) (List.Perm.refl _)) ⟨congrArg (fun (p : ApiTNode) => (ApiTNode.d p : D)) (some_eq hm2), rfl⟩
def m_graph_norm_1 (k1 : Int) (z1 : (List (Int × Int))) : Option Int :=
  some ((mget z1 k1).getD (0 : Int))
theorem w_graph_norm_1 {k1 : Int} {z1 : (List (Int × Int))} {r_1 : Int} {b_q1 : Nat} (hm : m_graph_norm_1 k1 z1 = some r_1) : FnT Try.prog 123 [.i64 k1, .ref (.v (.map (some b_q1)))] [mp b_q1 kI64 D.i64 z1] (.i64 r_1) := by
  unfold m_graph_norm_1 at hm
  refine fn_intro Try.func123 rfl Try.ntmps123 rfl fun H0 fr w0 => ?_
  refine g_seq ?_
  refine g_region ?_
  refine go_p rfl rfl rfl (o_assign rfl) ?_
  refine go_nil ?_
  refine g_seq ?_
  refine g_region ?_
  refine go_p rfl rfl rfl (o_load Try.isAgg139 rfl rfl) ?_
  refine go_p rfl rfl rfl (o_move rfl) ?_
  refine go_p rfl rfl rfl (o_lookup (z0 := (0 : Int)) 0 Try.runUnderlying139 (keyI64 Try.underlying3) Try.zeroValue3 (fun _ => conc_v.2 rfl) rfl rfl rfl) ?_
  refine go_p rfl rfl rfl (o_assign rfl) ?_
  refine go_nil ?_
  refine g_ret ?_
  exact retK (ret_one' (ms' := [_]) (drop := []) rfl (ret_tmp rfl) (List.Perm.refl _)) ⟨congrArg (fun (p : Int) => (.i64 p : D)) (some_eq hm), rfl⟩
def m_graph_norm_r1  : List Int → ((List Int) × (List (Int × Int))) → Option ((List Int) × (List (Int × Int)))
  | [], (l2, mm2) =>
    some (l2, mm2)
  | x1 :: rr, (l2, mm2) =>
    grd ((l2.length + ([x1] : List _).length) * 8 ≤ 140737488355328) <|
    m_graph_norm_r1 rr ((l2 ++ [x1]), (mset mm2 x1 (l2.length : Int)))
def m_graph_norm_l2 (t1 : ApiType) (l1 : (List Int)) (mm1 : (List (Int × Int))) : Nat → (Int × (List ApiTNode) × Int) → Option ((List ApiTNode) × Int)
  | 0, _ => none
  | n + 1, (x2, l4, z2) =>
    bif (decide (x2 < (l1.length : Int))) then
      (idx l1 x2).bind fun x3 =>
      (idx t1.l x3).bind fun x4 =>
      (m_graph_moved x4 (fun y0 => m_graph_norm_1 y0 mm1)).bind fun x5 =>
      grd ((l4.length + ([x5] : List _).length) * 48 ≤ 140737488355328) <|
      grd (InR (x2 + 1)) <|
      m_graph_norm_l2 t1 l1 mm1 n ((x2 + 1), (l4 ++ [x5]), z2)
    else
      some (l4, z2)
def m_graph_norm (t1 : ApiType) (root1 : Int) : Option ApiType :=
  ((m_below t1 root1).bind fun xs1 =>
  m_graph_norm_r1 xs1 ([], ([] : List (Int × Int))) : Option ((List Int) × (List (Int × Int)))).bind fun (l1, mm1) =>
  (m_graph_norm_l2 t1 l1 mm1 FU (0, [], 0) : Option ((List ApiTNode) × Int)).bind fun (l3, z1) =>
  some (⟨l3, z1⟩ : ApiType)
theorem w_graph_norm {t1 : ApiType} {root1 : Int} {r_1 : ApiType} (hm : m_graph_norm t1 root1 = some r_1) : Fn0 Try.prog 86 [ApiType.d t1, .i64 root1] (ApiType.d r_1) := by
  unfold m_graph_norm at hm
  refine fn_intro Try.func86 rfl Try.ntmps86 rfl fun H0 fr w0 => ?_
  refine g_seq ?_
  refine g_region ?_
  refine go_p rfl rfl rfl (o_box rfl rfl) ?_
  refine go_op rfl rfl rfl (o_alloc_own Try.zeroValue53 (cs := [.list 4 ApiTNode.d [], .i64 0]) rfl) ?_
  rintro _ _ ⟨b1, rfl, rfl⟩
  refine go_nil ?_
  refine g_seq ?_
  refine g_region ?_
  refine go_op rfl rfl rfl (o_makeMap (fk := kI64) (fv := D.i64)) ?_
  rintro _ _ ⟨b2, rfl, rfl⟩
  refine go_op rfl rfl rfl (o_alloc_own Try.zeroValue139 (cs := [.v (.map none)]) rfl) ?_
  rintro _ _ ⟨b3, rfl, rfl⟩
  refine go_u rfl rfl (o_store_box 0 Try.sizeOf139 rfl rfl rfl rfl rfl rfl rfl rfl (Nat.le_of_ble_eq_true rfl)) ?_
  rintro _ _ rfl
  refine go_ms (ms' := [box b3 139 [_], _, box b1 53 [_, _]]) rfl ?_
  refine go_conv (refines_freeze (d := .v (.map (some b2))) 0 5 rfl rfl rfl rfl) ?_
  refine go_nil ?_
  refine g_seq ?_
  refine g_region ?_
  refine go_op rfl rfl rfl (o_alloc_own Try.zeroValue28 (cs := [.v (.slice none 0 0)]) rfl) ?_
  rintro _ _ ⟨b4, rfl, rfl⟩
  refine go_conv (refines_newrow (T := 3) (sz := 1) (f := D.i64)) ?_
  refine go_nil ?_
  refine g_seq ?_
  refine g_seq ?_
  refine g_region ?_
  refine go_p rfl rfl rfl (o_load_agg Try.isAgg53 Try.sizeOf53 rfl rfl) ?_
  refine go_p rfl rfl rfl (o_move rfl) ?_
  refine go_p rfl rfl rfl (o_call0 Try.call79 rfl w_below) ?_
  refine go_nil ?_
  obtain ⟨o_1, hj1, hm1⟩ := bind_some hm
  refine g_cut_m [(2, _), (4, _), (5, _), (6, _)] [(3, _)] (fun (st : ((List Int) × (List (Int × Int)))) (hid : (Option Addr × Nat)) => match st, hid with | (l1, mm1), (a_r1, cap_r1) => []) (fun F (st : ((List Int) × (List (Int × Int)))) (hid : (Option Addr × Nat)) => match st, hid with | (l1, mm1), (a_r1, cap_r1) => [row a_r1 cap_r1 3 1 D.i64 l1, box b4 28 [.v (.slice a_r1 l1.length cap_r1)], mp b2 kI64 D.i64 mm1, (nthF F 0)]) (fun st => st = o_1) ⟨rfl, rfl, rfl, rfl, trivial⟩ ⟨rfl, trivial⟩ ?_ ?_
  · skip
    refine g_block ?_
    obtain ⟨xs1, hx1, hj1⟩ := bind_some hj1
    refine g_range_m (fun (p : Int) => [.i64 p]) [(3, _)] (fun F (st : ((List Int) × (List (Int × Int)))) (hid : (Option Addr × Nat)) => match st, hid with | (l2, mm2), (a_r1, cap_r1) => [row a_r1 cap_r1 3 1 D.i64 l2, box b4 28 [.v (.slice a_r1 l2.length cap_r1)], mp b2 kI64 D.i64 mm2, (nthF F 0)]) (_, _) hj1 ⟨rfl, trivial⟩ rfl rfl Try.call118 (it_below hx1) (fun _ => rfl) rfl ?_ ?_
    · rintro H0r frr ror w0r hrr x1 rr ⟨l2, mm2⟩ ⟨a_r1, cap_r1⟩ hj1
      rw [m_graph_norm_r1] at hj1
      refine g_norm (ms' := [row a_r1 cap_r1 3 1 D.i64 l2, box b4 28 [.v (.slice a_r1 l2.length cap_r1)], mp b2 kI64 D.i64 mm2, _]) rfl rfl ?_
      refine g_region ?_
      refine go_p rfl rfl rfl (o_assign rfl) ?_
      refine go_nil ?_
      intro H0r frr ror w0r hrr
      refine g_block ?_
      refine g_seq ?_
      refine g_region ?_
      refine go_p rfl rfl rfl (o_load Try.isAgg139 rfl rfl) ?_
      refine go_p rfl rfl rfl (o_move rfl) ?_
      refine go_p rfl rfl rfl (o_load_box 1 Try.isAgg28 rfl rfl rfl rfl) ?_
      refine go_p rfl rfl rfl (.view (peekE (i := 18) 0 rfl rfl rfl) (o_len Try.runUnderlying28 rfl)) ?_
      refine go_u rfl rfl (o_mapUpdate (v := (l2.length : Int)) 2 Try.runUnderlying139 (keyI64 Try.underlying3) rfl rfl rfl rfl) ?_
      rintro _ _ rfl
      refine go_nil ?_
      refine g_region ?_
      refine go_p rfl rfl rfl (o_load_box 1 Try.isAgg28 rfl rfl rfl rfl) ?_
      refine go_p rfl rfl rfl (o_move rfl) ?_
      refine go_p rfl rfl rfl (o_buildSlice (xs := [_]) (f := D.i64) (l := [_]) Try.runUnderlying28 Try.sizeOf3 Try.zeroValue3 rfl rfl rfl (fun _ => ⟨rfl, rfl, rfl⟩) rfl) ?_
      obtain ⟨hg2, hj1⟩ := grd_some hj1
      refine go_op rfl rfl rfl (o_append (a := _) 0 Try.underlying28 Try.type3 rfl rfl rfl rfl rfl rfl rfl (fun _ => rfl) (fun _ => rfl) hg2 (app_len hg2 rfl)) ?_
      rintro _ _ ⟨a_r1, cap_r1, rfl, rfl⟩
      refine go_ms (ms' := [_, box b4 28 [_], _, box b1 53 [_, _]]) rfl ?_
      refine go_u rfl rfl (o_store_box 1 Try.sizeOf28 rfl rfl rfl rfl rfl rfl rfl rfl (Nat.le_of_ble_eq_true rfl)) ?_
      rintro _ _ rfl
      refine go_ms (ms' := [_, box b4 28 [_], _, box b1 53 [_, _]]) rfl ?_
      refine go_nil ?_
      exact ⟨_, (_, _), hj1, [], rfl⟩
    · rintro ⟨l2, mm2⟩ ⟨a_r1, cap_r1⟩ hj1
      rw [m_graph_norm_r1] at hj1
      refine k_norm (ms' := [row a_r1 cap_r1 3 1 D.i64 l2, box b4 28 [.v (.slice a_r1 l2.length cap_r1)], mp b2 kI64 D.i64 mm2, _]) rfl rfl ?_
      exact ⟨_, (_, _), some_eq hj1, trivial, ⟨rfl, rfl, rfl, rfl, trivial⟩, [], rfl⟩
  · rintro ⟨l1, mm1⟩ ⟨a_r1, cap_r1⟩ hst
    subst hst
    refine k_norm (L' := [(2, _), (4, _), (5, _), (6, _)]) (ms' := [row a_r1 cap_r1 3 1 D.i64 l1, box b4 28 [.v (.slice a_r1 l1.length cap_r1)], mp b2 kI64 D.i64 mm1, _]) rfl rfl ?_
    refine g_seq ?_
    refine g_region ?_
    refine go_op rfl rfl rfl (o_alloc_own Try.zeroValue53 (cs := [.v (.slice none 0 0), .i64 0]) rfl) ?_
    rintro _ _ ⟨b6, rfl, rfl⟩
    refine go_conv (refines_newrow (T := 56) (sz := 4) (f := ApiTNode.d)) ?_
    refine go_nil ?_
    refine g_seq ?_
    refine g_seq ?_
    refine g_region ?_
    refine go_p rfl rfl rfl (o_load_box 3 Try.isAgg28 rfl rfl rfl rfl) ?_
    refine go_p rfl rfl rfl (.view (peekE (i := 24) 2 rfl rfl rfl) (o_len Try.runUnderlying28 rfl)) ?_
    refine go_p rfl rfl rfl (o_move rfl) ?_
    refine go_nil ?_
    obtain ⟨o_2, hj2, hm2⟩ := bind_some hm1
    refine g_cut_m [(4, _), (8, _)] [(2, _), (3, _), (4, _), (5, _)] (fun (st : ((List ApiTNode) × Int)) (hid : (Option Addr × Nat)) => match st, hid with | (l3, z1), (a_r2, cap_r2) => []) (fun F (st : ((List ApiTNode) × Int)) (hid : (Option Addr × Nat)) => match st, hid with | (l3, z1), (a_r2, cap_r2) => [row a_r2 cap_r2 56 4 ApiTNode.d l3, box b6 53 [.v (.slice a_r2 l3.length cap_r2), .i64 z1], (nthF F 0), (nthF F 1), (nthF F 2), (nthF F 3)]) (fun st => st = o_2) ⟨rfl, rfl, trivial⟩ ⟨rfl, rfl, rfl, rfl, trivial⟩ ?_ ?_
    · skip
      refine g_block ?_
      refine g_loop_m [(2, _), (4, _), (5, _), (8, _), (24, _), (25, _)] [(2, _), (3, _), (4, _), (5, _)] (fun (st : (Int × (List ApiTNode) × Int)) (hid : (Option Addr × Nat)) => match st, hid with | (x2, l4, z2), (a_r2, cap_r2) => [(26, .i64 x2)]) (fun F (st : (Int × (List ApiTNode) × Int)) (hid : (Option Addr × Nat)) => match st, hid with | (x2, l4, z2), (a_r2, cap_r2) => [row a_r2 cap_r2 56 4 ApiTNode.d l4, box b6 53 [.v (.slice a_r2 l4.length cap_r2), .i64 z2], (nthF F 0), (nthF F 1), (nthF F 2), (nthF F 3)]) (_, _) hj2 (fun _ => rfl) ⟨rfl, rfl, rfl, rfl, rfl, rfl, trivial⟩ ⟨rfl, rfl, rfl, rfl, trivial⟩ ⟨rfl, trivial⟩ rfl ?_
      rintro n ⟨x2, l4, z2⟩ ⟨a_r2, cap_r2⟩ hj2
      rw [m_graph_norm_l2] at hj2
      refine g_norm (L' := [(26, .i64 x2), (2, _), (4, _), (5, _), (8, _), (24, _), (25, _)]) (ms' := [row a_r2 cap_r2 56 4 ApiTNode.d l4, box b6 53 [.v (.slice a_r2 l4.length cap_r2), .i64 z2], _, _, _, _]) rfl rfl ?_
      refine g_seq ?_
      refine g_region ?_
      refine go_p rfl rfl rfl (o_cmp rfl rfl rfl) ?_
      refine go_nil ?_
      refine g_seq ?_
      refine g_cond rfl (fun hc1 => ?_) (fun hc1 => ?_)
      · replace hj2 := cond_t hc1 hj2
        refine g_skip ?_
        refine g_seq ?_
        refine g_block ?_
        refine g_seq ?_
        refine g_region ?_
        obtain ⟨x3, hx3, hj2⟩ := bind_some hj2
        refine go_p rfl rfl rfl (.view (peekE (i := 24) 2 rfl rfl rfl) (o_indexAddr_m Try.runUnderlying28 Try.sizeOf3 rfl rfl hx3)) ?_
        refine go_p rfl rfl rfl (o_load Try.isAgg3 rfl rfl) ?_
        refine go_p rfl rfl rfl (o_assign rfl) ?_
        refine go_nil ?_
        obtain ⟨x4, hx4, hj2⟩ := bind_some hj2
        obtain ⟨x5, hx5, hj2⟩ := bind_some hj2
        refine g_draw 10 Try_mixed (by decide +kernel) ?_
        refine gd_p rfl rfl rfl (o_fieldAddr_box fi_53_0 rfl) ?_
        refine gd_p rfl rfl rfl (o_load_box 1 Try.isAgg51 rfl rfl rfl rfl) ?_
        refine gd_p rfl rfl rfl (o_fieldAddr fi_53_0 rfl rfl rfl) ?_
        refine gd_p rfl rfl rfl (o_load Try.isAgg51 rfl rfl) ?_
        refine gd_p rfl rfl rfl (o_move rfl) ?_
        refine gd_p rfl rfl rfl (o_indexAddr_m Try.runUnderlying51 Try.sizeOf56 rfl rfl hx4) ?_
        refine gd_p rfl rfl rfl (o_load_agg Try.isAgg56 Try.sizeOf56 rfl rfl) ?_
        refine gd_p rfl rfl rfl (o_makeFunc rfl rfl) ?_
        refine gd_p rfl rfl rfl (o_call_t [4] Try.call84 rfl rfl (getL_c rfl getL_n) (w_graph_moved (fun _ _ h => fv_clo Try.call123 (w_graph_norm_1 h)) hx5)) ?_
        refine gd_p rfl rfl rfl (o_buildSlice (xs := [_]) (f := ApiTNode.d) (l := [_]) Try.runUnderlying51 Try.sizeOf56 Try.zeroValue56 rfl rfl rfl (fun _ => ⟨rfl, rfl, rfl⟩) rfl) ?_
        refine gd_nil ?_
        obtain ⟨hg6, hj2⟩ := grd_some hj2
        refine go_op rfl rfl rfl (o_append (a := _) 0 Try.underlying51 Try.type56 rfl rfl rfl rfl rfl rfl rfl (fun _ => rfl) (fun _ => rfl) hg6 (app_len hg6 rfl)) ?_
        rintro _ _ ⟨a_r2, cap_r2, rfl, rfl⟩
        refine go_ms (ms' := [_, box b6 53 [_, _], _, box b4 28 [_], _, box b1 53 [_, _]]) rfl ?_
        refine go_p rfl rfl rfl (o_fieldAddr_box fi_53_0 rfl) ?_
        refine go_u rfl rfl (o_store_box 1 Try.sizeOf51 rfl rfl rfl rfl rfl rfl rfl rfl (Nat.le_of_ble_eq_true rfl)) ?_
        rintro _ _ rfl
        refine go_ms (ms' := [_, box b6 53 [_, _], _, box b4 28 [_], _, box b1 53 [_, _]]) rfl ?_
        refine go_nil ?_
        refine g_region ?_
        obtain ⟨hg7, hj2⟩ := grd_some hj2
        refine go_p rfl rfl rfl (o_add rfl rfl (i64_id hg7)) ?_
        refine go_p rfl rfl rfl (o_move rfl) ?_
        refine go_nil ?_
        exact ⟨_, (_, _), hj2, ⟨rfl, trivial⟩, ⟨rfl, rfl, rfl, rfl, rfl, rfl, trivial⟩, [], rfl⟩
      · replace hj2 := cond_f hc1 hj2
        refine g_exit ?_
        exact ⟨_, (_, _), some_eq hj2, trivial, ⟨rfl, rfl, trivial⟩, [], rfl⟩
    · rintro ⟨l3, z1⟩ ⟨a_r2, cap_r2⟩ hst
      subst hst
      refine k_norm (L' := [(4, _), (8, _)]) (ms' := [row a_r2 cap_r2 56 4 ApiTNode.d l3, box b6 53 [.v (.slice a_r2 l3.length cap_r2), .i64 z1], _, _, _, _]) rfl rfl ?_
      refine g_seq ?_
      refine g_region ?_
      refine go_p rfl rfl rfl (o_load_box_agg 1 Try.isAgg53 Try.sizeOf53 rfl rfl rfl rfl (Nat.le_of_ble_eq_true rfl)) ?_
      refine go_conv (peekAggE (i := 43) (q := 0) 0 rfl rfl rfl rfl rfl).refines ?_
      refine go_u rfl rfl (o_store_box 5 Try.sizeOf53 rfl rfl rfl rfl rfl rfl rfl rfl (Nat.le_of_ble_eq_true rfl)) ?_
      rintro _ _ rfl
      refine go_ms (ms' := [_, box b6 53 [_, _], _, box b4 28 [_], _, box b1 53 [_, _]]) rfl ?_
      refine go_nil ?_
      refine g_ret ?_
      exact retK (ret_one' rfl (ret_cell 5 rfl rfl rfl Try.isAgg53 Try.sizeOf53 rfl) (perm_drop _)) (congrArg (fun (p : ApiType) => (ApiType.d p : D)) (some_eq hm2))
def m_graph_Norm (t1 : ApiType) : Option (ApiType × Int) :=
  (m_graph_May t1).bind fun x1 =>
  bif (!decide (x1 = 0)) then
    some ((⟨([] : List ApiTNode), 0⟩ : ApiType), x1)
  else
    (m_graph_norm t1 t1.root).bind fun x2 =>
    some ((⟨x2.l, x2.root⟩ : ApiType), 0)
theorem w_graph_Norm {t1 : ApiType} {r_1 : ApiType} {r_2 : Int} (hm : m_graph_Norm t1 = some (r_1, r_2)) : Fn0 Try.prog 41 [ApiType.d t1] (.tup [ApiType.d r_1, .i64 r_2]) := by
  unfold m_graph_Norm at hm
  refine fn_intro Try.func41 rfl Try.ntmps41 rfl fun H0 fr w0 => ?_
  refine g_seq ?_
  refine g_region ?_
  refine go_p rfl rfl rfl (o_box rfl rfl) ?_
  refine go_op rfl rfl rfl (o_alloc_own Try.zeroValue53 (cs := [.list 4 ApiTNode.d [], .i64 0]) rfl) ?_
  rintro _ _ ⟨b1, rfl, rfl⟩
  refine go_p rfl rfl rfl (o_assign rfl) ?_
  refine go_nil ?_
  refine g_seq ?_
  refine g_seq ?_
  refine g_region ?_
  refine go_p rfl rfl rfl (o_load_agg Try.isAgg53 Try.sizeOf53 rfl rfl) ?_
  obtain ⟨x1, hx1, hm⟩ := bind_some hm
  refine go_p rfl rfl rfl (o_call0 Try.call31 rfl (w_graph_May hx1)) ?_
  refine go_p rfl rfl rfl (o_assign rfl) ?_
  refine go_nil ?_
  refine g_seq ?_
  refine g_region ?_
  refine go_p rfl rfl rfl (o_move rfl) ?_
  refine go_p rfl rfl rfl (o_cmp rfl rfl rfl) ?_
  refine go_nil ?_
  refine g_cond rfl (fun hc1 => ?_) (fun hc1 => ?_)
  · replace hm := cond_t hc1 hm
    refine g_seq ?_
    refine g_region ?_
    refine go_p rfl rfl rfl (o_build (zs := [.list 4 ApiTNode.d [], .v (.int .i64 0)]) Try.runUnderlying53 Try.zeroValue53 (pl_53 _ Try.runUnderlying53) rfl rfl rfl rfl) ?_
    refine go_p rfl rfl rfl (o_move rfl) ?_
    refine go_u rfl rfl (o_store_box 0 Try.sizeOf53 rfl rfl rfl rfl rfl rfl rfl rfl (Nat.le_of_ble_eq_true rfl)) ?_
    rintro _ _ rfl
    refine go_ms (ms' := [box b1 53 [_, _]]) rfl ?_
    refine go_p rfl rfl rfl (o_assign rfl) ?_
    refine go_nil ?_
    refine g_ret ?_
    exact retK (ret_many (ds := [_, _]) rfl (by decide) ⟨ret_cell 0 rfl rfl rfl Try.isAgg53 Try.sizeOf53 rfl, ⟨ret_tmp rfl, rfl⟩⟩ (perm_drop _)) (congrArg (fun (p : (ApiType × Int)) => D.tup [ApiType.d p.1, .i64 p.2]) (some_eq hm))
  · replace hm := cond_f hc1 hm
    refine g_skip ?_
    refine g_seq ?_
    refine g_region ?_
    refine go_p rfl rfl rfl (o_load_agg Try.isAgg53 Try.sizeOf53 rfl rfl) ?_
    refine go_p rfl rfl rfl (o_fieldAddr fi_53_1 rfl rfl rfl) ?_
    refine go_p rfl rfl rfl (o_load Try.isAgg3 rfl rfl) ?_
    obtain ⟨x2, hx2, hm⟩ := bind_some hm
    refine go_p rfl rfl rfl (o_call0 Try.call86 rfl (w_graph_norm hx2)) ?_
    refine go_u rfl rfl (o_store_box 0 Try.sizeOf53 rfl rfl rfl rfl rfl rfl rfl rfl (Nat.le_of_ble_eq_true rfl)) ?_
    rintro _ _ rfl
    refine go_ms (ms' := [box b1 53 [_, _]]) rfl ?_
    refine go_p rfl rfl rfl (o_assign rfl) ?_
    refine go_nil ?_
    refine g_ret ?_
    exact retK (ret_many (ds := [_, _]) rfl (by decide) ⟨ret_cell 0 rfl rfl rfl Try.isAgg53 Try.sizeOf53 rfl, ⟨ret_tmp rfl, rfl⟩⟩ (perm_drop _)) (congrArg (fun (p : (ApiType × Int)) => D.tup [ApiType.d p.1, .i64 p.2]) (some_eq hm))
theorem pl_56 : ∀ fs, (∀ w, (underlying 56).run Try.prog w = .ok (.struct fs) w) → placesOf Try.prog fs [(0, 1), (1, 1), (2, 1), (3, 1)] := by
  intro fs h w
  have := (h w).symm.trans (Try.runUnderlying56 w)
  simp only [Result.ok.injEq, TypeDesc.struct.injEq, and_true] at this
  subst this
  simp [Try.sizeOf3, Try.sizeOf54, Sem.run]
def m_syntagmalaw13_round  : Option ApiType :=
  some (⟨[(⟨3, 0, 0, ([] : List ApiTField)⟩ : ApiTNode), (⟨6, 0, 1, ([] : List ApiTField)⟩ : ApiTNode)], 1⟩ : ApiType)
theorem w_syntagmalaw13_round  {r_1 : ApiType} (hm : m_syntagmalaw13_round = some r_1) : Fn0 Try.prog 82 [] (ApiType.d r_1) := by
  unfold m_syntagmalaw13_round at hm
  refine fn_intro Try.func82 rfl Try.ntmps82 rfl fun H0 fr w0 => ?_
  refine g_seq ?_
  refine g_region ?_
  refine go_op rfl rfl rfl (o_alloc_own Try.zeroValue53 (cs := [.list 4 ApiTNode.d [], .i64 0]) rfl) ?_
  rintro _ _ ⟨b1, rfl, rfl⟩
  refine go_nil ?_
  refine g_seq ?_
  refine g_region ?_
  refine go_p rfl rfl rfl (o_build (zs := [.v (.int .i64 0), .v (.int .i64 0), .v (.int .i64 0), .list 2 ApiTField.d []]) Try.runUnderlying56 Try.zeroValue56 (pl_56 _ Try.runUnderlying56) rfl rfl rfl rfl) ?_
  refine go_p rfl rfl rfl (o_build (zs := [.v (.int .i64 0), .v (.int .i64 0), .v (.int .i64 0), .list 2 ApiTField.d []]) Try.runUnderlying56 Try.zeroValue56 (pl_56 _ Try.runUnderlying56) rfl rfl rfl rfl) ?_
  refine go_p rfl rfl rfl (o_buildSlice (xs := [_, _]) (f := ApiTNode.d) (l := [(⟨3, 0, 0, ([] : List ApiTField)⟩ : ApiTNode), (⟨6, 0, 1, ([] : List ApiTField)⟩ : ApiTNode)]) Try.runUnderlying51 Try.sizeOf56 Try.zeroValue56 rfl rfl rfl (fun _ => ⟨rfl, rfl, rfl⟩) rfl) ?_
  refine go_p rfl rfl rfl (o_build (zs := [.list 4 ApiTNode.d [], .v (.int .i64 0)]) Try.runUnderlying53 Try.zeroValue53 (pl_53 _ Try.runUnderlying53) rfl rfl rfl rfl) ?_
  refine go_u rfl rfl (o_store_box 0 Try.sizeOf53 rfl rfl rfl rfl rfl rfl rfl rfl (Nat.le_of_ble_eq_true rfl)) ?_
  rintro _ _ rfl
  refine go_ms (ms' := [box b1 53 [_, _]]) rfl ?_
  refine go_nil ?_
  refine g_ret ?_
  exact retK (ret_one' rfl (ret_cell 0 rfl rfl rfl Try.isAgg53 Try.sizeOf53 rfl) (perm_drop _)) (congrArg (fun (p : ApiType) => (ApiType.d p : D)) (some_eq hm))
def m_syntagmalaw13_works  : Option Bool :=
  (m_syntagmalaw13_round).bind fun x1 =>
  (m_graph_Norm x1).bind fun (x2, x3) =>
  (m_syntagmalaw13_round).bind fun x4 =>
  (m_graph_May x4).bind fun x5 =>
  (bif (((decide (x5 = 0)) && (decide (x3 = 0))) && (decide ((x2.l.length : Int) = 2))) then ((idx x2.l 0).bind fun x6 =>
  some (decide (x6.kind = 6))) else (some false)).bind fun p1 =>
  (bif p1 then ((idx x2.l 0).bind fun x7 =>
  some (decide (x7.b = 0))) else (some false)).bind fun p2 =>
  (bif p2 then ((m_graph_Ground (⟨x2.l, x2.root⟩ : ApiType)).bind fun x8 =>
  some x8) else (some false)).bind fun p3 =>
  some p3
theorem w_syntagmalaw13_works  {r_1 : Bool} (hm : m_syntagmalaw13_works = some r_1) : Fn0 Try.prog 36 [] (.bool r_1) := by
  unfold m_syntagmalaw13_works at hm
  refine fn_intro Try.func36 rfl Try.ntmps36 rfl fun H0 fr w0 => ?_
  refine g_seq ?_
  refine g_region ?_
  refine go_p rfl rfl rfl (o_assign rfl) ?_
  refine go_nil ?_
  refine g_seq ?_
  refine g_region ?_
  obtain ⟨x1, hx1, hm⟩ := bind_some hm
  refine go_p rfl rfl rfl (o_call0 Try.call82 rfl (w_syntagmalaw13_round hx1)) ?_
  obtain ⟨⟨x2, x3⟩, hx2, hm⟩ := bind_some hm
  refine go_p rfl rfl rfl (o_call0 Try.call41 rfl (w_graph_Norm hx2)) ?_
  refine go_p rfl rfl rfl (o_move rfl) ?_
  refine go_p rfl rfl rfl (o_extract rfl rfl) ?_
  refine go_p rfl rfl rfl (o_extract rfl rfl) ?_
  refine go_op rfl rfl rfl (o_alloc_own Try.zeroValue53 (cs := [.list 4 ApiTNode.d [], .i64 0]) rfl) ?_
  rintro _ _ ⟨b1, rfl, rfl⟩
  refine go_u rfl rfl (o_store_box 0 Try.sizeOf53 rfl rfl rfl rfl rfl rfl rfl rfl (Nat.le_of_ble_eq_true rfl)) ?_
  rintro _ _ rfl
  refine go_ms (ms' := [box b1 53 [_, _]]) rfl ?_
  refine go_p rfl rfl rfl (o_assign rfl) ?_
  refine go_nil ?_
  refine g_seq ?_
  refine g_region ?_
  obtain ⟨x4, hx3, hm⟩ := bind_some hm
  refine go_p rfl rfl rfl (o_call0 Try.call82 rfl (w_syntagmalaw13_round hx3)) ?_
  obtain ⟨x5, hx4, hm⟩ := bind_some hm
  refine go_p rfl rfl rfl (o_call0 Try.call31 rfl (w_graph_May hx4)) ?_
  refine go_p rfl rfl rfl (o_cmp rfl rfl rfl) ?_
  refine go_p rfl rfl rfl (o_move rfl) ?_
  apply go_and [(1, _)] 3 14 (t := 11) ⟨rfl, trivial⟩ rfl
  · intro hg_1 hk1
    refine go_wantp rfl rfl rfl hg_1 rfl rfl (o_move rfl) ?_
    refine go_wantp rfl rfl rfl hg_1 rfl rfl (o_cmp rfl rfl rfl) ?_
    refine go_p rfl rfl rfl (o_pickT rfl hg_1 rfl) ?_
    exact go_meet hk1 (rfl) ⟨rfl, trivial⟩
  · intro hg_1 hk1
    refine go_skip rfl rfl rfl hg_1 rfl rfl ?_
    refine go_skip rfl rfl rfl hg_1 rfl rfl ?_
    refine go_p rfl rfl rfl (o_pickF rfl hg_1 rfl) ?_
    exact go_meet hk1 (rfl) ⟨rfl, trivial⟩
  refine go_p rfl rfl rfl (o_move rfl) ?_
  apply go_and [(1, _)] 5 20 (t := 15) ⟨rfl, trivial⟩ rfl
  · intro hg_2 hk2
    refine go_wantp rfl rfl rfl hg_2 rfl rfl (o_fieldAddr_box fi_53_0 rfl) ?_
    refine go_wantp rfl rfl rfl hg_2 rfl rfl (o_load_box 0 Try.isAgg51 rfl rfl rfl rfl) ?_
    refine go_wantp rfl rfl rfl hg_2 rfl rfl (o_len Try.runUnderlying51 rfl) ?_
    refine go_wantp rfl rfl rfl hg_2 rfl rfl (o_cmp rfl rfl rfl) ?_
    refine go_p rfl rfl rfl (o_pickT rfl hg_2 rfl) ?_
    exact go_meet hk2 (rfl) ⟨rfl, trivial⟩
  · intro hg_2 hk2
    refine go_skip rfl rfl rfl hg_2 rfl rfl ?_
    refine go_skip rfl rfl rfl hg_2 rfl rfl ?_
    refine go_skip rfl rfl rfl hg_2 rfl rfl ?_
    refine go_skip rfl rfl rfl hg_2 rfl rfl ?_
    refine go_p rfl rfl rfl (o_pickF rfl hg_2 rfl) ?_
    exact go_meet hk2 (rfl) ⟨rfl, trivial⟩
  refine go_p rfl rfl rfl (o_move rfl) ?_
  obtain ⟨p1, hp_3, hm⟩ := bind_some hm
  refine go_two [(1, _)] 7 28 p1 (t := 21) ⟨rfl, trivial⟩ rfl (fun hg_3 hk3 => ?_) (fun hg_3 hk3 => ?_) ?_
  · replace hp_3 := cond_t hg_3 hp_3
    refine go_wantp rfl rfl rfl hg_3 rfl rfl (o_fieldAddr_box fi_53_0 rfl) ?_
    refine go_wantp rfl rfl rfl hg_3 rfl rfl (o_load_box 0 Try.isAgg51 rfl rfl rfl rfl) ?_
    obtain ⟨x6, hx5, hp_3⟩ := bind_some hp_3
    refine go_wantp rfl rfl rfl hg_3 rfl rfl (o_indexAddr_m Try.runUnderlying51 Try.sizeOf56 rfl rfl hx5) ?_
    refine go_wantp rfl rfl rfl hg_3 rfl rfl (o_fieldAddr fi_56_0 rfl rfl rfl) ?_
    refine go_wantp rfl rfl rfl hg_3 rfl rfl (o_load Try.isAgg3 rfl rfl) ?_
    refine go_wantp rfl rfl rfl hg_3 rfl rfl (o_cmp rfl rfl rfl) ?_
    refine go_p rfl rfl rfl (o_pickT rfl hg_3 rfl) ?_
    exact go_meet hk3 (congrArg (fun b => some (D.bool b)) (some_eq hp_3)) ⟨rfl, trivial⟩
  · replace hp_3 := cond_f hg_3 hp_3
    refine go_skip rfl rfl rfl hg_3 rfl rfl ?_
    refine go_skip rfl rfl rfl hg_3 rfl rfl ?_
    refine go_skip rfl rfl rfl hg_3 rfl rfl ?_
    refine go_skip rfl rfl rfl hg_3 rfl rfl ?_
    refine go_skip rfl rfl rfl hg_3 rfl rfl ?_
    refine go_skip rfl rfl rfl hg_3 rfl rfl ?_
    refine go_p rfl rfl rfl (o_pickF rfl hg_3 rfl) ?_
    exact go_meet hk3 (congrArg (fun b => some (D.bool b)) (some_eq hp_3)) ⟨rfl, trivial⟩
  refine go_p rfl rfl rfl (o_move rfl) ?_
  obtain ⟨p2, hp_4, hm⟩ := bind_some hm
  refine go_two [(1, _)] 7 36 p2 (t := 29) ⟨rfl, trivial⟩ rfl (fun hg_4 hk4 => ?_) (fun hg_4 hk4 => ?_) ?_
  · replace hp_4 := cond_t hg_4 hp_4
    refine go_wantp rfl rfl rfl hg_4 rfl rfl (o_fieldAddr_box fi_53_0 rfl) ?_
    refine go_wantp rfl rfl rfl hg_4 rfl rfl (o_load_box 0 Try.isAgg51 rfl rfl rfl rfl) ?_
    obtain ⟨x7, hx6, hp_4⟩ := bind_some hp_4
    refine go_wantp rfl rfl rfl hg_4 rfl rfl (o_indexAddr_m Try.runUnderlying51 Try.sizeOf56 rfl rfl hx6) ?_
    refine go_wantp rfl rfl rfl hg_4 rfl rfl (o_fieldAddr fi_56_2 rfl rfl rfl) ?_
    refine go_wantp rfl rfl rfl hg_4 rfl rfl (o_load Try.isAgg3 rfl rfl) ?_
    refine go_wantp rfl rfl rfl hg_4 rfl rfl (o_cmp rfl rfl rfl) ?_
    refine go_p rfl rfl rfl (o_pickT rfl hg_4 rfl) ?_
    exact go_meet hk4 (congrArg (fun b => some (D.bool b)) (some_eq hp_4)) ⟨rfl, trivial⟩
  · replace hp_4 := cond_f hg_4 hp_4
    refine go_skip rfl rfl rfl hg_4 rfl rfl ?_
    refine go_skip rfl rfl rfl hg_4 rfl rfl ?_
    refine go_skip rfl rfl rfl hg_4 rfl rfl ?_
    refine go_skip rfl rfl rfl hg_4 rfl rfl ?_
    refine go_skip rfl rfl rfl hg_4 rfl rfl ?_
    refine go_skip rfl rfl rfl hg_4 rfl rfl ?_
    refine go_p rfl rfl rfl (o_pickF rfl hg_4 rfl) ?_
    exact go_meet hk4 (congrArg (fun b => some (D.bool b)) (some_eq hp_4)) ⟨rfl, trivial⟩
  refine go_p rfl rfl rfl (o_move rfl) ?_
  obtain ⟨p3, hp_5, hm⟩ := bind_some hm
  refine go_two [] 3 40 p3 (t := 37) trivial rfl (fun hg_5 hk5 => ?_) (fun hg_5 hk5 => ?_) ?_
  · replace hp_5 := cond_t hg_5 hp_5
    refine go_wantp rfl rfl rfl hg_5 rfl rfl (o_load_box_agg 0 Try.isAgg53 Try.sizeOf53 rfl rfl rfl rfl (Nat.le_of_ble_eq_true rfl)) ?_
    obtain ⟨x8, hx7, hp_5⟩ := bind_some hp_5
    refine go_wantp rfl rfl rfl hg_5 rfl rfl (o_call0 Try.call35 rfl (w_graph_Ground hx7)) ?_
    refine go_p rfl rfl rfl (o_pickT rfl hg_5 rfl) ?_
    exact go_meet hk5 (congrArg (fun b => some (D.bool b)) (some_eq hp_5)) trivial
  · replace hp_5 := cond_f hg_5 hp_5
    refine go_skip rfl rfl rfl hg_5 rfl rfl ?_
    refine go_skip rfl rfl rfl hg_5 rfl rfl ?_
    refine go_p rfl rfl rfl (o_pickF rfl hg_5 rfl) ?_
    exact go_meet hk5 (congrArg (fun b => some (D.bool b)) (some_eq hp_5)) trivial
  refine go_p rfl rfl rfl (o_assign rfl) ?_
  refine go_nil ?_
  refine g_ret ?_
  exact retK (ret_one' rfl (ret_tmp rfl) (perm_drop _)) (congrArg (fun (p : Bool) => (.bool p : D)) (some_eq hm))
theorem pl_100 : ∀ fs, (∀ w, (underlying 100).run Try.prog w = .ok (.struct fs) w) → placesOf Try.prog fs [(0, 1), (1, 1)] := by
  intro fs h w
  have := (h w).symm.trans (Try.runUnderlying100 w)
  simp only [Result.ok.injEq, TypeDesc.struct.injEq, and_true] at this
  subst this
  simp [Try.sizeOf3, Try.sizeOf9, Sem.run]
def ApiTField.eqv (x y : ApiTField) : Bool := ((x.name == y.name) && ((x.at_ == y.at_) && true))
theorem eqf_100 : ∀ fs : Array Field, Try.prog.underlying 100 = some (.struct fs) → EqFields Try.prog fs.toList 0 [.str, .int] := by
  intro fs h
  have := h.symm.trans Try.underlying100
  simp only [Option.some.injEq, TypeDesc.struct.injEq] at this
  subst this
  exact ⟨by decide, rfl, Try.isAgg9, Try.underlying9, ⟨by decide, rfl, Try.isAgg3, ⟨_, Try.underlying3⟩, trivial⟩⟩
def m_syntagmaref13_SameList_l2 (x1 : ApiTNode) (x2 : ApiTNode) : Nat → Int → Option (Out Bool Unit)
  | 0, _ => none
  | n + 1, k1 =>
    bif (decide (k1 < (x1.l.length : Int))) then
      (idx x1.l k1).bind fun x3 =>
      (idx x2.l k1).bind fun x4 =>
      bif (!(ApiTField.eqv x3 x4)) then
        some (Out.ret false)
      else
        grd (InR (k1 + 1)) <|
        m_syntagmaref13_SameList_l2 x1 x2 n (k1 + 1)
    else
      some (Out.go (()))
def m_syntagmaref13_SameList_l1 (a1 : ApiType) (b1 : ApiType) : Nat → Int → Option (Out Bool Unit)
  | 0, _ => none
  | n + 1, i1 =>
    bif (decide (i1 < (a1.l.length : Int))) then
      (idx a1.l i1).bind fun x1 =>
      (idx b1.l i1).bind fun x2 =>
      bif ((((!decide (x1.kind = x2.kind)) || (!decide (x1.a = x2.a))) || (!decide (x1.b = x2.b))) || (!decide ((x1.l.length : Int) = (x2.l.length : Int)))) then
        some (Out.ret false)
      else
        ((m_syntagmaref13_SameList_l2 x1 x2 FU 0 : Option (Out Bool Unit))).bind (fun oo => oo.on (fun r1 => some (Out.ret r1)) (fun _ =>
        grd (InR (i1 + 1)) <|
        m_syntagmaref13_SameList_l1 a1 b1 n (i1 + 1)))
    else
      some (Out.go (()))
def m_syntagmaref13_SameList (a1 : ApiType) (b1 : ApiType) : Option Bool :=
  bif ((!decide ((a1.l.length : Int) = (b1.l.length : Int))) || (!decide (a1.root = b1.root))) then
    some false
  else
    ((m_syntagmaref13_SameList_l1 a1 b1 FU 0 : Option (Out Bool Unit))).bind (fun oo => oo.on (fun r2 => some r2) (fun _ =>
    some true))
theorem w_syntagmaref13_SameList {a1 : ApiType} {b1 : ApiType} {r_1 : Bool} (hm : m_syntagmaref13_SameList a1 b1 = some r_1) : Fn0 Try.prog 40 [ApiType.d a1, ApiType.d b1] (.bool r_1) := by
  unfold m_syntagmaref13_SameList at hm
  refine fn_intro Try.func40 rfl Try.ntmps40 rfl fun H0 fr w0 => ?_
  refine g_seq ?_
  refine g_region ?_
  refine go_p rfl rfl rfl (o_box rfl rfl) ?_
  refine go_p rfl rfl rfl (o_box rfl rfl) ?_
  refine go_p rfl rfl rfl (o_assign rfl) ?_
  refine go_nil ?_
  refine g_seq ?_
  refine g_seq ?_
  refine g_region ?_
  refine go_p rfl rfl rfl (o_fieldAddr fi_53_0 rfl rfl rfl) ?_
  refine go_p rfl rfl rfl (o_load Try.isAgg51 rfl rfl) ?_
  refine go_p rfl rfl rfl (o_len Try.runUnderlying51 rfl) ?_
  refine go_p rfl rfl rfl (o_fieldAddr fi_53_0 rfl rfl rfl) ?_
  refine go_p rfl rfl rfl (o_load Try.isAgg51 rfl rfl) ?_
  refine go_p rfl rfl rfl (o_len Try.runUnderlying51 rfl) ?_
  refine go_p rfl rfl rfl (o_cmp rfl rfl rfl) ?_
  refine go_p rfl rfl rfl (o_move rfl) ?_
  apply go_or [(2, _), (3, _)] 6 22 (t := 16) ⟨rfl, rfl, trivial⟩ rfl
  · intro hg_1 hk1
    refine go_wantp rfl rfl rfl hg_1 rfl rfl (o_fieldAddr fi_53_1 rfl rfl rfl) ?_
    refine go_wantp rfl rfl rfl hg_1 rfl rfl (o_load Try.isAgg3 rfl rfl) ?_
    refine go_wantp rfl rfl rfl hg_1 rfl rfl (o_fieldAddr fi_53_1 rfl rfl rfl) ?_
    refine go_wantp rfl rfl rfl hg_1 rfl rfl (o_load Try.isAgg3 rfl rfl) ?_
    refine go_wantp rfl rfl rfl hg_1 rfl rfl (o_cmp rfl rfl rfl) ?_
    refine go_p rfl rfl rfl (o_pickF rfl hg_1 rfl) ?_
    exact go_meet hk1 (rfl) ⟨rfl, rfl, trivial⟩
  · intro hg_1 hk1
    refine go_skip rfl rfl rfl hg_1 rfl rfl ?_
    refine go_skip rfl rfl rfl hg_1 rfl rfl ?_
    refine go_skip rfl rfl rfl hg_1 rfl rfl ?_
    refine go_skip rfl rfl rfl hg_1 rfl rfl ?_
    refine go_skip rfl rfl rfl hg_1 rfl rfl ?_
    refine go_p rfl rfl rfl (o_pickT rfl hg_1 rfl) ?_
    exact go_meet hk1 (rfl) ⟨rfl, rfl, trivial⟩
  refine go_nil ?_
  refine g_cond rfl (fun hc1 => ?_) (fun hc1 => ?_)
  · replace hm := cond_t hc1 hm
    refine g_seq ?_
    refine g_region ?_
    refine go_p rfl rfl rfl (o_assign rfl) ?_
    refine go_nil ?_
    refine g_ret ?_
    exact retK (ret_one' rfl (ret_tmp rfl) (perm_drop _)) (congrArg (fun (p : Bool) => (.bool p : D)) (some_eq hm))
  · replace hm := cond_f hc1 hm
    refine g_skip ?_
    refine g_seq ?_
    refine g_seq ?_
    refine g_region ?_
    refine go_p rfl rfl rfl (o_assign rfl) ?_
    refine go_nil ?_
    obtain ⟨o_1, hj1, hm1⟩ := bind_some hm
    refine g_cut_m [] [] (fun (st : Unit) (hid : Unit) => match st, hid with | _, _ => []) (fun F (st : Unit) (hid : Unit) => match st, hid with | _, _ => []) (fun st => Out.go (st) = o_1) trivial trivial ?_ ?_
    · skip
      refine g_block ?_
      refine g_loop_m [(2, _), (3, _)] [] (fun (st : Int) (hid : Unit) => match st, hid with | i1, _ => [(5, .i64 i1)]) (fun F (st : Int) (hid : Unit) => match st, hid with | i1, _ => []) () hj1 (fun _ => rfl) ⟨rfl, rfl, trivial⟩ trivial ⟨rfl, trivial⟩ rfl ?_
      rintro n i1 _ hj1
      rw [m_syntagmaref13_SameList_l1] at hj1
      refine g_norm (L' := [(5, .i64 i1), (2, _), (3, _)]) (ms' := []) rfl rfl ?_
      refine g_seq ?_
      refine g_seq ?_
      refine g_region ?_
      refine go_p rfl rfl rfl (o_move rfl) ?_
      refine go_p rfl rfl rfl (o_fieldAddr fi_53_0 rfl rfl rfl) ?_
      refine go_p rfl rfl rfl (o_load Try.isAgg51 rfl rfl) ?_
      refine go_p rfl rfl rfl (o_len Try.runUnderlying51 rfl) ?_
      refine go_p rfl rfl rfl (o_cmp rfl rfl rfl) ?_
      refine go_nil ?_
      refine g_cond rfl (fun hc2 => ?_) (fun hc2 => ?_)
      · replace hj1 := cond_t hc2 hj1
        refine g_skip ?_
        refine g_seq ?_
        refine g_block ?_
        refine g_seq ?_
        obtain ⟨x1, hx1, hj1⟩ := bind_some hj1
        obtain ⟨x2, hx2, hj1⟩ := bind_some hj1
        refine g_draw_x [] [12, 13] [5, 6, 7, 8, 9] [10, 11] [] Try_mixed (by decide +kernel) (by decide +kernel) rfl ?_
        refine gdx_p rfl rfl rfl rfl rfl rfl (o_fieldAddr fi_53_0 rfl rfl rfl) ?_
        refine gdx_p rfl rfl rfl rfl rfl rfl (o_load Try.isAgg51 rfl rfl) ?_
        refine gdx_p rfl rfl rfl rfl rfl rfl (o_move rfl) ?_
        refine gdx_p rfl rfl rfl rfl rfl rfl (o_indexAddr_m Try.runUnderlying51 Try.sizeOf56 rfl rfl hx1) ?_
        refine gdx_p rfl rfl rfl rfl rfl rfl (o_load_agg Try.isAgg56 Try.sizeOf56 rfl rfl) ?_
        refine gdx_p rfl rfl rfl rfl rfl rfl (o_fieldAddr fi_53_0 rfl rfl rfl) ?_
        refine gdx_p rfl rfl rfl rfl rfl rfl (o_load Try.isAgg51 rfl rfl) ?_
        refine gdx_p rfl rfl rfl rfl rfl rfl (o_move rfl) ?_
        refine gdx_p rfl rfl rfl rfl rfl rfl (o_indexAddr_m Try.runUnderlying51 Try.sizeOf56 rfl rfl hx2) ?_
        refine gdx_p rfl rfl rfl rfl rfl rfl (o_load_agg Try.isAgg56 Try.sizeOf56 rfl rfl) ?_
        refine gdx_fresh (R0 := fun d A => ∃ b, d = .v (.pointer (some ⟨b, 0, none⟩)) ∧ A = box b 56 [.i64 0, .i64 0, .i64 0, .list 2 ApiTField.d []]) rfl rfl rfl rfl (OpT.mono (o_alloc_own Try.zeroValue56 (cs := [.i64 0, .i64 0, .i64 0, .list 2 ApiTField.d []]) rfl) (by rintro d ms' ⟨b, rfl, rfl⟩; exact ⟨_, ⟨b, rfl, rfl⟩, rfl⟩)) ?_
        refine gdx_fresh (R0 := fun d A => ∃ b, d = .v (.pointer (some ⟨b, 0, none⟩)) ∧ A = box b 56 [.i64 0, .i64 0, .i64 0, .list 2 ApiTField.d []]) rfl rfl rfl rfl (OpT.mono (o_alloc_own Try.zeroValue56 (cs := [.i64 0, .i64 0, .i64 0, .list 2 ApiTField.d []]) rfl) (by rintro d ms' ⟨b, rfl, rfl⟩; exact ⟨_, ⟨b, rfl, rfl⟩, rfl⟩)) ?_
        refine gdx_e rfl ?_
        refine gdx_e rfl ?_
        refine gdx_nil ?_
        refine gf_nil [(10, 6), (11, 7)] rfl ?_
        rintro _ _ ⟨b1, rfl, rfl⟩
        rintro _ _ ⟨b2, rfl, rfl⟩
        show _ ∧ _
        refine ⟨(trivial : True), ?_⟩
        refine gde2_u rfl rfl rfl (o_store_box 0 Try.sizeOf56 rfl rfl rfl rfl rfl rfl rfl rfl (Nat.le_of_ble_eq_true rfl)) ?_
        rintro _ _ rfl
        refine ⟨(trivial : True), ?_⟩
        refine gde2_u rfl rfl rfl (o_store_box 1 Try.sizeOf56 rfl rfl rfl rfl rfl rfl rfl rfl (Nat.le_of_ble_eq_true rfl)) ?_
        rintro _ _ rfl
        refine ⟨(trivial : True), ?_⟩
        refine gde2_nil ?_
        refine g_seq ?_
        refine g_seq ?_
        refine g_region ?_
        refine go_p rfl rfl rfl (o_fieldAddr_box fi_56_0 rfl) ?_
        refine go_p rfl rfl rfl (o_load_box 0 Try.isAgg3 rfl rfl rfl rfl) ?_
        refine go_p rfl rfl rfl (o_fieldAddr_box fi_56_0 rfl) ?_
        refine go_p rfl rfl rfl (o_load_box 1 Try.isAgg3 rfl rfl rfl rfl) ?_
        refine go_p rfl rfl rfl (o_cmp rfl rfl rfl) ?_
        refine go_p rfl rfl rfl (o_move rfl) ?_
        apply go_or [(2, _), (3, _), (5, _), (6, _), (7, _)] 6 51 (t := 45) ⟨rfl, rfl, rfl, rfl, rfl, trivial⟩ rfl
        · intro hg_2 hk2
          refine go_wantp rfl rfl rfl hg_2 rfl rfl (o_fieldAddr_box fi_56_1 rfl) ?_
          refine go_wantp rfl rfl rfl hg_2 rfl rfl (o_load_box 0 Try.isAgg3 rfl rfl rfl rfl) ?_
          refine go_wantp rfl rfl rfl hg_2 rfl rfl (o_fieldAddr_box fi_56_1 rfl) ?_
          refine go_wantp rfl rfl rfl hg_2 rfl rfl (o_load_box 1 Try.isAgg3 rfl rfl rfl rfl) ?_
          refine go_wantp rfl rfl rfl hg_2 rfl rfl (o_cmp rfl rfl rfl) ?_
          refine go_p rfl rfl rfl (o_pickF rfl hg_2 rfl) ?_
          exact go_meet hk2 (rfl) ⟨rfl, rfl, rfl, rfl, rfl, trivial⟩
        · intro hg_2 hk2
          refine go_skip rfl rfl rfl hg_2 rfl rfl ?_
          refine go_skip rfl rfl rfl hg_2 rfl rfl ?_
          refine go_skip rfl rfl rfl hg_2 rfl rfl ?_
          refine go_skip rfl rfl rfl hg_2 rfl rfl ?_
          refine go_skip rfl rfl rfl hg_2 rfl rfl ?_
          refine go_p rfl rfl rfl (o_pickT rfl hg_2 rfl) ?_
          exact go_meet hk2 (rfl) ⟨rfl, rfl, rfl, rfl, rfl, trivial⟩
        refine go_p rfl rfl rfl (o_move rfl) ?_
        apply go_or [(2, _), (3, _), (5, _), (6, _), (7, _)] 6 58 (t := 52) ⟨rfl, rfl, rfl, rfl, rfl, trivial⟩ rfl
        · intro hg_3 hk3
          refine go_wantp rfl rfl rfl hg_3 rfl rfl (o_fieldAddr_box fi_56_2 rfl) ?_
          refine go_wantp rfl rfl rfl hg_3 rfl rfl (o_load_box 0 Try.isAgg3 rfl rfl rfl rfl) ?_
          refine go_wantp rfl rfl rfl hg_3 rfl rfl (o_fieldAddr_box fi_56_2 rfl) ?_
          refine go_wantp rfl rfl rfl hg_3 rfl rfl (o_load_box 1 Try.isAgg3 rfl rfl rfl rfl) ?_
          refine go_wantp rfl rfl rfl hg_3 rfl rfl (o_cmp rfl rfl rfl) ?_
          refine go_p rfl rfl rfl (o_pickF rfl hg_3 rfl) ?_
          exact go_meet hk3 (rfl) ⟨rfl, rfl, rfl, rfl, rfl, trivial⟩
        · intro hg_3 hk3
          refine go_skip rfl rfl rfl hg_3 rfl rfl ?_
          refine go_skip rfl rfl rfl hg_3 rfl rfl ?_
          refine go_skip rfl rfl rfl hg_3 rfl rfl ?_
          refine go_skip rfl rfl rfl hg_3 rfl rfl ?_
          refine go_skip rfl rfl rfl hg_3 rfl rfl ?_
          refine go_p rfl rfl rfl (o_pickT rfl hg_3 rfl) ?_
          exact go_meet hk3 (rfl) ⟨rfl, rfl, rfl, rfl, rfl, trivial⟩
        refine go_p rfl rfl rfl (o_move rfl) ?_
        apply go_or [(2, _), (3, _), (5, _), (6, _), (7, _)] 8 67 (t := 59) ⟨rfl, rfl, rfl, rfl, rfl, trivial⟩ rfl
        · intro hg_4 hk4
          refine go_wantp rfl rfl rfl hg_4 rfl rfl (o_fieldAddr_box fi_56_3 rfl) ?_
          refine go_wantp rfl rfl rfl hg_4 rfl rfl (o_load_box 0 Try.isAgg54 rfl rfl rfl rfl) ?_
          refine go_wantp rfl rfl rfl hg_4 rfl rfl (o_len Try.runUnderlying54 rfl) ?_
          refine go_wantp rfl rfl rfl hg_4 rfl rfl (o_fieldAddr_box fi_56_3 rfl) ?_
          refine go_wantp rfl rfl rfl hg_4 rfl rfl (o_load_box 1 Try.isAgg54 rfl rfl rfl rfl) ?_
          refine go_wantp rfl rfl rfl hg_4 rfl rfl (o_len Try.runUnderlying54 rfl) ?_
          refine go_wantp rfl rfl rfl hg_4 rfl rfl (o_cmp rfl rfl rfl) ?_
          refine go_p rfl rfl rfl (o_pickF rfl hg_4 rfl) ?_
          exact go_meet hk4 (rfl) ⟨rfl, rfl, rfl, rfl, rfl, trivial⟩
        · intro hg_4 hk4
          refine go_skip rfl rfl rfl hg_4 rfl rfl ?_
          refine go_skip rfl rfl rfl hg_4 rfl rfl ?_
          refine go_skip rfl rfl rfl hg_4 rfl rfl ?_
          refine go_skip rfl rfl rfl hg_4 rfl rfl ?_
          refine go_skip rfl rfl rfl hg_4 rfl rfl ?_
          refine go_skip rfl rfl rfl hg_4 rfl rfl ?_
          refine go_skip rfl rfl rfl hg_4 rfl rfl ?_
          refine go_p rfl rfl rfl (o_pickT rfl hg_4 rfl) ?_
          exact go_meet hk4 (rfl) ⟨rfl, rfl, rfl, rfl, rfl, trivial⟩
        refine go_nil ?_
        refine g_cond rfl (fun hc3 => ?_) (fun hc3 => ?_)
        · replace hj1 := cond_t hc3 hj1
          refine g_seq ?_
          refine g_region ?_
          refine go_p rfl rfl rfl (o_assign rfl) ?_
          refine go_nil ?_
          refine g_ret ?_
          obtain rfl := some_eq hj1
          replace hm1 := on_ret hm1
          exact retK (ret_one' rfl (ret_tmp rfl) (perm_drop _)) (congrArg (fun (p : Bool) => (.bool p : D)) (some_eq hm1))
        · replace hj1 := cond_f hc3 hj1
          refine g_skip ?_
          refine g_seq ?_
          refine g_region ?_
          refine go_p rfl rfl rfl (o_assign rfl) ?_
          refine go_nil ?_
          obtain ⟨o_2, hj2, hm2⟩ := bind_some hj1
          refine g_cut_m [(2, _), (3, _), (5, _)] [(0, _), (1, _)] (fun (st : Unit) (hid : Unit) => match st, hid with | _, _ => []) (fun F (st : Unit) (hid : Unit) => match st, hid with | _, _ => [(nthF F 0), (nthF F 1)]) (fun st => Out.go (st) = o_2) ⟨rfl, rfl, rfl, trivial⟩ ⟨rfl, rfl, trivial⟩ ?_ ?_
          · skip
            refine g_block ?_
            refine g_loop_m [(2, _), (3, _), (5, _), (6, _), (7, _)] [(0, _), (1, _)] (fun (st : Int) (hid : Unit) => match st, hid with | k1, _ => [(8, .i64 k1)]) (fun F (st : Int) (hid : Unit) => match st, hid with | k1, _ => [(nthF F 0), (nthF F 1)]) () hj2 (fun _ => rfl) ⟨rfl, rfl, rfl, rfl, rfl, trivial⟩ ⟨rfl, rfl, trivial⟩ ⟨rfl, trivial⟩ rfl ?_
            rintro n k1 _ hj2
            rw [m_syntagmaref13_SameList_l2] at hj2
            refine g_norm (L' := [(8, .i64 k1), (2, _), (3, _), (5, _), (6, _), (7, _)]) (ms' := [_, _]) rfl rfl ?_
            refine g_seq ?_
            refine g_seq ?_
            refine g_region ?_
            refine go_p rfl rfl rfl (o_move rfl) ?_
            refine go_p rfl rfl rfl (o_fieldAddr_box fi_56_3 rfl) ?_
            refine go_p rfl rfl rfl (o_load_box 0 Try.isAgg54 rfl rfl rfl rfl) ?_
            refine go_p rfl rfl rfl (o_len Try.runUnderlying54 rfl) ?_
            refine go_p rfl rfl rfl (o_cmp rfl rfl rfl) ?_
            refine go_nil ?_
            refine g_cond rfl (fun hc4 => ?_) (fun hc4 => ?_)
            · replace hj2 := cond_t hc4 hj2
              refine g_skip ?_
              refine g_seq ?_
              refine g_block ?_
              refine g_seq ?_
              obtain ⟨x3, hx3, hj2⟩ := bind_some hj2
              obtain ⟨x4, hx4, hj2⟩ := bind_some hj2
              refine g_draw 11 Try_mixed (by decide +kernel) ?_
              refine gd_p rfl rfl rfl (o_fieldAddr_box fi_56_3 rfl) ?_
              refine gd_p rfl rfl rfl (o_load_box 0 Try.isAgg54 rfl rfl rfl rfl) ?_
              refine gd_p rfl rfl rfl (o_move rfl) ?_
              refine gd_p rfl rfl rfl (o_indexAddr_m Try.runUnderlying54 Try.sizeOf100 rfl rfl hx3) ?_
              refine gd_p rfl rfl rfl (o_load_agg Try.isAgg100 Try.sizeOf100 rfl rfl) ?_
              refine gd_p rfl rfl rfl (o_fieldAddr_box fi_56_3 rfl) ?_
              refine gd_p rfl rfl rfl (o_load_box 1 Try.isAgg54 rfl rfl rfl rfl) ?_
              refine gd_p rfl rfl rfl (o_move rfl) ?_
              refine gd_p rfl rfl rfl (o_indexAddr_m Try.runUnderlying54 Try.sizeOf100 rfl rfl hx4) ?_
              refine gd_p rfl rfl rfl (o_load_agg Try.isAgg100 Try.sizeOf100 rfl rfl) ?_
              refine gd_p rfl rfl rfl (o_neqagg (ks := [.str, .int]) Try.underlying100 (by kernel_rfl) (by kernel_rfl) (eqf_100 _ Try.underlying100) rfl rfl rfl) ?_
              refine gd_nil ?_
              refine go_nil ?_
              refine g_cond rfl (fun hc5 => ?_) (fun hc5 => ?_)
              · replace hj2 := cond_t hc5 hj2
                refine g_seq ?_
                refine g_region ?_
                refine go_p rfl rfl rfl (o_assign rfl) ?_
                refine go_nil ?_
                refine g_ret ?_
                obtain rfl := some_eq hj2
                replace hm2 := on_ret hm2
                obtain rfl := some_eq hm2
                replace hm1 := on_ret hm1
                exact retK (ret_one' rfl (ret_tmp rfl) (perm_drop _)) (congrArg (fun (p : Bool) => (.bool p : D)) (some_eq hm1))
              · replace hj2 := cond_f hc5 hj2
                refine g_skip ?_
                refine g_region ?_
                refine go_p rfl rfl rfl (o_move rfl) ?_
                obtain ⟨hg5, hj2⟩ := grd_some hj2
                refine go_p rfl rfl rfl (o_add rfl rfl (i64_id hg5)) ?_
                refine go_p rfl rfl rfl (o_assign rfl) ?_
                refine go_nil ?_
                exact ⟨_, (), hj2, ⟨rfl, trivial⟩, ⟨rfl, rfl, rfl, rfl, rfl, trivial⟩, [], rfl⟩
            · replace hj2 := cond_f hc4 hj2
              refine g_exit ?_
              exact ⟨_, (), some_eq hj2, trivial, ⟨rfl, rfl, rfl, trivial⟩, [], rfl⟩
          · rintro _ _ hst
            subst hst
            replace hm2 := on_go hm2
            refine k_norm (L' := [(2, _), (3, _), (5, _)]) (ms' := [_, _]) rfl rfl ?_
            refine g_region ?_
            refine go_p rfl rfl rfl (o_move rfl) ?_
            obtain ⟨hg6, hm2⟩ := grd_some hm2
            refine go_p rfl rfl rfl (o_add rfl rfl (i64_id hg6)) ?_
            refine go_p rfl rfl rfl (o_assign rfl) ?_
            refine go_nil ?_
            exact ⟨_, (), hm2, ⟨rfl, trivial⟩, ⟨rfl, rfl, trivial⟩, [_, _], rfl⟩
      · replace hj1 := cond_f hc2 hj1
        refine g_exit ?_
        exact ⟨_, (), some_eq hj1, trivial, trivial, [], rfl⟩
    · rintro _ _ hst
      subst hst
      replace hm1 := on_go hm1
      refine k_norm (L' := []) (ms' := []) rfl rfl ?_
      refine g_seq ?_
      refine g_region ?_
      refine go_p rfl rfl rfl (o_assign rfl) ?_
      refine go_nil ?_
      refine g_ret ?_
      exact retK (ret_one' rfl (ret_tmp rfl) (perm_drop _)) (congrArg (fun (p : Bool) => (.bool p : D)) (some_eq hm1))
def m_graph_At (t1 : ApiType) (i1 : Int) : Option (ApiType × Int) :=
  (m_graph_May t1).bind fun x1 =>
  bif (!decide (x1 = 0)) then
    some ((⟨([] : List ApiTNode), 0⟩ : ApiType), x1)
  else
    bif ((decide (i1 < 0)) || (decide ((t1.l.length : Int) ≤ i1))) then
      some ((⟨([] : List ApiTNode), 0⟩ : ApiType), 3)
    else
      (m_graph_norm t1 i1).bind fun x2 =>
      some ((⟨x2.l, x2.root⟩ : ApiType), 0)
theorem w_graph_At {t1 : ApiType} {i1 : Int} {r_1 : ApiType} {r_2 : Int} (hm : m_graph_At t1 i1 = some (r_1, r_2)) : Fn0 Try.prog 42 [ApiType.d t1, .i64 i1] (.tup [ApiType.d r_1, .i64 r_2]) := by
  unfold m_graph_At at hm
  refine fn_intro Try.func42 rfl Try.ntmps42 rfl fun H0 fr w0 => ?_
  refine g_seq ?_
  refine g_region ?_
  refine go_p rfl rfl rfl (o_box rfl rfl) ?_
  refine go_op rfl rfl rfl (o_alloc_own Try.zeroValue53 (cs := [.list 4 ApiTNode.d [], .i64 0]) rfl) ?_
  rintro _ _ ⟨b1, rfl, rfl⟩
  refine go_p rfl rfl rfl (o_assign rfl) ?_
  refine go_nil ?_
  refine g_seq ?_
  refine g_seq ?_
  refine g_region ?_
  refine go_p rfl rfl rfl (o_load_agg Try.isAgg53 Try.sizeOf53 rfl rfl) ?_
  obtain ⟨x1, hx1, hm⟩ := bind_some hm
  refine go_p rfl rfl rfl (o_call0 Try.call31 rfl (w_graph_May hx1)) ?_
  refine go_p rfl rfl rfl (o_assign rfl) ?_
  refine go_nil ?_
  refine g_seq ?_
  refine g_region ?_
  refine go_p rfl rfl rfl (o_move rfl) ?_
  refine go_p rfl rfl rfl (o_cmp rfl rfl rfl) ?_
  refine go_nil ?_
  refine g_cond rfl (fun hc1 => ?_) (fun hc1 => ?_)
  · replace hm := cond_t hc1 hm
    refine g_seq ?_
    refine g_region ?_
    refine go_p rfl rfl rfl (o_build (zs := [.list 4 ApiTNode.d [], .v (.int .i64 0)]) Try.runUnderlying53 Try.zeroValue53 (pl_53 _ Try.runUnderlying53) rfl rfl rfl rfl) ?_
    refine go_p rfl rfl rfl (o_move rfl) ?_
    refine go_u rfl rfl (o_store_box 0 Try.sizeOf53 rfl rfl rfl rfl rfl rfl rfl rfl (Nat.le_of_ble_eq_true rfl)) ?_
    rintro _ _ rfl
    refine go_ms (ms' := [box b1 53 [_, _]]) rfl ?_
    refine go_p rfl rfl rfl (o_assign rfl) ?_
    refine go_nil ?_
    refine g_ret ?_
    exact retK (ret_many (ds := [_, _]) rfl (by decide) ⟨ret_cell 0 rfl rfl rfl Try.isAgg53 Try.sizeOf53 rfl, ⟨ret_tmp rfl, rfl⟩⟩ (perm_drop _)) (congrArg (fun (p : (ApiType × Int)) => D.tup [ApiType.d p.1, .i64 p.2]) (some_eq hm))
  · replace hm := cond_f hc1 hm
    refine g_skip ?_
    refine g_seq ?_
    refine g_seq ?_
    refine g_region ?_
    refine go_p rfl rfl rfl (o_move rfl) ?_
    refine go_p rfl rfl rfl (o_cmp rfl rfl rfl) ?_
    refine go_p rfl rfl rfl (o_move rfl) ?_
    apply go_or [(1, _), (2, _), (4, _)] 6 21 (t := 15) ⟨rfl, rfl, rfl, trivial⟩ rfl
    · intro hg_1 hk1
      refine go_wantp rfl rfl rfl hg_1 rfl rfl (o_move rfl) ?_
      refine go_wantp rfl rfl rfl hg_1 rfl rfl (o_fieldAddr fi_53_0 rfl rfl rfl) ?_
      refine go_wantp rfl rfl rfl hg_1 rfl rfl (o_load Try.isAgg51 rfl rfl) ?_
      refine go_wantp rfl rfl rfl hg_1 rfl rfl (o_len Try.runUnderlying51 rfl) ?_
      refine go_wantp rfl rfl rfl hg_1 rfl rfl (o_cmp rfl rfl rfl) ?_
      refine go_p rfl rfl rfl (o_pickF rfl hg_1 rfl) ?_
      exact go_meet hk1 (rfl) ⟨rfl, rfl, rfl, trivial⟩
    · intro hg_1 hk1
      refine go_skip rfl rfl rfl hg_1 rfl rfl ?_
      refine go_skip rfl rfl rfl hg_1 rfl rfl ?_
      refine go_skip rfl rfl rfl hg_1 rfl rfl ?_
      refine go_skip rfl rfl rfl hg_1 rfl rfl ?_
      refine go_skip rfl rfl rfl hg_1 rfl rfl ?_
      refine go_p rfl rfl rfl (o_pickT rfl hg_1 rfl) ?_
      exact go_meet hk1 (rfl) ⟨rfl, rfl, rfl, trivial⟩
    refine go_nil ?_
    refine g_cond rfl (fun hc2 => ?_) (fun hc2 => ?_)
    · replace hm := cond_t hc2 hm
      refine g_seq ?_
      refine g_region ?_
      refine go_p rfl rfl rfl (o_build (zs := [.list 4 ApiTNode.d [], .v (.int .i64 0)]) Try.runUnderlying53 Try.zeroValue53 (pl_53 _ Try.runUnderlying53) rfl rfl rfl rfl) ?_
      refine go_u rfl rfl (o_store_box 0 Try.sizeOf53 rfl rfl rfl rfl rfl rfl rfl rfl (Nat.le_of_ble_eq_true rfl)) ?_
      rintro _ _ rfl
      refine go_ms (ms' := [box b1 53 [_, _]]) rfl ?_
      refine go_p rfl rfl rfl (o_assign rfl) ?_
      refine go_nil ?_
      refine g_ret ?_
      exact retK (ret_many (ds := [_, _]) rfl (by decide) ⟨ret_cell 0 rfl rfl rfl Try.isAgg53 Try.sizeOf53 rfl, ⟨ret_tmp rfl, rfl⟩⟩ (perm_drop _)) (congrArg (fun (p : (ApiType × Int)) => D.tup [ApiType.d p.1, .i64 p.2]) (some_eq hm))
    · replace hm := cond_f hc2 hm
      refine g_skip ?_
      refine g_seq ?_
      refine g_region ?_
      refine go_p rfl rfl rfl (o_load_agg Try.isAgg53 Try.sizeOf53 rfl rfl) ?_
      refine go_p rfl rfl rfl (o_move rfl) ?_
      obtain ⟨x2, hx2, hm⟩ := bind_some hm
      refine go_p rfl rfl rfl (o_call0 Try.call86 rfl (w_graph_norm hx2)) ?_
      refine go_u rfl rfl (o_store_box 0 Try.sizeOf53 rfl rfl rfl rfl rfl rfl rfl rfl (Nat.le_of_ble_eq_true rfl)) ?_
      rintro _ _ rfl
      refine go_ms (ms' := [box b1 53 [_, _]]) rfl ?_
      refine go_p rfl rfl rfl (o_assign rfl) ?_
      refine go_nil ?_
      refine g_ret ?_
      exact retK (ret_many (ds := [_, _]) rfl (by decide) ⟨ret_cell 0 rfl rfl rfl Try.isAgg53 Try.sizeOf53 rfl, ⟨ret_tmp rfl, rfl⟩⟩ (perm_drop _)) (congrArg (fun (p : (ApiType × Int)) => D.tup [ApiType.d p.1, .i64 p.2]) (some_eq hm))
def m_slices_EqualFunc_api_TNode_api_TNode_api_TNode_api_TNode_l1 (s1 : (List ApiTNode)) (s2 : (List ApiTNode)) (eq1 : (ApiTNode → ApiTNode → Option Bool)) : Nat → Int → Option (Out Bool Unit)
  | 0, _ => none
  | n + 1, x1 =>
    bif (decide (x1 < (s1.length : Int))) then
      (idx s1 x1).bind fun x2 =>
      (idx s2 x1).bind fun x3 =>
      (eq1 (⟨x2.kind, x2.a, x2.b, x2.l⟩ : ApiTNode) (⟨x3.kind, x3.a, x3.b, x3.l⟩ : ApiTNode)).bind fun x4 =>
      bif (!x4) then
        some (Out.ret false)
      else
        grd (InR (x1 + 1)) <|
        m_slices_EqualFunc_api_TNode_api_TNode_api_TNode_api_TNode_l1 s1 s2 eq1 n (x1 + 1)
    else
      some (Out.go (()))
def m_slices_EqualFunc_api_TNode_api_TNode_api_TNode_api_TNode (s1 : (List ApiTNode)) (s2 : (List ApiTNode)) (eq1 : (ApiTNode → ApiTNode → Option Bool)) : Option Bool :=
  bif (!decide ((s1.length : Int) = (s2.length : Int))) then
    some false
  else
    ((m_slices_EqualFunc_api_TNode_api_TNode_api_TNode_api_TNode_l1 s1 s2 eq1 FU 0 : Option (Out Bool Unit))).bind (fun oo => oo.on (fun r1 => some r1) (fun _ =>
    some true))
theorem w_slices_EqualFunc_api_TNode_api_TNode_api_TNode_api_TNode {s1 : (List ApiTNode)} {s2 : (List ApiTNode)} {eq1 : (ApiTNode → ApiTNode → Option Bool)} {r_1 : Bool} {fv_eq1 : D} (hfeq1 : FunOk2 Try.prog fv_eq1 ApiTNode.d ApiTNode.d D.bool eq1) (hm : m_slices_EqualFunc_api_TNode_api_TNode_api_TNode_api_TNode s1 s2 eq1 = some r_1) : Fn0 Try.prog 87 [.list 4 ApiTNode.d s1, .list 4 ApiTNode.d s2, fv_eq1] (.bool r_1) := by
  unfold m_slices_EqualFunc_api_TNode_api_TNode_api_TNode_api_TNode at hm
  refine fn_intro Try.func87 rfl Try.ntmps87 rfl fun H0 fr w0 => ?_
  refine g_seq ?_
  refine g_region ?_
  refine go_p rfl rfl rfl (o_assign rfl) ?_
  refine go_nil ?_
  refine g_seq ?_
  refine g_seq ?_
  refine g_region ?_
  refine go_p rfl rfl rfl (o_move rfl) ?_
  refine go_p rfl rfl rfl (o_len Try.runUnderlying51 rfl) ?_
  refine go_p rfl rfl rfl (o_move rfl) ?_
  refine go_p rfl rfl rfl (o_len Try.runUnderlying51 rfl) ?_
  refine go_p rfl rfl rfl (o_cmp rfl rfl rfl) ?_
  refine go_nil ?_
  refine g_cond rfl (fun hc1 => ?_) (fun hc1 => ?_)
  · replace hm := cond_t hc1 hm
    refine g_seq ?_
    refine g_region ?_
    refine go_p rfl rfl rfl (o_assign rfl) ?_
    refine go_nil ?_
    refine g_ret ?_
    exact retK (ret_one' rfl (ret_tmp rfl) (perm_drop _)) (congrArg (fun (p : Bool) => (.bool p : D)) (some_eq hm))
  · replace hm := cond_f hc1 hm
    refine g_skip ?_
    refine g_seq ?_
    refine g_seq ?_
    refine g_region ?_
    refine go_p rfl rfl rfl (o_move rfl) ?_
    refine go_p rfl rfl rfl (o_len Try.runUnderlying51 rfl) ?_
    refine go_p rfl rfl rfl (o_move rfl) ?_
    refine go_nil ?_
    obtain ⟨o_1, hj1, hm1⟩ := bind_some hm
    refine g_cut_m [] [] (fun (st : Unit) (hid : Unit) => match st, hid with | _, _ => []) (fun F (st : Unit) (hid : Unit) => match st, hid with | _, _ => []) (fun st => Out.go (st) = o_1) trivial trivial ?_ ?_
    · skip
      refine g_block ?_
      refine g_loop_m [(1, _), (2, _), (15, _), (16, _)] [] (fun (st : Int) (hid : Unit) => match st, hid with | x1, _ => [(17, .i64 x1)]) (fun F (st : Int) (hid : Unit) => match st, hid with | x1, _ => []) () hj1 (fun _ => rfl) ⟨rfl, rfl, rfl, rfl, trivial⟩ trivial ⟨rfl, trivial⟩ rfl ?_
      rintro n x1 _ hj1
      rw [m_slices_EqualFunc_api_TNode_api_TNode_api_TNode_api_TNode_l1] at hj1
      refine g_norm (L' := [(17, .i64 x1), (1, _), (2, _), (15, _), (16, _)]) (ms' := []) rfl rfl ?_
      refine g_seq ?_
      refine g_region ?_
      refine go_p rfl rfl rfl (o_cmp rfl rfl rfl) ?_
      refine go_nil ?_
      refine g_seq ?_
      refine g_cond rfl (fun hc2 => ?_) (fun hc2 => ?_)
      · replace hj1 := cond_t hc2 hj1
        refine g_skip ?_
        refine g_seq ?_
        refine g_block ?_
        refine g_seq ?_
        refine g_region ?_
        refine go_p rfl rfl rfl (o_move rfl) ?_
        obtain ⟨x2, hx1, hj1⟩ := bind_some hj1
        refine go_p rfl rfl rfl (o_indexAddr_m Try.runUnderlying51 Try.sizeOf56 rfl rfl hx1) ?_
        refine go_p rfl rfl rfl (o_load_agg Try.isAgg56 Try.sizeOf56 rfl rfl) ?_
        refine go_op rfl rfl rfl (o_alloc_own Try.zeroValue56 (cs := [.i64 0, .i64 0, .i64 0, .list 2 ApiTField.d []]) rfl) ?_
        rintro _ _ ⟨b1, rfl, rfl⟩
        refine go_p rfl rfl rfl (o_assign rfl) ?_
        refine go_u rfl rfl (o_store_box 0 Try.sizeOf56 rfl rfl rfl rfl rfl rfl rfl rfl (Nat.le_of_ble_eq_true rfl)) ?_
        rintro _ _ rfl
        refine go_ms (ms' := [box b1 56 [_, _, _, _]]) rfl ?_
        refine go_nil ?_
        refine g_seq ?_
        refine g_region ?_
        refine go_p rfl rfl rfl (o_move rfl) ?_
        refine go_p rfl rfl rfl (o_move rfl) ?_
        obtain ⟨x3, hx2, hj1⟩ := bind_some hj1
        refine go_p rfl rfl rfl (o_indexAddr_m Try.runUnderlying51 Try.sizeOf56 rfl rfl hx2) ?_
        refine go_p rfl rfl rfl (o_load_agg Try.isAgg56 Try.sizeOf56 rfl rfl) ?_
        refine go_op rfl rfl rfl (o_alloc_own Try.zeroValue56 (cs := [.i64 0, .i64 0, .i64 0, .list 2 ApiTField.d []]) rfl) ?_
        rintro _ _ ⟨b2, rfl, rfl⟩
        refine go_u rfl rfl (o_store_box 0 Try.sizeOf56 rfl rfl rfl rfl rfl rfl rfl rfl (Nat.le_of_ble_eq_true rfl)) ?_
        rintro _ _ rfl
        refine go_ms (ms' := [box b2 56 [_, _, _, _], box b1 56 [_, _, _, _]]) rfl ?_
        refine go_nil ?_
        refine g_seq ?_
        refine g_region ?_
        refine go_p rfl rfl rfl (o_move rfl) ?_
        refine go_p rfl rfl rfl (o_load_box_agg 1 Try.isAgg56 Try.sizeOf56 rfl rfl rfl rfl (Nat.le_of_ble_eq_true rfl)) ?_
        refine go_p rfl rfl rfl (o_load_box_agg 0 Try.isAgg56 Try.sizeOf56 rfl rfl rfl rfl (Nat.le_of_ble_eq_true rfl)) ?_
        obtain ⟨x4, hx3, hj1⟩ := bind_some hj1
        refine go_p rfl rfl rfl (o_callv0 rfl rfl (hfeq1 _ _ _ hx3)) ?_
        refine go_p rfl rfl rfl (o_not rfl) ?_
        refine go_nil ?_
        refine g_cond rfl (fun hc3 => ?_) (fun hc3 => ?_)
        · replace hj1 := cond_t hc3 hj1
          refine g_seq ?_
          refine g_region ?_
          refine go_p rfl rfl rfl (o_assign rfl) ?_
          refine go_nil ?_
          refine g_ret ?_
          obtain rfl := some_eq hj1
          replace hm1 := on_ret hm1
          exact retK (ret_one' rfl (ret_tmp rfl) (perm_drop _)) (congrArg (fun (p : Bool) => (.bool p : D)) (some_eq hm1))
        · replace hj1 := cond_f hc3 hj1
          refine g_skip ?_
          refine g_region ?_
          obtain ⟨hg4, hj1⟩ := grd_some hj1
          refine go_p rfl rfl rfl (o_add rfl rfl (i64_id hg4)) ?_
          refine go_p rfl rfl rfl (o_move rfl) ?_
          refine go_nil ?_
          exact ⟨_, (), hj1, ⟨rfl, trivial⟩, ⟨rfl, rfl, rfl, rfl, trivial⟩, [_, _], rfl⟩
      · replace hj1 := cond_f hc2 hj1
        refine g_exit ?_
        exact ⟨_, (), some_eq hj1, trivial, trivial, [], rfl⟩
    · rintro _ _ hst
      subst hst
      replace hm1 := on_go hm1
      refine k_norm (L' := []) (ms' := []) rfl rfl ?_
      refine g_seq ?_
      refine g_region ?_
      refine go_p rfl rfl rfl (o_assign rfl) ?_
      refine go_nil ?_
      refine g_ret ?_
      exact retK (ret_one' rfl (ret_tmp rfl) (perm_drop _)) (congrArg (fun (p : Bool) => (.bool p : D)) (some_eq hm1))
def m_slices_Equal_api_TField_api_TField_l1 (s1 : (List ApiTField)) (s2 : (List ApiTField)) : Nat → Int → Option (Out Bool Unit)
  | 0, _ => none
  | n + 1, x1 =>
    bif (decide (x1 < (s1.length : Int))) then
      (idx s1 x1).bind fun x2 =>
      (idx s2 x1).bind fun x3 =>
      bif (!(ApiTField.eqv x2 x3)) then
        some (Out.ret false)
      else
        grd (InR (x1 + 1)) <|
        m_slices_Equal_api_TField_api_TField_l1 s1 s2 n (x1 + 1)
    else
      some (Out.go (()))
def m_slices_Equal_api_TField_api_TField (s1 : (List ApiTField)) (s2 : (List ApiTField)) : Option Bool :=
  bif (!decide ((s1.length : Int) = (s2.length : Int))) then
    some false
  else
    ((m_slices_Equal_api_TField_api_TField_l1 s1 s2 FU 0 : Option (Out Bool Unit))).bind (fun oo => oo.on (fun r1 => some r1) (fun _ =>
    some true))
theorem w_slices_Equal_api_TField_api_TField {s1 : (List ApiTField)} {s2 : (List ApiTField)} {r_1 : Bool} (hm : m_slices_Equal_api_TField_api_TField s1 s2 = some r_1) : Fn0 Try.prog 124 [.list 2 ApiTField.d s1, .list 2 ApiTField.d s2] (.bool r_1) := by
  unfold m_slices_Equal_api_TField_api_TField at hm
  refine fn_intro Try.func124 rfl Try.ntmps124 rfl fun H0 fr w0 => ?_
  refine g_seq ?_
  refine g_region ?_
  refine go_p rfl rfl rfl (o_assign rfl) ?_
  refine go_nil ?_
  refine g_seq ?_
  refine g_seq ?_
  refine g_region ?_
  refine go_p rfl rfl rfl (o_move rfl) ?_
  refine go_p rfl rfl rfl (o_len Try.runUnderlying54 rfl) ?_
  refine go_p rfl rfl rfl (o_move rfl) ?_
  refine go_p rfl rfl rfl (o_len Try.runUnderlying54 rfl) ?_
  refine go_p rfl rfl rfl (o_cmp rfl rfl rfl) ?_
  refine go_nil ?_
  refine g_cond rfl (fun hc1 => ?_) (fun hc1 => ?_)
  · replace hm := cond_t hc1 hm
    refine g_seq ?_
    refine g_region ?_
    refine go_p rfl rfl rfl (o_assign rfl) ?_
    refine go_nil ?_
    refine g_ret ?_
    exact retK (ret_one' rfl (ret_tmp rfl) (perm_drop _)) (congrArg (fun (p : Bool) => (.bool p : D)) (some_eq hm))
  · replace hm := cond_f hc1 hm
    refine g_skip ?_
    refine g_seq ?_
    refine g_seq ?_
    refine g_region ?_
    refine go_p rfl rfl rfl (o_move rfl) ?_
    refine go_p rfl rfl rfl (o_len Try.runUnderlying54 rfl) ?_
    refine go_p rfl rfl rfl (o_move rfl) ?_
    refine go_nil ?_
    obtain ⟨o_1, hj1, hm1⟩ := bind_some hm
    refine g_cut_m [] [] (fun (st : Unit) (hid : Unit) => match st, hid with | _, _ => []) (fun F (st : Unit) (hid : Unit) => match st, hid with | _, _ => []) (fun st => Out.go (st) = o_1) trivial trivial ?_ ?_
    · skip
      refine g_block ?_
      refine g_loop_m [(0, _), (1, _), (12, _)] [] (fun (st : Int) (hid : Unit) => match st, hid with | x1, _ => [(13, .i64 x1)]) (fun F (st : Int) (hid : Unit) => match st, hid with | x1, _ => []) () hj1 (fun _ => rfl) ⟨rfl, rfl, rfl, trivial⟩ trivial ⟨rfl, trivial⟩ rfl ?_
      rintro n x1 _ hj1
      rw [m_slices_Equal_api_TField_api_TField_l1] at hj1
      refine g_norm (L' := [(13, .i64 x1), (0, _), (1, _), (12, _)]) (ms' := []) rfl rfl ?_
      refine g_seq ?_
      refine g_region ?_
      refine go_p rfl rfl rfl (o_cmp rfl rfl rfl) ?_
      refine go_nil ?_
      refine g_seq ?_
      refine g_cond rfl (fun hc2 => ?_) (fun hc2 => ?_)
      · replace hj1 := cond_t hc2 hj1
        refine g_skip ?_
        refine g_seq ?_
        refine g_block ?_
        refine g_seq ?_
        refine g_region ?_
        refine go_p rfl rfl rfl (o_move rfl) ?_
        refine go_p rfl rfl rfl (o_assign rfl) ?_
        refine go_nil ?_
        refine g_seq ?_
        obtain ⟨x2, hx1, hj1⟩ := bind_some hj1
        obtain ⟨x3, hx2, hj1⟩ := bind_some hj1
        refine g_draw 9 Try_mixed (by decide +kernel) ?_
        refine gd_p rfl rfl rfl (o_move rfl) ?_
        refine gd_p rfl rfl rfl (o_move rfl) ?_
        refine gd_p rfl rfl rfl (o_indexAddr_m Try.runUnderlying54 Try.sizeOf100 rfl rfl hx1) ?_
        refine gd_p rfl rfl rfl (o_load_agg Try.isAgg100 Try.sizeOf100 rfl rfl) ?_
        refine gd_p rfl rfl rfl (o_move rfl) ?_
        refine gd_p rfl rfl rfl (o_move rfl) ?_
        refine gd_p rfl rfl rfl (o_indexAddr_m Try.runUnderlying54 Try.sizeOf100 rfl rfl hx2) ?_
        refine gd_p rfl rfl rfl (o_load_agg Try.isAgg100 Try.sizeOf100 rfl rfl) ?_
        refine gd_p rfl rfl rfl (o_neqagg (ks := [.str, .int]) Try.underlying100 (by kernel_rfl) (by kernel_rfl) (eqf_100 _ Try.underlying100) rfl rfl rfl) ?_
        refine gd_nil ?_
        refine go_nil ?_
        refine g_cond rfl (fun hc3 => ?_) (fun hc3 => ?_)
        · replace hj1 := cond_t hc3 hj1
          refine g_seq ?_
          refine g_region ?_
          refine go_p rfl rfl rfl (o_assign rfl) ?_
          refine go_nil ?_
          refine g_ret ?_
          obtain rfl := some_eq hj1
          replace hm1 := on_ret hm1
          exact retK (ret_one' rfl (ret_tmp rfl) (perm_drop _)) (congrArg (fun (p : Bool) => (.bool p : D)) (some_eq hm1))
        · replace hj1 := cond_f hc3 hj1
          refine g_skip ?_
          refine g_region ?_
          obtain ⟨hg3, hj1⟩ := grd_some hj1
          refine go_p rfl rfl rfl (o_add rfl rfl (i64_id hg3)) ?_
          refine go_p rfl rfl rfl (o_move rfl) ?_
          refine go_nil ?_
          exact ⟨_, (), hj1, ⟨rfl, trivial⟩, ⟨rfl, rfl, rfl, trivial⟩, [], rfl⟩
      · replace hj1 := cond_f hc2 hj1
        refine g_exit ?_
        exact ⟨_, (), some_eq hj1, trivial, trivial, [], rfl⟩
    · rintro _ _ hst
      subst hst
      replace hm1 := on_go hm1
      refine k_norm (L' := []) (ms' := []) rfl rfl ?_
      refine g_seq ?_
      refine g_region ?_
      refine go_p rfl rfl rfl (o_assign rfl) ?_
      refine go_nil ?_
      refine g_ret ?_
      exact retK (ret_one' rfl (ret_tmp rfl) (perm_drop _)) (congrArg (fun (p : Bool) => (.bool p : D)) (some_eq hm1))
def m_graph_sameNode (a1 : ApiTNode) (b1 : ApiTNode) : Option Bool :=
  (bif (((decide (a1.kind = b1.kind)) && (decide (a1.a = b1.a))) && (decide (a1.b = b1.b))) then ((m_slices_Equal_api_TField_api_TField a1.l b1.l).bind fun x1 =>
  some x1) else (some false)).bind fun p1 =>
  some p1
theorem w_graph_sameNode {a1 : ApiTNode} {b1 : ApiTNode} {r_1 : Bool} (hm : m_graph_sameNode a1 b1 = some r_1) : Fn0 Try.prog 88 [ApiTNode.d a1, ApiTNode.d b1] (.bool r_1) := by
  unfold m_graph_sameNode at hm
  refine fn_intro Try.func88 rfl Try.ntmps88 rfl fun H0 fr w0 => ?_
  refine g_seq ?_
  refine g_region ?_
  refine go_p rfl rfl rfl (o_box rfl rfl) ?_
  refine go_p rfl rfl rfl (o_box rfl rfl) ?_
  refine go_p rfl rfl rfl (o_assign rfl) ?_
  refine go_nil ?_
  refine g_seq ?_
  refine g_region ?_
  refine go_p rfl rfl rfl (o_fieldAddr fi_56_0 rfl rfl rfl) ?_
  refine go_p rfl rfl rfl (o_load Try.isAgg3 rfl rfl) ?_
  refine go_p rfl rfl rfl (o_fieldAddr fi_56_0 rfl rfl rfl) ?_
  refine go_p rfl rfl rfl (o_load Try.isAgg3 rfl rfl) ?_
  refine go_p rfl rfl rfl (o_cmp rfl rfl rfl) ?_
  refine go_p rfl rfl rfl (o_move rfl) ?_
  apply go_and [(2, _), (3, _)] 6 16 (t := 10) ⟨rfl, rfl, trivial⟩ rfl
  · intro hg_1 hk1
    refine go_wantp rfl rfl rfl hg_1 rfl rfl (o_fieldAddr fi_56_1 rfl rfl rfl) ?_
    refine go_wantp rfl rfl rfl hg_1 rfl rfl (o_load Try.isAgg3 rfl rfl) ?_
    refine go_wantp rfl rfl rfl hg_1 rfl rfl (o_fieldAddr fi_56_1 rfl rfl rfl) ?_
    refine go_wantp rfl rfl rfl hg_1 rfl rfl (o_load Try.isAgg3 rfl rfl) ?_
    refine go_wantp rfl rfl rfl hg_1 rfl rfl (o_cmp rfl rfl rfl) ?_
    refine go_p rfl rfl rfl (o_pickT rfl hg_1 rfl) ?_
    exact go_meet hk1 (rfl) ⟨rfl, rfl, trivial⟩
  · intro hg_1 hk1
    refine go_skip rfl rfl rfl hg_1 rfl rfl ?_
    refine go_skip rfl rfl rfl hg_1 rfl rfl ?_
    refine go_skip rfl rfl rfl hg_1 rfl rfl ?_
    refine go_skip rfl rfl rfl hg_1 rfl rfl ?_
    refine go_skip rfl rfl rfl hg_1 rfl rfl ?_
    refine go_p rfl rfl rfl (o_pickF rfl hg_1 rfl) ?_
    exact go_meet hk1 (rfl) ⟨rfl, rfl, trivial⟩
  refine go_p rfl rfl rfl (o_move rfl) ?_
  apply go_and [(2, _), (3, _)] 6 23 (t := 17) ⟨rfl, rfl, trivial⟩ rfl
  · intro hg_2 hk2
    refine go_wantp rfl rfl rfl hg_2 rfl rfl (o_fieldAddr fi_56_2 rfl rfl rfl) ?_
    refine go_wantp rfl rfl rfl hg_2 rfl rfl (o_load Try.isAgg3 rfl rfl) ?_
    refine go_wantp rfl rfl rfl hg_2 rfl rfl (o_fieldAddr fi_56_2 rfl rfl rfl) ?_
    refine go_wantp rfl rfl rfl hg_2 rfl rfl (o_load Try.isAgg3 rfl rfl) ?_
    refine go_wantp rfl rfl rfl hg_2 rfl rfl (o_cmp rfl rfl rfl) ?_
    refine go_p rfl rfl rfl (o_pickT rfl hg_2 rfl) ?_
    exact go_meet hk2 (rfl) ⟨rfl, rfl, trivial⟩
  · intro hg_2 hk2
    refine go_skip rfl rfl rfl hg_2 rfl rfl ?_
    refine go_skip rfl rfl rfl hg_2 rfl rfl ?_
    refine go_skip rfl rfl rfl hg_2 rfl rfl ?_
    refine go_skip rfl rfl rfl hg_2 rfl rfl ?_
    refine go_skip rfl rfl rfl hg_2 rfl rfl ?_
    refine go_p rfl rfl rfl (o_pickF rfl hg_2 rfl) ?_
    exact go_meet hk2 (rfl) ⟨rfl, rfl, trivial⟩
  refine go_p rfl rfl rfl (o_move rfl) ?_
  obtain ⟨p1, hp_3, hm⟩ := bind_some hm
  refine go_two [] 6 30 p1 (t := 24) trivial rfl (fun hg_3 hk3 => ?_) (fun hg_3 hk3 => ?_) ?_
  · replace hp_3 := cond_t hg_3 hp_3
    refine go_wantp rfl rfl rfl hg_3 rfl rfl (o_fieldAddr fi_56_3 rfl rfl rfl) ?_
    refine go_wantp rfl rfl rfl hg_3 rfl rfl (o_load Try.isAgg54 rfl rfl) ?_
    refine go_wantp rfl rfl rfl hg_3 rfl rfl (o_fieldAddr fi_56_3 rfl rfl rfl) ?_
    refine go_wantp rfl rfl rfl hg_3 rfl rfl (o_load Try.isAgg54 rfl rfl) ?_
    obtain ⟨x1, hx1, hp_3⟩ := bind_some hp_3
    refine go_wantp rfl rfl rfl hg_3 rfl rfl (o_call0 Try.call124 rfl (w_slices_Equal_api_TField_api_TField hx1)) ?_
    refine go_p rfl rfl rfl (o_pickT rfl hg_3 rfl) ?_
    exact go_meet hk3 (congrArg (fun b => some (D.bool b)) (some_eq hp_3)) trivial
  · replace hp_3 := cond_f hg_3 hp_3
    refine go_skip rfl rfl rfl hg_3 rfl rfl ?_
    refine go_skip rfl rfl rfl hg_3 rfl rfl ?_
    refine go_skip rfl rfl rfl hg_3 rfl rfl ?_
    refine go_skip rfl rfl rfl hg_3 rfl rfl ?_
    refine go_skip rfl rfl rfl hg_3 rfl rfl ?_
    refine go_p rfl rfl rfl (o_pickF rfl hg_3 rfl) ?_
    exact go_meet hk3 (congrArg (fun b => some (D.bool b)) (some_eq hp_3)) trivial
  refine go_p rfl rfl rfl (o_assign rfl) ?_
  refine go_nil ?_
  refine g_ret ?_
  exact retK (ret_one' rfl (ret_tmp rfl) (perm_drop _)) (congrArg (fun (p : Bool) => (.bool p : D)) (some_eq hm))
def m_graph_Same (a1 : ApiType) (b1 : ApiType) : Option Bool :=
  (m_graph_Norm a1).bind fun (x1, x2) =>
  (m_graph_Norm b1).bind fun (x3, x4) =>
  (bif ((decide (x2 = 0)) && (decide (x4 = 0))) then ((m_slices_EqualFunc_api_TNode_api_TNode_api_TNode_api_TNode x1.l x3.l (fun y0 y1 => m_graph_sameNode y0 y1)).bind fun x5 =>
  some x5) else (some false)).bind fun p1 =>
  some p1
theorem w_graph_Same {a1 : ApiType} {b1 : ApiType} {r_1 : Bool} (hm : m_graph_Same a1 b1 = some r_1) : Fn0 Try.prog 43 [ApiType.d a1, ApiType.d b1] (.bool r_1) := by
  unfold m_graph_Same at hm
  refine fn_intro Try.func43 rfl Try.ntmps43 rfl fun H0 fr w0 => ?_
  refine g_seq ?_
  refine g_region ?_
  refine go_p rfl rfl rfl (o_box rfl rfl) ?_
  refine go_p rfl rfl rfl (o_box rfl rfl) ?_
  refine go_p rfl rfl rfl (o_assign rfl) ?_
  refine go_nil ?_
  refine g_seq ?_
  refine g_region ?_
  refine go_p rfl rfl rfl (o_load_agg Try.isAgg53 Try.sizeOf53 rfl rfl) ?_
  obtain ⟨⟨x1, x2⟩, hx1, hm⟩ := bind_some hm
  refine go_p rfl rfl rfl (o_call0 Try.call41 rfl (w_graph_Norm hx1)) ?_
  refine go_p rfl rfl rfl (o_move rfl) ?_
  refine go_p rfl rfl rfl (o_extract rfl rfl) ?_
  refine go_p rfl rfl rfl (o_extract rfl rfl) ?_
  refine go_op rfl rfl rfl (o_alloc_own Try.zeroValue53 (cs := [.list 4 ApiTNode.d [], .i64 0]) rfl) ?_
  rintro _ _ ⟨b1, rfl, rfl⟩
  refine go_u rfl rfl (o_store_box 0 Try.sizeOf53 rfl rfl rfl rfl rfl rfl rfl rfl (Nat.le_of_ble_eq_true rfl)) ?_
  rintro _ _ rfl
  refine go_ms (ms' := [box b1 53 [_, _]]) rfl ?_
  refine go_p rfl rfl rfl (o_assign rfl) ?_
  refine go_nil ?_
  refine g_seq ?_
  refine g_region ?_
  refine go_p rfl rfl rfl (o_load_agg Try.isAgg53 Try.sizeOf53 rfl rfl) ?_
  obtain ⟨⟨x3, x4⟩, hx2, hm⟩ := bind_some hm
  refine go_p rfl rfl rfl (o_call0 Try.call41 rfl (w_graph_Norm hx2)) ?_
  refine go_p rfl rfl rfl (o_move rfl) ?_
  refine go_p rfl rfl rfl (o_extract rfl rfl) ?_
  refine go_p rfl rfl rfl (o_extract rfl rfl) ?_
  refine go_op rfl rfl rfl (o_alloc_own Try.zeroValue53 (cs := [.list 4 ApiTNode.d [], .i64 0]) rfl) ?_
  rintro _ _ ⟨b2, rfl, rfl⟩
  refine go_u rfl rfl (o_store_box 0 Try.sizeOf53 rfl rfl rfl rfl rfl rfl rfl rfl (Nat.le_of_ble_eq_true rfl)) ?_
  rintro _ _ rfl
  refine go_ms (ms' := [box b2 53 [_, _], box b1 53 [_, _]]) rfl ?_
  refine go_p rfl rfl rfl (o_assign rfl) ?_
  refine go_nil ?_
  refine g_seq ?_
  refine g_region ?_
  refine go_p rfl rfl rfl (o_move rfl) ?_
  refine go_p rfl rfl rfl (o_cmp rfl rfl rfl) ?_
  refine go_p rfl rfl rfl (o_move rfl) ?_
  apply go_and [(5, _), (7, _)] 3 24 (t := 21) ⟨rfl, rfl, trivial⟩ rfl
  · intro hg_1 hk1
    refine go_wantp rfl rfl rfl hg_1 rfl rfl (o_move rfl) ?_
    refine go_wantp rfl rfl rfl hg_1 rfl rfl (o_cmp rfl rfl rfl) ?_
    refine go_p rfl rfl rfl (o_pickT rfl hg_1 rfl) ?_
    exact go_meet hk1 (rfl) ⟨rfl, rfl, trivial⟩
  · intro hg_1 hk1
    refine go_skip rfl rfl rfl hg_1 rfl rfl ?_
    refine go_skip rfl rfl rfl hg_1 rfl rfl ?_
    refine go_p rfl rfl rfl (o_pickF rfl hg_1 rfl) ?_
    exact go_meet hk1 (rfl) ⟨rfl, rfl, trivial⟩
  refine go_p rfl rfl rfl (o_move rfl) ?_
  obtain ⟨p1, hp_2, hm⟩ := bind_some hm
  refine go_two [] 6 31 p1 (t := 25) trivial rfl (fun hg_2 hk2 => ?_) (fun hg_2 hk2 => ?_) ?_
  · replace hp_2 := cond_t hg_2 hp_2
    refine go_wantp rfl rfl rfl hg_2 rfl rfl (o_fieldAddr_box fi_53_0 rfl) ?_
    refine go_wantp rfl rfl rfl hg_2 rfl rfl (o_load_box 1 Try.isAgg51 rfl rfl rfl rfl) ?_
    refine go_wantp rfl rfl rfl hg_2 rfl rfl (o_fieldAddr_box fi_53_0 rfl) ?_
    refine go_wantp rfl rfl rfl hg_2 rfl rfl (o_load_box 0 Try.isAgg51 rfl rfl rfl rfl) ?_
    obtain ⟨x5, hx3, hp_2⟩ := bind_some hp_2
    refine go_wantp rfl rfl rfl hg_2 rfl rfl (o_call0 Try.call87 rfl (w_slices_EqualFunc_api_TNode_api_TNode_api_TNode_api_TNode (fun _ _ _ h => fv_func Try.call88 (w_graph_sameNode h)) hx3)) ?_
    refine go_p rfl rfl rfl (o_pickT rfl hg_2 rfl) ?_
    exact go_meet hk2 (congrArg (fun b => some (D.bool b)) (some_eq hp_2)) trivial
  · replace hp_2 := cond_f hg_2 hp_2
    refine go_skip rfl rfl rfl hg_2 rfl rfl ?_
    refine go_skip rfl rfl rfl hg_2 rfl rfl ?_
    refine go_skip rfl rfl rfl hg_2 rfl rfl ?_
    refine go_skip rfl rfl rfl hg_2 rfl rfl ?_
    refine go_skip rfl rfl rfl hg_2 rfl rfl ?_
    refine go_p rfl rfl rfl (o_pickF rfl hg_2 rfl) ?_
    exact go_meet hk2 (congrArg (fun b => some (D.bool b)) (some_eq hp_2)) trivial
  refine go_p rfl rfl rfl (o_assign rfl) ?_
  refine go_nil ?_
  refine g_ret ?_
  exact retK (ret_one' rfl (ret_tmp rfl) (perm_drop _)) (congrArg (fun (p : Bool) => (.bool p : D)) (some_eq hm))
def m_syntagmaref13_with_l1 (n1 : ApiTNode) (kids1 : (List Int)) : Nat → (Int × (List ApiTField) × Int × Int × Int) → Option ((List ApiTField) × Int × Int × Int)
  | 0, _ => none
  | n + 1, (i1, l4, z10, z11, z12) =>
    bif (decide (i1 < (n1.l.length : Int))) then
      (idx n1.l i1).bind fun x3 =>
      (idx kids1 i1).bind fun x4 =>
      grd ((l4.length + ([(⟨x3.name, x4⟩ : ApiTField)] : List _).length) * 24 ≤ 140737488355328) <|
      grd (InR (i1 + 1)) <|
      m_syntagmaref13_with_l1 n1 kids1 n ((i1 + 1), (l4 ++ [(⟨x3.name, x4⟩ : ApiTField)]), z10, z11, z12)
    else
      some (l4, z10, z11, z12)
def m_syntagmaref13_with (n1 : ApiTNode) (kids1 : (List Int)) : Option ApiTNode :=
  (bif (decide (n1.kind = 11)) then
    some (([] : List ApiTField), n1.kind, n1.a, 0)
  else
    some (([] : List ApiTField), n1.kind, 0, 0) : Option ((List ApiTField) × Int × Int × Int)).bind fun (l1, z1, z2, z3) =>
  (bif (((decide (n1.kind = 6)) || (decide (n1.kind = 9))) || (decide (n1.kind = 10))) then
    (idx kids1 0).bind fun x1 =>
    (idx kids1 1).bind fun x2 =>
    some (l1, z1, x1, x2)
  else
    some (l1, z1, z2, z3) : Option ((List ApiTField) × Int × Int × Int)).bind fun (l2, z4, z5, z6) =>
  (m_syntagmaref13_with_l1 n1 kids1 FU (0, l2, z4, z5, z6) : Option ((List ApiTField) × Int × Int × Int)).bind fun (l3, z7, z8, z9) =>
  some (⟨z7, z8, z9, l3⟩ : ApiTNode)
theorem w_syntagmaref13_with {n1 : ApiTNode} {kids1 : (List Int)} {r_1 : ApiTNode} (hm : m_syntagmaref13_with n1 kids1 = some r_1) : Fn0 Try.prog 89 [ApiTNode.d n1, .list 1 D.i64 kids1] (ApiTNode.d r_1) := by
  unfold m_syntagmaref13_with at hm
  refine fn_intro Try.func89 rfl Try.ntmps89 rfl fun H0 fr w0 => ?_
  refine g_seq ?_
  refine g_region ?_
  refine go_p rfl rfl rfl (o_box rfl rfl) ?_
  refine go_op rfl rfl rfl (o_alloc_own Try.zeroValue56 (cs := [.i64 0, .i64 0, .i64 0, .list 2 ApiTField.d []]) rfl) ?_
  rintro _ _ ⟨b1, rfl, rfl⟩
  refine go_nil ?_
  refine g_seq ?_
  refine g_region ?_
  refine go_p rfl rfl rfl (o_fieldAddr fi_56_0 rfl rfl rfl) ?_
  refine go_p rfl rfl rfl (o_load Try.isAgg3 rfl rfl) ?_
  refine go_p rfl rfl rfl (o_build (zs := [.v (.int .i64 0), .v (.int .i64 0), .v (.int .i64 0), .v (.slice none 0 0)]) Try.runUnderlying56 Try.zeroValue56 (pl_56 _ Try.runUnderlying56) rfl rfl rfl rfl) ?_
  refine go_op rfl rfl rfl (o_alloc_own Try.zeroValue56 (cs := [.i64 0, .i64 0, .i64 0, .list 2 ApiTField.d []]) rfl) ?_
  rintro _ _ ⟨b2, rfl, rfl⟩
  refine go_u rfl rfl (o_store_box 0 Try.sizeOf56 rfl rfl rfl rfl rfl rfl rfl rfl (Nat.le_of_ble_eq_true rfl)) ?_
  rintro _ _ rfl
  refine go_conv (refines_newrow (T := 100) (sz := 2) (f := ApiTField.d)) ?_
  refine go_ms (ms' := [_, box b2 56 [_, _, _, _], box b1 56 [_, _, _, _]]) rfl ?_
  refine go_nil ?_
  refine g_seq ?_
  refine g_seq ?_
  refine g_region ?_
  refine go_p rfl rfl rfl (o_fieldAddr fi_56_0 rfl rfl rfl) ?_
  refine go_p rfl rfl rfl (o_load Try.isAgg3 rfl rfl) ?_
  refine go_p rfl rfl rfl (o_cmp rfl rfl rfl) ?_
  refine go_nil ?_
  obtain ⟨o_1, hj1, hm1⟩ := bind_some hm
  refine g_cut_m [(1, _), (2, _), (4, _), (5, _)] [(2, _)] (fun (st : ((List ApiTField) × Int × Int × Int)) (hid : (Option Addr × Nat)) => match st, hid with | (l1, z1, z2, z3), (a_r1, cap_r1) => []) (fun F (st : ((List ApiTField) × Int × Int × Int)) (hid : (Option Addr × Nat)) => match st, hid with | (l1, z1, z2, z3), (a_r1, cap_r1) => [row a_r1 cap_r1 100 2 ApiTField.d l1, box b2 56 [.i64 z1, .i64 z2, .i64 z3, .v (.slice a_r1 l1.length cap_r1)], (nthF F 0)]) (fun st => st = o_1) ⟨rfl, rfl, rfl, rfl, trivial⟩ ⟨rfl, trivial⟩ ?_ ?_
  · skip
    refine g_cond rfl (fun hc1 => ?_) (fun hc1 => ?_)
    · replace hj1 := cond_t hc1 hj1
      refine g_region ?_
      refine go_p rfl rfl rfl (o_fieldAddr fi_56_1 rfl rfl rfl) ?_
      refine go_p rfl rfl rfl (o_load Try.isAgg3 rfl rfl) ?_
      refine go_p rfl rfl rfl (o_fieldAddr_box fi_56_1 rfl) ?_
      refine go_u rfl rfl (o_store_box 1 Try.sizeOf3 rfl rfl rfl rfl rfl rfl rfl rfl (Nat.le_of_ble_eq_true rfl)) ?_
      rintro _ _ rfl
      refine go_ms (ms' := [_, box b2 56 [_, _, _, _], box b1 56 [_, _, _, _]]) rfl ?_
      refine go_nil ?_
      exact ⟨_, (_, _), some_eq hj1, trivial, ⟨rfl, rfl, rfl, rfl, trivial⟩, [], rfl⟩
    · replace hj1 := cond_f hc1 hj1
      refine g_skip ?_
      exact ⟨_, (_, _), some_eq hj1, trivial, ⟨rfl, rfl, rfl, rfl, trivial⟩, [], rfl⟩
  · rintro ⟨l1, z1, z2, z3⟩ ⟨a_r1, cap_r1⟩ hst
    subst hst
    refine k_norm (L' := [(1, _), (2, _), (4, _), (5, _)]) (ms' := [row a_r1 cap_r1 100 2 ApiTField.d l1, box b2 56 [.i64 z1, .i64 z2, .i64 z3, .v (.slice a_r1 l1.length cap_r1)], _]) rfl rfl ?_
    refine g_seq ?_
    refine g_seq ?_
    refine g_region ?_
    refine go_p rfl rfl rfl (o_fieldAddr fi_56_0 rfl rfl rfl) ?_
    refine go_p rfl rfl rfl (o_load Try.isAgg3 rfl rfl) ?_
    refine go_p rfl rfl rfl (o_cmp rfl rfl rfl) ?_
    refine go_p rfl rfl rfl (o_move rfl) ?_
    apply go_or [(1, _), (2, _), (4, _), (5, _)] 4 23 (t := 19) ⟨rfl, rfl, rfl, rfl, trivial⟩ rfl
    · intro hg_1 hk1
      refine go_wantp rfl rfl rfl hg_1 rfl rfl (o_fieldAddr fi_56_0 rfl rfl rfl) ?_
      refine go_wantp rfl rfl rfl hg_1 rfl rfl (o_load Try.isAgg3 rfl rfl) ?_
      refine go_wantp rfl rfl rfl hg_1 rfl rfl (o_cmp rfl rfl rfl) ?_
      refine go_p rfl rfl rfl (o_pickF rfl hg_1 rfl) ?_
      exact go_meet hk1 (rfl) ⟨rfl, rfl, rfl, rfl, trivial⟩
    · intro hg_1 hk1
      refine go_skip rfl rfl rfl hg_1 rfl rfl ?_
      refine go_skip rfl rfl rfl hg_1 rfl rfl ?_
      refine go_skip rfl rfl rfl hg_1 rfl rfl ?_
      refine go_p rfl rfl rfl (o_pickT rfl hg_1 rfl) ?_
      exact go_meet hk1 (rfl) ⟨rfl, rfl, rfl, rfl, trivial⟩
    refine go_p rfl rfl rfl (o_move rfl) ?_
    apply go_or [(1, _), (2, _), (4, _), (5, _)] 4 28 (t := 24) ⟨rfl, rfl, rfl, rfl, trivial⟩ rfl
    · intro hg_2 hk2
      refine go_wantp rfl rfl rfl hg_2 rfl rfl (o_fieldAddr fi_56_0 rfl rfl rfl) ?_
      refine go_wantp rfl rfl rfl hg_2 rfl rfl (o_load Try.isAgg3 rfl rfl) ?_
      refine go_wantp rfl rfl rfl hg_2 rfl rfl (o_cmp rfl rfl rfl) ?_
      refine go_p rfl rfl rfl (o_pickF rfl hg_2 rfl) ?_
      exact go_meet hk2 (rfl) ⟨rfl, rfl, rfl, rfl, trivial⟩
    · intro hg_2 hk2
      refine go_skip rfl rfl rfl hg_2 rfl rfl ?_
      refine go_skip rfl rfl rfl hg_2 rfl rfl ?_
      refine go_skip rfl rfl rfl hg_2 rfl rfl ?_
      refine go_p rfl rfl rfl (o_pickT rfl hg_2 rfl) ?_
      exact go_meet hk2 (rfl) ⟨rfl, rfl, rfl, rfl, trivial⟩
    refine go_nil ?_
    obtain ⟨o_2, hj2, hm2⟩ := bind_some hm1
    refine g_cut_m [(1, _), (2, _), (4, _), (5, _)] [(2, _)] (fun (st : ((List ApiTField) × Int × Int × Int)) (hid : (Option Addr × Nat)) => match st, hid with | (l2, z4, z5, z6), (a_r1, cap_r1) => []) (fun F (st : ((List ApiTField) × Int × Int × Int)) (hid : (Option Addr × Nat)) => match st, hid with | (l2, z4, z5, z6), (a_r1, cap_r1) => [row a_r1 cap_r1 100 2 ApiTField.d l2, box b2 56 [.i64 z4, .i64 z5, .i64 z6, .v (.slice a_r1 l2.length cap_r1)], (nthF F 0)]) (fun st => st = o_2) ⟨rfl, rfl, rfl, rfl, trivial⟩ ⟨rfl, trivial⟩ ?_ ?_
    · skip
      refine g_cond rfl (fun hc2 => ?_) (fun hc2 => ?_)
      · replace hj2 := cond_t hc2 hj2
        obtain ⟨x1, hx1, hj2⟩ := bind_some hj2
        obtain ⟨x2, hx2, hj2⟩ := bind_some hj2
        refine g_draw_c [7, 9] [3, 4, 5, 8] [] Try_mixed (by decide +kernel) (by decide +kernel) rfl ?_
        refine gde_p rfl rfl rfl rfl rfl rfl (o_move rfl) ?_
        refine gde_p rfl rfl rfl rfl rfl rfl (o_indexAddr_m Try.runUnderlying28 Try.sizeOf3 rfl rfl hx1) ?_
        refine gde_p rfl rfl rfl rfl rfl rfl (o_load Try.isAgg3 rfl rfl) ?_
        refine gde_p rfl rfl rfl rfl rfl rfl (o_move rfl) ?_
        refine gde_p rfl rfl rfl rfl rfl rfl (o_indexAddr_m Try.runUnderlying28 Try.sizeOf3 rfl rfl hx2) ?_
        refine gde_p rfl rfl rfl rfl rfl rfl (o_load Try.isAgg3 rfl rfl) ?_
        refine gde_p rfl rfl rfl rfl rfl rfl (o_fieldAddr_box fi_56_1 rfl) ?_
        refine gde_e rfl ?_
        refine gde_p rfl rfl rfl rfl rfl rfl (o_fieldAddr_box fi_56_2 rfl) ?_
        refine gde_e rfl ?_
        refine gde_nil ?_
        refine gde2_u rfl rfl rfl (o_store_box 1 Try.sizeOf3 rfl rfl rfl rfl rfl rfl rfl rfl (Nat.le_of_ble_eq_true rfl)) ?_
        rintro _ _ rfl
        refine ⟨(trivial : True), ?_⟩
        refine gde2_u rfl rfl rfl (o_store_box 1 Try.sizeOf3 rfl rfl rfl rfl rfl rfl rfl rfl (Nat.le_of_ble_eq_true rfl)) ?_
        rintro _ _ rfl
        refine ⟨(trivial : True), ?_⟩
        refine gde2_nil ?_
        exact ⟨_, (_, _), some_eq hj2, trivial, ⟨rfl, rfl, rfl, rfl, trivial⟩, [], rfl⟩
      · replace hj2 := cond_f hc2 hj2
        refine g_skip ?_
        exact ⟨_, (_, _), some_eq hj2, trivial, ⟨rfl, rfl, rfl, rfl, trivial⟩, [], rfl⟩
    · rintro ⟨l2, z4, z5, z6⟩ ⟨a_r1, cap_r1⟩ hst
      subst hst
      refine k_norm (L' := [(1, _), (2, _), (4, _), (5, _)]) (ms' := [row a_r1 cap_r1 100 2 ApiTField.d l2, box b2 56 [.i64 z4, .i64 z5, .i64 z6, .v (.slice a_r1 l2.length cap_r1)], _]) rfl rfl ?_
      refine g_seq ?_
      refine g_seq ?_
      refine g_region ?_
      refine go_p rfl rfl rfl (o_assign rfl) ?_
      refine go_nil ?_
      obtain ⟨o_3, hj3, hm3⟩ := bind_some hm2
      refine g_cut_m [(4, _), (5, _)] [(2, _)] (fun (st : ((List ApiTField) × Int × Int × Int)) (hid : (Option Addr × Nat)) => match st, hid with | (l3, z7, z8, z9), (a_r1, cap_r1) => []) (fun F (st : ((List ApiTField) × Int × Int × Int)) (hid : (Option Addr × Nat)) => match st, hid with | (l3, z7, z8, z9), (a_r1, cap_r1) => [row a_r1 cap_r1 100 2 ApiTField.d l3, box b2 56 [.i64 z7, .i64 z8, .i64 z9, .v (.slice a_r1 l3.length cap_r1)], (nthF F 0)]) (fun st => st = o_3) ⟨rfl, rfl, trivial⟩ ⟨rfl, trivial⟩ ?_ ?_
      · skip
        refine g_block ?_
        refine g_loop_m [(1, _), (2, _), (4, _), (5, _)] [(2, _)] (fun (st : (Int × (List ApiTField) × Int × Int × Int)) (hid : (Option Addr × Nat)) => match st, hid with | (i1, l4, z10, z11, z12), (a_r1, cap_r1) => [(6, .i64 i1)]) (fun F (st : (Int × (List ApiTField) × Int × Int × Int)) (hid : (Option Addr × Nat)) => match st, hid with | (i1, l4, z10, z11, z12), (a_r1, cap_r1) => [row a_r1 cap_r1 100 2 ApiTField.d l4, box b2 56 [.i64 z10, .i64 z11, .i64 z12, .v (.slice a_r1 l4.length cap_r1)], (nthF F 0)]) (_, _) hj3 (fun _ => rfl) ⟨rfl, rfl, rfl, rfl, trivial⟩ ⟨rfl, trivial⟩ ⟨rfl, trivial⟩ rfl ?_
        rintro n ⟨i1, l4, z10, z11, z12⟩ ⟨a_r1, cap_r1⟩ hj3
        rw [m_syntagmaref13_with_l1] at hj3
        refine g_norm (L' := [(6, .i64 i1), (1, _), (2, _), (4, _), (5, _)]) (ms' := [row a_r1 cap_r1 100 2 ApiTField.d l4, box b2 56 [.i64 z10, .i64 z11, .i64 z12, .v (.slice a_r1 l4.length cap_r1)], _]) rfl rfl ?_
        refine g_seq ?_
        refine g_seq ?_
        refine g_region ?_
        refine go_p rfl rfl rfl (o_move rfl) ?_
        refine go_p rfl rfl rfl (o_fieldAddr fi_56_3 rfl rfl rfl) ?_
        refine go_p rfl rfl rfl (o_load Try.isAgg54 rfl rfl) ?_
        refine go_p rfl rfl rfl (o_len Try.runUnderlying54 rfl) ?_
        refine go_p rfl rfl rfl (o_cmp rfl rfl rfl) ?_
        refine go_nil ?_
        refine g_cond rfl (fun hc3 => ?_) (fun hc3 => ?_)
        · replace hj3 := cond_t hc3 hj3
          refine g_skip ?_
          refine g_seq ?_
          refine g_block ?_
          obtain ⟨x3, hx3, hj3⟩ := bind_some hj3
          obtain ⟨x4, hx4, hj3⟩ := bind_some hj3
          refine g_draw 14 Try_mixed (by decide +kernel) ?_
          refine gd_p rfl rfl rfl (o_fieldAddr_box fi_56_3 rfl) ?_
          refine gd_p rfl rfl rfl (o_load_box 1 Try.isAgg54 rfl rfl rfl rfl) ?_
          refine gd_p rfl rfl rfl (o_fieldAddr fi_56_3 rfl rfl rfl) ?_
          refine gd_p rfl rfl rfl (o_load Try.isAgg54 rfl rfl) ?_
          refine gd_p rfl rfl rfl (o_move rfl) ?_
          refine gd_p rfl rfl rfl (o_indexAddr_m Try.runUnderlying54 Try.sizeOf100 rfl rfl hx3) ?_
          refine gd_p rfl rfl rfl (o_fieldAddr fi_100_0 rfl rfl rfl) ?_
          refine gd_p rfl rfl rfl (o_load Try.isAgg9 rfl rfl) ?_
          refine gd_p rfl rfl rfl (o_move rfl) ?_
          refine gd_p rfl rfl rfl (o_move rfl) ?_
          refine gd_p rfl rfl rfl (o_indexAddr_m Try.runUnderlying28 Try.sizeOf3 rfl rfl hx4) ?_
          refine gd_p rfl rfl rfl (o_load Try.isAgg3 rfl rfl) ?_
          refine gd_p rfl rfl rfl (o_build (zs := [.str [], .v (.int .i64 0)]) Try.runUnderlying100 Try.zeroValue100 (pl_100 _ Try.runUnderlying100) rfl rfl rfl rfl) ?_
          refine gd_p rfl rfl rfl (o_buildSlice (xs := [_]) (f := ApiTField.d) (l := [(⟨x3.name, x4⟩ : ApiTField)]) Try.runUnderlying54 Try.sizeOf100 Try.zeroValue100 rfl rfl rfl (fun _ => ⟨rfl, rfl, rfl⟩) rfl) ?_
          refine gd_nil ?_
          obtain ⟨hg5, hj3⟩ := grd_some hj3
          refine go_op rfl rfl rfl (o_append (a := _) 0 Try.underlying54 Try.type100 rfl rfl rfl rfl rfl rfl rfl (fun _ => rfl) (fun _ => rfl) hg5 (app_len hg5 rfl)) ?_
          rintro _ _ ⟨a_r1, cap_r1, rfl, rfl⟩
          refine go_ms (ms' := [_, box b2 56 [_, _, _, _], box b1 56 [_, _, _, _]]) rfl ?_
          refine go_p rfl rfl rfl (o_fieldAddr_box fi_56_3 rfl) ?_
          refine go_u rfl rfl (o_store_box 1 Try.sizeOf54 rfl rfl rfl rfl rfl rfl rfl rfl (Nat.le_of_ble_eq_true rfl)) ?_
          rintro _ _ rfl
          refine go_ms (ms' := [_, box b2 56 [_, _, _, _], box b1 56 [_, _, _, _]]) rfl ?_
          refine go_nil ?_
          refine g_region ?_
          refine go_p rfl rfl rfl (o_move rfl) ?_
          obtain ⟨hg6, hj3⟩ := grd_some hj3
          refine go_p rfl rfl rfl (o_add rfl rfl (i64_id hg6)) ?_
          refine go_p rfl rfl rfl (o_assign rfl) ?_
          refine go_nil ?_
          exact ⟨_, (_, _), hj3, ⟨rfl, trivial⟩, ⟨rfl, rfl, rfl, rfl, trivial⟩, [], rfl⟩
        · replace hj3 := cond_f hc3 hj3
          refine g_exit ?_
          exact ⟨_, (_, _), some_eq hj3, trivial, ⟨rfl, rfl, trivial⟩, [], rfl⟩
      · rintro ⟨l3, z7, z8, z9⟩ ⟨a_r1, cap_r1⟩ hst
        subst hst
        refine k_norm (L' := [(4, _), (5, _)]) (ms' := [row a_r1 cap_r1 100 2 ApiTField.d l3, box b2 56 [.i64 z7, .i64 z8, .i64 z9, .v (.slice a_r1 l3.length cap_r1)], _]) rfl rfl ?_
        refine g_seq ?_
        refine g_region ?_
        refine go_p rfl rfl rfl (o_load_box_agg 1 Try.isAgg56 Try.sizeOf56 rfl rfl rfl rfl (Nat.le_of_ble_eq_true rfl)) ?_
        refine go_conv (peekAggE (i := 60) (q := 3) 0 rfl rfl rfl rfl rfl).refines ?_
        refine go_u rfl rfl (o_store_box 2 Try.sizeOf56 rfl rfl rfl rfl rfl rfl rfl rfl (Nat.le_of_ble_eq_true rfl)) ?_
        rintro _ _ rfl
        refine go_ms (ms' := [_, box b2 56 [_, _, _, _], box b1 56 [_, _, _, _]]) rfl ?_
        refine go_nil ?_
        refine g_ret ?_
        exact retK (ret_one' rfl (ret_cell 2 rfl rfl rfl Try.isAgg56 Try.sizeOf56 rfl) (perm_drop _)) (congrArg (fun (p : ApiTNode) => (ApiTNode.d p : D)) (some_eq hm3))
def m_syntagmaref13_Norm_l1 (x1 : (List Int)) : Nat → (Int × (List Int)) → Option (List Int)
  | 0, _ => none
  | n + 1, (i1, l2) =>
    bif (decide (i1 < (x1.length : Int))) then
      (idx x1 i1).bind fun x2 =>
      (idx l2 x2).bind fun x3 =>
      grd (InR (i1 + 1)) <|
      m_syntagmaref13_Norm_l1 x1 n ((i1 + 1), (l2.set (x2).toNat i1))
    else
      some l2
def m_syntagmaref13_Norm_l3 (l1 : (List Int)) (x6 : (List Int)) : Nat → (Int × (List Int)) → Option (List Int)
  | 0, _ => none
  | n + 1, (j1, l6) =>
    bif (decide (j1 < (x6.length : Int))) then
      (idx x6 j1).bind fun x7 =>
      (idx l1 x7).bind fun x8 =>
      grd ((l6.length + ([x8] : List _).length) * 8 ≤ 140737488355328) <|
      grd (InR (j1 + 1)) <|
      m_syntagmaref13_Norm_l3 l1 x6 n ((j1 + 1), (l6 ++ [x8]))
    else
      some l6
def m_syntagmaref13_Norm_l2 (t1 : ApiType) (x1 : (List Int)) (l1 : (List Int)) : Nat → (Int × (List ApiTNode) × Int) → Option ((List ApiTNode) × Int)
  | 0, _ => none
  | n + 1, (i2, l4, z2) =>
    bif (decide (i2 < (x1.length : Int))) then
      (idx x1 i2).bind fun x4 =>
      (idx t1.l x4).bind fun x5 =>
      (m_syntagmaref13_Kids x5).bind fun x6 =>
      (m_syntagmaref13_Norm_l3 l1 x6 FU (0, []) : Option (List Int)).bind fun l5 =>
      (idx x1 i2).bind fun x9 =>
      (idx t1.l x9).bind fun x10 =>
      (m_syntagmaref13_with x10 l5).bind fun x11 =>
      grd ((l4.length + ([x11] : List _).length) * 48 ≤ 140737488355328) <|
      grd (InR (i2 + 1)) <|
      m_syntagmaref13_Norm_l2 t1 x1 l1 n ((i2 + 1), (l4 ++ [x11]), z2)
    else
      some (l4, z2)
def m_syntagmaref13_Norm (t1 : ApiType) (root1 : Int) : Option ApiType :=
  (m_syntagmaref13_Below t1 root1).bind fun x1 =>
  grd (0 ≤ (t1.l.length : Int)) <|
  grd (((t1.l.length : Int)).toNat * 8 ≤ 140737488355328) <|
  (m_syntagmaref13_Norm_l1 x1 FU (0, (List.replicate ((t1.l.length : Int)).toNat (0 : Int))) : Option (List Int)).bind fun l1 =>
  (m_syntagmaref13_Norm_l2 t1 x1 l1 FU (0, ([] : List ApiTNode), 0) : Option ((List ApiTNode) × Int)).bind fun (l3, z1) =>
  some (⟨l3, z1⟩ : ApiType)
theorem w_syntagmaref13_Norm {t1 : ApiType} {root1 : Int} {r_1 : ApiType} (hm : m_syntagmaref13_Norm t1 root1 = some r_1) : Fn0 Try.prog 45 [ApiType.d t1, .i64 root1] (ApiType.d r_1) := by
  unfold m_syntagmaref13_Norm at hm
  refine fn_intro Try.func45 rfl Try.ntmps45 rfl fun H0 fr w0 => ?_
  refine g_seq ?_
  refine g_region ?_
  refine go_p rfl rfl rfl (o_box rfl rfl) ?_
  refine go_op rfl rfl rfl (o_alloc_own Try.zeroValue53 (cs := [.list 4 ApiTNode.d [], .i64 0]) rfl) ?_
  rintro _ _ ⟨b1, rfl, rfl⟩
  refine go_nil ?_
  refine g_seq ?_
  refine g_region ?_
  refine go_p rfl rfl rfl (o_load_agg Try.isAgg53 Try.sizeOf53 rfl rfl) ?_
  refine go_p rfl rfl rfl (o_move rfl) ?_
  obtain ⟨x1, hx1, hm⟩ := bind_some hm
  refine go_p rfl rfl rfl (o_call0 Try.call72 rfl (w_syntagmaref13_Below hx1)) ?_
  refine go_p rfl rfl rfl (o_assign rfl) ?_
  refine go_nil ?_
  refine g_seq ?_
  refine g_region ?_
  refine go_p rfl rfl rfl (o_fieldAddr fi_53_0 rfl rfl rfl) ?_
  refine go_p rfl rfl rfl (o_load Try.isAgg51 rfl rfl) ?_
  refine go_p rfl rfl rfl (o_len Try.runUnderlying51 rfl) ?_
  obtain ⟨hg2, hm⟩ := grd_some hm
  obtain ⟨hg3, hm⟩ := grd_some hm
  refine go_op rfl rfl rfl (o_makeSlice (f := D.i64) (z0 := 0) Try.underlying28 Try.type3 rfl rfl rfl (Nat.le_of_ble_eq_true rfl) rfl rfl hg2 hg3 (Nat.le_of_ble_eq_true rfl)) ?_
  rintro _ _ ⟨a_r1, m_r1, cap_r1, rfl, rfl⟩
  refine go_p rfl rfl rfl (o_assign rfl) ?_
  refine go_nil ?_
  refine g_seq ?_
  refine g_seq ?_
  refine g_region ?_
  refine go_p rfl rfl rfl (o_assign rfl) ?_
  refine go_nil ?_
  obtain ⟨o_1, hj1, hm1⟩ := bind_some hm
  refine g_cut_m [(2, _), (4, _), (5, _), (6, _)] [(1, _)] (fun (st : (List Int)) (hid : Unit) => match st, hid with | l1, _ => []) (fun F (st : (List Int)) (hid : Unit) => match st, hid with | l1, _ => [arr a_r1 m_r1 cap_r1 3 1 D.i64 l1, (nthF F 0)]) (fun st => st = o_1) ⟨rfl, rfl, rfl, rfl, trivial⟩ ⟨rfl, trivial⟩ ?_ ?_
  · skip
    refine g_block ?_
    refine g_loop_m [(2, _), (4, _), (5, _), (6, _)] [(1, _)] (fun (st : (Int × (List Int))) (hid : Unit) => match st, hid with | (i1, l2), _ => [(7, .i64 i1)]) (fun F (st : (Int × (List Int))) (hid : Unit) => match st, hid with | (i1, l2), _ => [arr a_r1 m_r1 cap_r1 3 1 D.i64 l2, (nthF F 0)]) () hj1 (fun _ => rfl) ⟨rfl, rfl, rfl, rfl, trivial⟩ ⟨rfl, trivial⟩ ⟨rfl, trivial⟩ rfl ?_
    rintro n ⟨i1, l2⟩ ⟨⟩ hj1
    rw [m_syntagmaref13_Norm_l1] at hj1
    refine g_norm (L' := [(7, .i64 i1), (2, _), (4, _), (5, _), (6, _)]) (ms' := [arr a_r1 m_r1 cap_r1 3 1 D.i64 l2, _]) rfl rfl ?_
    refine g_seq ?_
    refine g_seq ?_
    refine g_region ?_
    refine go_p rfl rfl rfl (o_move rfl) ?_
    refine go_p rfl rfl rfl (o_move rfl) ?_
    refine go_p rfl rfl rfl (o_len Try.runUnderlying28 rfl) ?_
    refine go_p rfl rfl rfl (o_cmp rfl rfl rfl) ?_
    refine go_nil ?_
    refine g_cond rfl (fun hc1 => ?_) (fun hc1 => ?_)
    · replace hj1 := cond_t hc1 hj1
      refine g_skip ?_
      refine g_seq ?_
      refine g_block ?_
      refine g_region ?_
      refine go_p rfl rfl rfl (o_move rfl) ?_
      refine go_p rfl rfl rfl (o_move rfl) ?_
      refine go_p rfl rfl rfl (o_move rfl) ?_
      obtain ⟨x2, hx4, hj1⟩ := bind_some hj1
      refine go_p rfl rfl rfl (o_indexAddr_m Try.runUnderlying28 Try.sizeOf3 rfl rfl hx4) ?_
      refine go_p rfl rfl rfl (o_load Try.isAgg3 rfl rfl) ?_
      refine go_p rfl rfl rfl (o_move rfl) ?_
      obtain ⟨x3, hx5, hj1⟩ := bind_some hj1
      refine go_p rfl rfl rfl (o_indexAddr_arr 0 Try.runUnderlying28 Try.sizeOf3 rfl rfl rfl hx5) ?_
      refine go_u rfl rfl (o_store_arr (off := 0) (z' := i1) 0 Try.sizeOf3 rfl rfl (idx_some hx5).2 rfl rfl rfl rfl rfl rfl (Nat.le_of_ble_eq_true rfl) rfl rfl) ?_
      rintro _ _ rfl
      refine go_ms (ms' := [_, box b1 53 [_, _]]) rfl ?_
      refine go_nil ?_
      refine g_region ?_
      refine go_p rfl rfl rfl (o_move rfl) ?_
      obtain ⟨hg6, hj1⟩ := grd_some hj1
      refine go_p rfl rfl rfl (o_add rfl rfl (i64_id hg6)) ?_
      refine go_p rfl rfl rfl (o_assign rfl) ?_
      refine go_nil ?_
      exact ⟨_, (), hj1, ⟨rfl, trivial⟩, ⟨rfl, rfl, rfl, rfl, trivial⟩, [], rfl⟩
    · replace hj1 := cond_f hc1 hj1
      refine g_exit ?_
      exact ⟨_, (), some_eq hj1, trivial, ⟨rfl, rfl, rfl, rfl, trivial⟩, [], rfl⟩
  · rintro l1 ⟨⟩ hst
    subst hst
    refine k_norm (L' := [(2, _), (4, _), (5, _), (6, _)]) (ms' := [arr a_r1 m_r1 cap_r1 3 1 D.i64 l1, _]) rfl rfl ?_
    refine g_seq ?_
    refine g_region ?_
    refine go_p rfl rfl rfl (o_build (zs := [.v (.slice none 0 0), .v (.int .i64 0)]) Try.runUnderlying53 Try.zeroValue53 (pl_53 _ Try.runUnderlying53) rfl rfl rfl rfl) ?_
    refine go_op rfl rfl rfl (o_alloc_own Try.zeroValue53 (cs := [.list 4 ApiTNode.d [], .i64 0]) rfl) ?_
    rintro _ _ ⟨b2, rfl, rfl⟩
    refine go_u rfl rfl (o_store_box 0 Try.sizeOf53 rfl rfl rfl rfl rfl rfl rfl rfl (Nat.le_of_ble_eq_true rfl)) ?_
    rintro _ _ rfl
    refine go_conv (refines_newrow (T := 56) (sz := 4) (f := ApiTNode.d)) ?_
    refine go_ms (ms' := [_, box b2 53 [_, _], _, box b1 53 [_, _]]) rfl ?_
    refine go_nil ?_
    refine g_seq ?_
    refine g_seq ?_
    refine g_region ?_
    refine go_p rfl rfl rfl (o_assign rfl) ?_
    refine go_nil ?_
    obtain ⟨o_2, hj2, hm2⟩ := bind_some hm1
    refine g_cut_m [(4, _), (8, _)] [(2, _), (3, _)] (fun (st : ((List ApiTNode) × Int)) (hid : (Option Addr × Nat)) => match st, hid with | (l3, z1), (a_r2, cap_r2) => []) (fun F (st : ((List ApiTNode) × Int)) (hid : (Option Addr × Nat)) => match st, hid with | (l3, z1), (a_r2, cap_r2) => [row a_r2 cap_r2 56 4 ApiTNode.d l3, box b2 53 [.v (.slice a_r2 l3.length cap_r2), .i64 z1], (nthF F 0), (nthF F 1)]) (fun st => st = o_2) ⟨rfl, rfl, trivial⟩ ⟨rfl, rfl, trivial⟩ ?_ ?_
    · skip
      refine g_block ?_
      refine g_loop_m [(2, _), (4, _), (5, _), (6, _), (8, _)] [(2, _), (3, _)] (fun (st : (Int × (List ApiTNode) × Int)) (hid : (Option Addr × Nat)) => match st, hid with | (i2, l4, z2), (a_r2, cap_r2) => [(9, .i64 i2)]) (fun F (st : (Int × (List ApiTNode) × Int)) (hid : (Option Addr × Nat)) => match st, hid with | (i2, l4, z2), (a_r2, cap_r2) => [row a_r2 cap_r2 56 4 ApiTNode.d l4, box b2 53 [.v (.slice a_r2 l4.length cap_r2), .i64 z2], (nthF F 0), (nthF F 1)]) (_, _) hj2 (fun _ => rfl) ⟨rfl, rfl, rfl, rfl, rfl, trivial⟩ ⟨rfl, rfl, trivial⟩ ⟨rfl, trivial⟩ rfl ?_
      rintro n ⟨i2, l4, z2⟩ ⟨a_r2, cap_r2⟩ hj2
      rw [m_syntagmaref13_Norm_l2] at hj2
      refine g_norm (L' := [(9, .i64 i2), (2, _), (4, _), (5, _), (6, _), (8, _)]) (ms' := [row a_r2 cap_r2 56 4 ApiTNode.d l4, box b2 53 [.v (.slice a_r2 l4.length cap_r2), .i64 z2], _, _]) rfl rfl ?_
      refine g_seq ?_
      refine g_seq ?_
      refine g_region ?_
      refine go_p rfl rfl rfl (o_move rfl) ?_
      refine go_p rfl rfl rfl (o_move rfl) ?_
      refine go_p rfl rfl rfl (o_len Try.runUnderlying28 rfl) ?_
      refine go_p rfl rfl rfl (o_cmp rfl rfl rfl) ?_
      refine go_nil ?_
      refine g_cond rfl (fun hc2 => ?_) (fun hc2 => ?_)
      · replace hj2 := cond_t hc2 hj2
        refine g_skip ?_
        refine g_seq ?_
        refine g_block ?_
        refine g_seq ?_
        obtain ⟨x4, hx7, hj2⟩ := bind_some hj2
        obtain ⟨x5, hx8, hj2⟩ := bind_some hj2
        obtain ⟨x6, hx9, hj2⟩ := bind_some hj2
        refine g_draw_c [9, 11] [0, 1, 2, 3, 4, 5, 6, 7, 8, 10] [] Try_mixed (by decide +kernel) (by decide +kernel) rfl ?_
        refine gde_p rfl rfl rfl rfl rfl rfl (o_fieldAddr fi_53_0 rfl rfl rfl) ?_
        refine gde_p rfl rfl rfl rfl rfl rfl (o_load Try.isAgg51 rfl rfl) ?_
        refine gde_p rfl rfl rfl rfl rfl rfl (o_move rfl) ?_
        refine gde_p rfl rfl rfl rfl rfl rfl (o_move rfl) ?_
        refine gde_p rfl rfl rfl rfl rfl rfl (o_indexAddr_m Try.runUnderlying28 Try.sizeOf3 rfl rfl hx7) ?_
        refine gde_p rfl rfl rfl rfl rfl rfl (o_load Try.isAgg3 rfl rfl) ?_
        refine gde_p rfl rfl rfl rfl rfl rfl (o_indexAddr_m Try.runUnderlying51 Try.sizeOf56 rfl rfl hx8) ?_
        refine gde_p rfl rfl rfl rfl rfl rfl (o_load_agg Try.isAgg56 Try.sizeOf56 rfl rfl) ?_
        refine gde_p rfl rfl rfl rfl rfl rfl (o_call0 Try.call33 rfl (w_syntagmaref13_Kids hx9)) ?_
        refine gde_e rfl ?_
        refine gde_p rfl rfl rfl rfl rfl rfl (o_assign rfl) ?_
        refine gde_e rfl ?_
        refine gde_nil ?_
        refine gde2_t rfl rfl rfl rfl (o_buildSlice_row (xs := []) (f := D.i64) (l := []) Try.runUnderlying28 Try.sizeOf3 Try.zeroValue3 rfl rfl rfl (fun _ => ⟨rfl, rfl, rfl⟩) rfl (by simp [maxLen])) ?_
        rintro _ _ ⟨a_r3, rfl, rfl⟩
        refine ⟨(trivial : True), ?_⟩
        refine gde2_t rfl rfl rfl rfl (o_assign rfl) ?_
        rintro _ _ ⟨rfl, rfl⟩
        refine ⟨(trivial : True), ?_⟩
        refine gde2_nil ?_
        refine g_seq ?_
        refine g_seq ?_
        refine g_region ?_
        refine go_p rfl rfl rfl (o_assign rfl) ?_
        refine go_nil ?_
        obtain ⟨o_3, hj3, hm3⟩ := bind_some hj2
        refine g_cut_m [(2, _), (4, _), (5, _), (6, _), (8, _), (9, _)] [(1, _), (2, _), (3, _), (4, _)] (fun (st : (List Int)) (hid : (Option Addr × Nat)) => match st, hid with | l5, (a_r3, cap_r3) => [(11, .v (.slice a_r3 l5.length cap_r3))]) (fun F (st : (List Int)) (hid : (Option Addr × Nat)) => match st, hid with | l5, (a_r3, cap_r3) => [row a_r3 cap_r3 3 1 D.i64 l5, (nthF F 0), (nthF F 1), (nthF F 2), (nthF F 3)]) (fun st => st = o_3) ⟨rfl, rfl, rfl, rfl, rfl, rfl, trivial⟩ ⟨rfl, rfl, rfl, rfl, trivial⟩ ?_ ?_
        · skip
          refine g_block ?_
          refine g_loop_m [(2, _), (4, _), (5, _), (6, _), (8, _), (9, _), (10, _)] [(1, _), (2, _), (3, _), (4, _)] (fun (st : (Int × (List Int))) (hid : (Option Addr × Nat)) => match st, hid with | (j1, l6), (a_r3, cap_r3) => [(11, .v (.slice a_r3 l6.length cap_r3)), (12, .i64 j1)]) (fun F (st : (Int × (List Int))) (hid : (Option Addr × Nat)) => match st, hid with | (j1, l6), (a_r3, cap_r3) => [row a_r3 cap_r3 3 1 D.i64 l6, (nthF F 0), (nthF F 1), (nthF F 2), (nthF F 3)]) (_, _) hj3 (fun _ => rfl) ⟨rfl, rfl, rfl, rfl, rfl, rfl, rfl, trivial⟩ ⟨rfl, rfl, rfl, rfl, trivial⟩ ⟨rfl, rfl, trivial⟩ rfl ?_
          rintro n ⟨j1, l6⟩ ⟨a_r3, cap_r3⟩ hj3
          rw [m_syntagmaref13_Norm_l3] at hj3
          refine g_norm (L' := [(11, .v (.slice a_r3 l6.length cap_r3)), (12, .i64 j1), (2, _), (4, _), (5, _), (6, _), (8, _), (9, _), (10, _)]) (ms' := [row a_r3 cap_r3 3 1 D.i64 l6, _, _, _, _]) rfl rfl ?_
          refine g_seq ?_
          refine g_seq ?_
          refine g_region ?_
          refine go_p rfl rfl rfl (o_move rfl) ?_
          refine go_p rfl rfl rfl (o_move rfl) ?_
          refine go_p rfl rfl rfl (o_len Try.runUnderlying28 rfl) ?_
          refine go_p rfl rfl rfl (o_cmp rfl rfl rfl) ?_
          refine go_nil ?_
          refine g_cond rfl (fun hc3 => ?_) (fun hc3 => ?_)
          · replace hj3 := cond_t hc3 hj3
            refine g_skip ?_
            refine g_seq ?_
            refine g_block ?_
            refine g_region ?_
            refine go_p rfl rfl rfl (o_move rfl) ?_
            refine go_p rfl rfl rfl (o_move rfl) ?_
            refine go_p rfl rfl rfl (o_move rfl) ?_
            refine go_p rfl rfl rfl (o_move rfl) ?_
            obtain ⟨x7, hx10, hj3⟩ := bind_some hj3
            refine go_p rfl rfl rfl (o_indexAddr_m Try.runUnderlying28 Try.sizeOf3 rfl rfl hx10) ?_
            refine go_p rfl rfl rfl (o_load Try.isAgg3 rfl rfl) ?_
            obtain ⟨x8, hx11, hj3⟩ := bind_some hj3
            refine go_p rfl rfl rfl (o_indexAddr_arr 3 Try.runUnderlying28 Try.sizeOf3 rfl rfl rfl hx11) ?_
            refine go_p rfl rfl rfl (o_load_arr (off := 0) 3 Try.isAgg3 rfl rfl (idx_some hx11).2 rfl rfl rfl) ?_
            refine go_p rfl rfl rfl (o_buildSlice (xs := [_]) (f := D.i64) (l := [_]) Try.runUnderlying28 Try.sizeOf3 Try.zeroValue3 rfl rfl rfl (fun _ => ⟨rfl, rfl, rfl⟩) rfl) ?_
            obtain ⟨hg12, hj3⟩ := grd_some hj3
            refine go_op rfl rfl rfl (o_append (a := _) 0 Try.underlying28 Try.type3 rfl rfl rfl rfl rfl rfl rfl (fun _ => rfl) (fun _ => rfl) hg12 (app_len hg12 rfl)) ?_
            rintro _ _ ⟨a_r3, cap_r3, rfl, rfl⟩
            refine go_ms (ms' := [_, _, box b2 53 [_, _], _, box b1 53 [_, _]]) rfl ?_
            refine go_p rfl rfl rfl (o_assign rfl) ?_
            refine go_nil ?_
            refine g_region ?_
            refine go_p rfl rfl rfl (o_move rfl) ?_
            obtain ⟨hg13, hj3⟩ := grd_some hj3
            refine go_p rfl rfl rfl (o_add rfl rfl (i64_id hg13)) ?_
            refine go_p rfl rfl rfl (o_assign rfl) ?_
            refine go_nil ?_
            exact ⟨_, (_, _), hj3, ⟨rfl, rfl, trivial⟩, ⟨rfl, rfl, rfl, rfl, rfl, rfl, rfl, trivial⟩, [], rfl⟩
          · replace hj3 := cond_f hc3 hj3
            refine g_exit ?_
            exact ⟨_, (_, _), some_eq hj3, ⟨rfl, trivial⟩, ⟨rfl, rfl, rfl, rfl, rfl, rfl, trivial⟩, [], rfl⟩
        · rintro l5 ⟨a_r3, cap_r3⟩ hst
          subst hst
          refine k_norm (L' := [(11, .v (.slice a_r3 l5.length cap_r3)), (2, _), (4, _), (5, _), (6, _), (8, _), (9, _)]) (ms' := [row a_r3 cap_r3 3 1 D.i64 l5, _, _, _, _]) rfl rfl ?_
          obtain ⟨x9, hx14, hm3⟩ := bind_some hm3
          obtain ⟨x10, hx15, hm3⟩ := bind_some hm3
          obtain ⟨x11, hx16, hm3⟩ := bind_some hm3
          refine g_draw 13 Try_mixed (by decide +kernel) ?_
          refine gd_p rfl rfl rfl (o_fieldAddr_box fi_53_0 rfl) ?_
          refine gd_p rfl rfl rfl (o_load_box 2 Try.isAgg51 rfl rfl rfl rfl) ?_
          refine gd_p rfl rfl rfl (o_fieldAddr fi_53_0 rfl rfl rfl) ?_
          refine gd_p rfl rfl rfl (o_load Try.isAgg51 rfl rfl) ?_
          refine gd_p rfl rfl rfl (o_move rfl) ?_
          refine gd_p rfl rfl rfl (o_move rfl) ?_
          refine gd_p rfl rfl rfl (o_indexAddr_m Try.runUnderlying28 Try.sizeOf3 rfl rfl hx14) ?_
          refine gd_p rfl rfl rfl (o_load Try.isAgg3 rfl rfl) ?_
          refine gd_p rfl rfl rfl (o_indexAddr_m Try.runUnderlying51 Try.sizeOf56 rfl rfl hx15) ?_
          refine gd_p rfl rfl rfl (o_load_agg Try.isAgg56 Try.sizeOf56 rfl rfl) ?_
          refine gd_p rfl rfl rfl (o_move rfl) ?_
          refine gd_p rfl rfl rfl (.view (peekE (i := 76) 0 rfl rfl rfl) (o_call0 Try.call89 rfl (w_syntagmaref13_with hx16))) ?_
          refine gd_p rfl rfl rfl (o_buildSlice (xs := [_]) (f := ApiTNode.d) (l := [_]) Try.runUnderlying51 Try.sizeOf56 Try.zeroValue56 rfl rfl rfl (fun _ => ⟨rfl, rfl, rfl⟩) rfl) ?_
          refine gd_nil ?_
          obtain ⟨hg17, hm3⟩ := grd_some hm3
          refine go_op rfl rfl rfl (o_append (a := _) 1 Try.underlying51 Try.type56 rfl rfl rfl rfl rfl rfl rfl (fun _ => rfl) (fun _ => rfl) hg17 (app_len hg17 rfl)) ?_
          rintro _ _ ⟨a_r2, cap_r2, rfl, rfl⟩
          refine go_ms (ms' := [_, _, box b2 53 [_, _], _, box b1 53 [_, _]]) rfl ?_
          refine go_p rfl rfl rfl (o_fieldAddr_box fi_53_0 rfl) ?_
          refine go_u rfl rfl (o_store_box 2 Try.sizeOf51 rfl rfl rfl rfl rfl rfl rfl rfl (Nat.le_of_ble_eq_true rfl)) ?_
          rintro _ _ rfl
          refine go_ms (ms' := [_, _, box b2 53 [_, _], _, box b1 53 [_, _]]) rfl ?_
          refine go_nil ?_
          refine g_region ?_
          refine go_p rfl rfl rfl (o_move rfl) ?_
          obtain ⟨hg18, hm3⟩ := grd_some hm3
          refine go_p rfl rfl rfl (o_add rfl rfl (i64_id hg18)) ?_
          refine go_p rfl rfl rfl (o_assign rfl) ?_
          refine go_nil ?_
          exact ⟨_, (_, _), hm3, ⟨rfl, trivial⟩, ⟨rfl, rfl, rfl, rfl, rfl, trivial⟩, [_], rfl⟩
      · replace hj2 := cond_f hc2 hj2
        refine g_exit ?_
        exact ⟨_, (_, _), some_eq hj2, trivial, ⟨rfl, rfl, trivial⟩, [], rfl⟩
    · rintro ⟨l3, z1⟩ ⟨a_r2, cap_r2⟩ hst
      subst hst
      refine k_norm (L' := [(4, _), (8, _)]) (ms' := [row a_r2 cap_r2 56 4 ApiTNode.d l3, box b2 53 [.v (.slice a_r2 l3.length cap_r2), .i64 z1], _, _]) rfl rfl ?_
      refine g_seq ?_
      refine g_region ?_
      refine go_p rfl rfl rfl (o_load_box_agg 1 Try.isAgg53 Try.sizeOf53 rfl rfl rfl rfl (Nat.le_of_ble_eq_true rfl)) ?_
      refine go_conv (peekAggE (i := 81) (q := 0) 0 rfl rfl rfl rfl rfl).refines ?_
      refine go_u rfl rfl (o_store_box 3 Try.sizeOf53 rfl rfl rfl rfl rfl rfl rfl rfl (Nat.le_of_ble_eq_true rfl)) ?_
      rintro _ _ rfl
      refine go_ms (ms' := [_, box b2 53 [_, _], _, box b1 53 [_, _]]) rfl ?_
      refine go_nil ?_
      refine g_ret ?_
      exact retK (ret_one' rfl (ret_cell 3 rfl rfl rfl Try.isAgg53 Try.sizeOf53 rfl) (perm_drop _)) (congrArg (fun (p : ApiType) => (ApiType.d p : D)) (some_eq hm2))
def m_syntagmaref13_Same (a1 : ApiType) (b1 : ApiType) : Option Bool :=
  (m_syntagmaref13_May a1).bind fun x1 =>
  bif (decide (x1 = 0)) then ((m_syntagmaref13_May b1).bind fun x2 =>
  bif (decide (x2 = 0)) then ((m_syntagmaref13_Norm a1 a1.root).bind fun x3 =>
  (m_syntagmaref13_Norm b1 b1.root).bind fun x4 =>
  (m_syntagmaref13_SameList x3 x4).bind fun x5 =>
  some x5) else (some false)) else (some false)
theorem w_syntagmaref13_Same {a1 : ApiType} {b1 : ApiType} {r_1 : Bool} (hm : m_syntagmaref13_Same a1 b1 = some r_1) : Fn0 Try.prog 44 [ApiType.d a1, ApiType.d b1] (.bool r_1) := by
  unfold m_syntagmaref13_Same at hm
  refine fn_intro Try.func44 rfl Try.ntmps44 rfl fun H0 fr w0 => ?_
  refine g_seq ?_
  refine g_region ?_
  refine go_p rfl rfl rfl (o_box rfl rfl) ?_
  refine go_p rfl rfl rfl (o_box rfl rfl) ?_
  refine go_p rfl rfl rfl (o_assign rfl) ?_
  refine go_nil ?_
  refine g_seq ?_
  obtain ⟨x1, hx1, hm⟩ := bind_some hm
  rcases cond_split hm with ⟨hg_1, hm⟩ | ⟨hg_1, hm⟩
  ·
    skip
    obtain ⟨x2, hx2, hm⟩ := bind_some hm
    rcases cond_split hm with ⟨hg_2, hm⟩ | ⟨hg_2, hm⟩
    ·
      skip
      obtain ⟨x3, hx3, hm⟩ := bind_some hm
      obtain ⟨x4, hx4, hm⟩ := bind_some hm
      obtain ⟨x5, hx5, hm⟩ := bind_some hm
      refine g_draw 20 Try_mixed (by decide +kernel) ?_
      refine gd_p rfl rfl rfl (o_load_agg Try.isAgg53 Try.sizeOf53 rfl rfl) ?_
      refine gd_p rfl rfl rfl (o_call0 Try.call29 rfl (w_syntagmaref13_May hx1)) ?_
      refine gd_p rfl rfl rfl (o_cmp rfl rfl rfl) ?_
      refine gd_p rfl rfl rfl (o_move rfl) ?_
      refine gd_want rfl rfl rfl hg_1 rfl rfl (o_load_agg Try.isAgg53 Try.sizeOf53 rfl rfl) ?_
      refine gd_want rfl rfl rfl hg_1 rfl rfl (o_call0 Try.call29 rfl (w_syntagmaref13_May hx2)) ?_
      refine gd_want rfl rfl rfl hg_1 rfl rfl (o_cmp rfl rfl rfl) ?_
      refine gd_p rfl rfl rfl (o_pickT rfl hg_1 rfl) ?_
      refine gd_p rfl rfl rfl (o_move rfl) ?_
      refine gd_want rfl rfl rfl hg_2 rfl rfl (o_load_agg Try.isAgg53 Try.sizeOf53 rfl rfl) ?_
      refine gd_want rfl rfl rfl hg_2 rfl rfl (o_fieldAddr fi_53_1 rfl rfl rfl) ?_
      refine gd_want rfl rfl rfl hg_2 rfl rfl (o_load Try.isAgg3 rfl rfl) ?_
      refine gd_want rfl rfl rfl hg_2 rfl rfl (o_call0 Try.call45 rfl (w_syntagmaref13_Norm hx3)) ?_
      refine gd_want rfl rfl rfl hg_2 rfl rfl (o_load_agg Try.isAgg53 Try.sizeOf53 rfl rfl) ?_
      refine gd_want rfl rfl rfl hg_2 rfl rfl (o_fieldAddr fi_53_1 rfl rfl rfl) ?_
      refine gd_want rfl rfl rfl hg_2 rfl rfl (o_load Try.isAgg3 rfl rfl) ?_
      refine gd_want rfl rfl rfl hg_2 rfl rfl (o_call0 Try.call45 rfl (w_syntagmaref13_Norm hx4)) ?_
      refine gd_want rfl rfl rfl hg_2 rfl rfl (o_call0 Try.call40 rfl (w_syntagmaref13_SameList hx5)) ?_
      refine gd_p rfl rfl rfl (o_pickT rfl hg_2 rfl) ?_
      refine gd_p rfl rfl rfl (o_assign rfl) ?_
      refine gd_nil ?_
      refine go_nil ?_
      refine g_ret ?_
      exact retK (ret_one' rfl (ret_tmp rfl) (perm_drop _)) (congrArg (fun (p : Bool) => (.bool p : D)) (some_eq hm))
    ·
      skip
      refine g_draw 20 Try_mixed (by decide +kernel) ?_
      refine gd_p rfl rfl rfl (o_load_agg Try.isAgg53 Try.sizeOf53 rfl rfl) ?_
      refine gd_p rfl rfl rfl (o_call0 Try.call29 rfl (w_syntagmaref13_May hx1)) ?_
      refine gd_p rfl rfl rfl (o_cmp rfl rfl rfl) ?_
      refine gd_p rfl rfl rfl (o_move rfl) ?_
      refine gd_want rfl rfl rfl hg_1 rfl rfl (o_load_agg Try.isAgg53 Try.sizeOf53 rfl rfl) ?_
      refine gd_want rfl rfl rfl hg_1 rfl rfl (o_call0 Try.call29 rfl (w_syntagmaref13_May hx2)) ?_
      refine gd_want rfl rfl rfl hg_1 rfl rfl (o_cmp rfl rfl rfl) ?_
      refine gd_p rfl rfl rfl (o_pickT rfl hg_1 rfl) ?_
      refine gd_p rfl rfl rfl (o_move rfl) ?_
      refine gd_skip rfl rfl rfl hg_2 rfl rfl ?_
      refine gd_skip rfl rfl rfl hg_2 rfl rfl ?_
      refine gd_skip rfl rfl rfl hg_2 rfl rfl ?_
      refine gd_skip rfl rfl rfl hg_2 rfl rfl ?_
      refine gd_skip rfl rfl rfl hg_2 rfl rfl ?_
      refine gd_skip rfl rfl rfl hg_2 rfl rfl ?_
      refine gd_skip rfl rfl rfl hg_2 rfl rfl ?_
      refine gd_skip rfl rfl rfl hg_2 rfl rfl ?_
      refine gd_skip rfl rfl rfl hg_2 rfl rfl ?_
      refine gd_p rfl rfl rfl (o_pickF rfl hg_2 rfl) ?_
      refine gd_p rfl rfl rfl (o_assign rfl) ?_
      refine gd_nil ?_
      refine go_nil ?_
      refine g_ret ?_
      exact retK (ret_one' rfl (ret_tmp rfl) (perm_drop _)) (congrArg (fun (p : Bool) => (.bool p : D)) (some_eq hm))
  ·
    skip
    refine g_draw 20 Try_mixed (by decide +kernel) ?_
    refine gd_p rfl rfl rfl (o_load_agg Try.isAgg53 Try.sizeOf53 rfl rfl) ?_
    refine gd_p rfl rfl rfl (o_call0 Try.call29 rfl (w_syntagmaref13_May hx1)) ?_
    refine gd_p rfl rfl rfl (o_cmp rfl rfl rfl) ?_
    refine gd_p rfl rfl rfl (o_move rfl) ?_
    refine gd_skip rfl rfl rfl hg_1 rfl rfl ?_
    refine gd_skip rfl rfl rfl hg_1 rfl rfl ?_
    refine gd_skip rfl rfl rfl hg_1 rfl rfl ?_
    refine gd_p rfl rfl rfl (o_pickF rfl hg_1 rfl) ?_
    refine gd_p rfl rfl rfl (o_move rfl) ?_
    refine gd_skip rfl rfl rfl rfl rfl rfl ?_
    refine gd_skip rfl rfl rfl rfl rfl rfl ?_
    refine gd_skip rfl rfl rfl rfl rfl rfl ?_
    refine gd_skip rfl rfl rfl rfl rfl rfl ?_
    refine gd_skip rfl rfl rfl rfl rfl rfl ?_
    refine gd_skip rfl rfl rfl rfl rfl rfl ?_
    refine gd_skip rfl rfl rfl rfl rfl rfl ?_
    refine gd_skip rfl rfl rfl rfl rfl rfl ?_
    refine gd_skip rfl rfl rfl rfl rfl rfl ?_
    refine gd_p rfl rfl rfl (o_pickF rfl rfl rfl) ?_
    refine gd_p rfl rfl rfl (o_assign rfl) ?_
    refine gd_nil ?_
    refine go_nil ?_
    refine g_ret ?_
    exact retK (ret_one' rfl (ret_tmp rfl) (perm_drop _)) (congrArg (fun (p : Bool) => (.bool p : D)) (some_eq hm))
def m_syntagmalaw13_GraphNorms (a1 : ApiType) (b1 : ApiType) (i1 : Int) : Option Bool :=
  (m_syntagmalaw13_Few (⟨a1.l, a1.root⟩ : ApiType) 60).bind fun x1 =>
  (m_syntagmalaw13_Few (⟨b1.l, b1.root⟩ : ApiType) 60).bind fun x2 =>
  (m_syntagmalaw13_Few (⟨x1.l, x1.root⟩ : ApiType) 60).bind fun x3 =>
  (m_graph_Norm x3).bind fun (x4, x5) =>
  (m_syntagmalaw13_Few (⟨x1.l, x1.root⟩ : ApiType) 60).bind fun x6 =>
  (m_graph_At x6 i1).bind fun (x7, x8) =>
  (m_syntagmalaw13_Few (⟨x1.l, x1.root⟩ : ApiType) 60).bind fun x9 =>
  (m_graph_Same x9 (⟨x2.l, x2.root⟩ : ApiType)).bind fun x10 =>
  (m_syntagmaref13_Same (⟨x1.l, x1.root⟩ : ApiType) (⟨x2.l, x2.root⟩ : ApiType)).bind fun x11 =>
  bif (!(x10 == x11)) then
    some false
  else
    (m_syntagmaref13_May (⟨x1.l, x1.root⟩ : ApiType)).bind fun x12 =>
    bif (!decide (x12 = 0)) then
      (bif ((decide (x5 = x12)) && (decide (x8 = x12))) then (grd (InR ((x4.l.length : Int) + (x7.l.length : Int))) <|
      some (decide (((x4.l.length : Int) + (x7.l.length : Int)) = 0))) else (some false)).bind fun p1 =>
      (bif p1 then ((m_syntagmalaw13_works).bind fun x13 =>
      some x13) else (some false)).bind fun p2 =>
      some p2
    else
      bif (!decide (x5 = 0)) then (some false) else ((m_syntagmaref13_Norm (⟨x1.l, x1.root⟩ : ApiType) x1.root).bind fun x14 =>
      (m_syntagmaref13_SameList (⟨x4.l, x4.root⟩ : ApiType) x14).bind fun x15 =>
      bif (!x15) then
        some false
      else
        bif ((decide (i1 < 0)) || (decide ((x1.l.length : Int) ≤ i1))) then
          (bif ((decide (x8 = 3)) && (decide ((x7.l.length : Int) = 0))) then ((m_syntagmalaw13_works).bind fun x16 =>
          some x16) else (some false)).bind fun p3 =>
          some p3
        else
          bif (decide (x8 = 0)) then ((m_syntagmaref13_Norm (⟨x1.l, x1.root⟩ : ApiType) i1).bind fun x17 =>
          (m_syntagmaref13_SameList (⟨x7.l, x7.root⟩ : ApiType) x17).bind fun x18 =>
          bif x18 then ((m_syntagmalaw13_works).bind fun x19 =>
          some x19) else (some false)) else (some false))
theorem w_syntagmalaw13_GraphNorms {a1 : ApiType} {b1 : ApiType} {i1 : Int} {r_1 : Bool} (hm : m_syntagmalaw13_GraphNorms a1 b1 i1 = some r_1) : Fn0 Try.prog 8 [ApiType.d a1, ApiType.d b1, .i64 i1] (.bool r_1) := by
  unfold m_syntagmalaw13_GraphNorms at hm
  refine fn_intro Try.func8 rfl Try.ntmps8 rfl fun H0 fr w0 => ?_
  refine g_seq ?_
  refine g_region ?_
  refine go_op rfl rfl rfl (o_box_own rfl rfl rfl) ?_
  rintro _ _ ⟨b1, rfl, rfl⟩
  refine go_op rfl rfl rfl (o_box_own rfl rfl rfl) ?_
  rintro _ _ ⟨b2, rfl, rfl⟩
  refine go_p rfl rfl rfl (o_assign rfl) ?_
  refine go_nil ?_
  refine g_seq ?_
  obtain ⟨x1, hx1, hm⟩ := bind_some hm
  obtain ⟨x2, hx2, hm⟩ := bind_some hm
  refine g_draw 4 Try_mixed (by decide +kernel) ?_
  refine gd_p rfl rfl rfl (o_load_box_agg 1 Try.isAgg53 Try.sizeOf53 rfl rfl rfl rfl (Nat.le_of_ble_eq_true rfl)) ?_
  refine gd_p rfl rfl rfl (o_call0 Try.call28 rfl (w_syntagmalaw13_Few hx1)) ?_
  refine gd_p rfl rfl rfl (o_load_box_agg 0 Try.isAgg53 Try.sizeOf53 rfl rfl rfl rfl (Nat.le_of_ble_eq_true rfl)) ?_
  refine gd_p rfl rfl rfl (o_call0 Try.call28 rfl (w_syntagmalaw13_Few hx2)) ?_
  refine gd_nil ?_
  refine go_u rfl rfl (o_store_box 1 Try.sizeOf53 rfl rfl rfl rfl rfl rfl rfl rfl (Nat.le_of_ble_eq_true rfl)) ?_
  rintro _ _ rfl
  refine go_ms (ms' := [box b2 53 [_, _], box b1 53 [_, _]]) rfl ?_
  refine go_u rfl rfl (o_store_box 0 Try.sizeOf53 rfl rfl rfl rfl rfl rfl rfl rfl (Nat.le_of_ble_eq_true rfl)) ?_
  rintro _ _ rfl
  refine go_ms (ms' := [box b2 53 [_, _], box b1 53 [_, _]]) rfl ?_
  refine go_nil ?_
  refine g_seq ?_
  refine g_region ?_
  refine go_p rfl rfl rfl (o_load_box_agg 1 Try.isAgg53 Try.sizeOf53 rfl rfl rfl rfl (Nat.le_of_ble_eq_true rfl)) ?_
  obtain ⟨x3, hx3, hm⟩ := bind_some hm
  refine go_p rfl rfl rfl (o_call0 Try.call28 rfl (w_syntagmalaw13_Few hx3)) ?_
  obtain ⟨⟨x4, x5⟩, hx4, hm⟩ := bind_some hm
  refine go_p rfl rfl rfl (o_call0 Try.call41 rfl (w_graph_Norm hx4)) ?_
  refine go_p rfl rfl rfl (o_move rfl) ?_
  refine go_p rfl rfl rfl (o_extract rfl rfl) ?_
  refine go_p rfl rfl rfl (o_extract rfl rfl) ?_
  refine go_op rfl rfl rfl (o_alloc_own Try.zeroValue53 (cs := [.list 4 ApiTNode.d [], .i64 0]) rfl) ?_
  rintro _ _ ⟨b3, rfl, rfl⟩
  refine go_u rfl rfl (o_store_box 0 Try.sizeOf53 rfl rfl rfl rfl rfl rfl rfl rfl (Nat.le_of_ble_eq_true rfl)) ?_
  rintro _ _ rfl
  refine go_ms (ms' := [box b3 53 [_, _], box b2 53 [_, _], box b1 53 [_, _]]) rfl ?_
  refine go_p rfl rfl rfl (o_assign rfl) ?_
  refine go_nil ?_
  refine g_seq ?_
  refine g_region ?_
  refine go_p rfl rfl rfl (o_load_box_agg 2 Try.isAgg53 Try.sizeOf53 rfl rfl rfl rfl (Nat.le_of_ble_eq_true rfl)) ?_
  obtain ⟨x6, hx5, hm⟩ := bind_some hm
  refine go_p rfl rfl rfl (o_call0 Try.call28 rfl (w_syntagmalaw13_Few hx5)) ?_
  refine go_p rfl rfl rfl (o_move rfl) ?_
  obtain ⟨⟨x7, x8⟩, hx6, hm⟩ := bind_some hm
  refine go_p rfl rfl rfl (o_call0 Try.call42 rfl (w_graph_At hx6)) ?_
  refine go_p rfl rfl rfl (o_move rfl) ?_
  refine go_p rfl rfl rfl (o_extract rfl rfl) ?_
  refine go_p rfl rfl rfl (o_extract rfl rfl) ?_
  refine go_op rfl rfl rfl (o_alloc_own Try.zeroValue53 (cs := [.list 4 ApiTNode.d [], .i64 0]) rfl) ?_
  rintro _ _ ⟨b4, rfl, rfl⟩
  refine go_u rfl rfl (o_store_box 0 Try.sizeOf53 rfl rfl rfl rfl rfl rfl rfl rfl (Nat.le_of_ble_eq_true rfl)) ?_
  rintro _ _ rfl
  refine go_ms (ms' := [box b4 53 [_, _], box b3 53 [_, _], box b2 53 [_, _], box b1 53 [_, _]]) rfl ?_
  refine go_p rfl rfl rfl (o_assign rfl) ?_
  refine go_nil ?_
  refine g_seq ?_
  refine g_seq ?_
  obtain ⟨x9, hx7, hm⟩ := bind_some hm
  obtain ⟨x10, hx8, hm⟩ := bind_some hm
  obtain ⟨x11, hx9, hm⟩ := bind_some hm
  refine g_draw 8 Try_mixed (by decide +kernel) ?_
  refine gd_p rfl rfl rfl (o_load_box_agg 3 Try.isAgg53 Try.sizeOf53 rfl rfl rfl rfl (Nat.le_of_ble_eq_true rfl)) ?_
  refine gd_p rfl rfl rfl (o_call0 Try.call28 rfl (w_syntagmalaw13_Few hx7)) ?_
  refine gd_p rfl rfl rfl (o_load_box_agg 2 Try.isAgg53 Try.sizeOf53 rfl rfl rfl rfl (Nat.le_of_ble_eq_true rfl)) ?_
  refine gd_p rfl rfl rfl (o_call0 Try.call43 rfl (w_graph_Same hx8)) ?_
  refine gd_p rfl rfl rfl (o_load_box_agg 3 Try.isAgg53 Try.sizeOf53 rfl rfl rfl rfl (Nat.le_of_ble_eq_true rfl)) ?_
  refine gd_p rfl rfl rfl (o_load_box_agg 2 Try.isAgg53 Try.sizeOf53 rfl rfl rfl rfl (Nat.le_of_ble_eq_true rfl)) ?_
  refine gd_p rfl rfl rfl (o_call0 Try.call44 rfl (w_syntagmaref13_Same hx9)) ?_
  refine gd_p rfl rfl rfl (o_neqb Try.runUnderlying4 rfl rfl) ?_
  refine gd_nil ?_
  refine go_nil ?_
  refine g_cond rfl (fun hc1 => ?_) (fun hc1 => ?_)
  · replace hm := cond_t hc1 hm
    refine g_seq ?_
    refine g_region ?_
    refine go_p rfl rfl rfl (o_assign rfl) ?_
    refine go_nil ?_
    refine g_ret ?_
    exact retK (ret_one' rfl (ret_tmp rfl) (perm_drop _)) (congrArg (fun (p : Bool) => (.bool p : D)) (some_eq hm))
  · replace hm := cond_f hc1 hm
    refine g_skip ?_
    refine g_seq ?_
    refine g_seq ?_
    refine g_region ?_
    refine go_p rfl rfl rfl (o_load_box_agg 3 Try.isAgg53 Try.sizeOf53 rfl rfl rfl rfl (Nat.le_of_ble_eq_true rfl)) ?_
    obtain ⟨x12, hx10, hm⟩ := bind_some hm
    refine go_p rfl rfl rfl (o_call0 Try.call29 rfl (w_syntagmaref13_May hx10)) ?_
    refine go_p rfl rfl rfl (o_assign rfl) ?_
    refine go_nil ?_
    refine g_seq ?_
    refine g_region ?_
    refine go_p rfl rfl rfl (o_move rfl) ?_
    refine go_p rfl rfl rfl (o_cmp rfl rfl rfl) ?_
    refine go_nil ?_
    refine g_cond rfl (fun hc2 => ?_) (fun hc2 => ?_)
    · replace hm := cond_t hc2 hm
      refine g_seq ?_
      refine g_region ?_
      refine go_p rfl rfl rfl (o_move rfl) ?_
      refine go_p rfl rfl rfl (o_move rfl) ?_
      refine go_p rfl rfl rfl (o_cmp rfl rfl rfl) ?_
      refine go_p rfl rfl rfl (o_move rfl) ?_
      apply go_and [(7, _), (9, _)] 4 48 (t := 44) ⟨rfl, rfl, trivial⟩ rfl
      · intro hg_1 hk1
        refine go_wantp rfl rfl rfl hg_1 rfl rfl (o_move rfl) ?_
        refine go_wantp rfl rfl rfl hg_1 rfl rfl (o_move rfl) ?_
        refine go_wantp rfl rfl rfl hg_1 rfl rfl (o_cmp rfl rfl rfl) ?_
        refine go_p rfl rfl rfl (o_pickT rfl hg_1 rfl) ?_
        exact go_meet hk1 (rfl) ⟨rfl, rfl, trivial⟩
      · intro hg_1 hk1
        refine go_skip rfl rfl rfl hg_1 rfl rfl ?_
        refine go_skip rfl rfl rfl hg_1 rfl rfl ?_
        refine go_skip rfl rfl rfl hg_1 rfl rfl ?_
        refine go_p rfl rfl rfl (o_pickF rfl hg_1 rfl) ?_
        exact go_meet hk1 (rfl) ⟨rfl, rfl, trivial⟩
      refine go_p rfl rfl rfl (o_move rfl) ?_
      obtain ⟨p1, hp_2, hm⟩ := bind_some hm
      refine go_two [] 9 58 p1 (t := 49) trivial rfl (fun hg_2 hk2 => ?_) (fun hg_2 hk2 => ?_) ?_
      · replace hp_2 := cond_t hg_2 hp_2
        refine go_wantp rfl rfl rfl hg_2 rfl rfl (o_fieldAddr_box fi_53_0 rfl) ?_
        refine go_wantp rfl rfl rfl hg_2 rfl rfl (o_load_box 1 Try.isAgg51 rfl rfl rfl rfl) ?_
        refine go_wantp rfl rfl rfl hg_2 rfl rfl (o_len Try.runUnderlying51 rfl) ?_
        refine go_wantp rfl rfl rfl hg_2 rfl rfl (o_fieldAddr_box fi_53_0 rfl) ?_
        refine go_wantp rfl rfl rfl hg_2 rfl rfl (o_load_box 0 Try.isAgg51 rfl rfl rfl rfl) ?_
        refine go_wantp rfl rfl rfl hg_2 rfl rfl (o_len Try.runUnderlying51 rfl) ?_
        obtain ⟨hg11, hp_2⟩ := grd_some hp_2
        refine go_wantp rfl rfl rfl hg_2 rfl rfl (o_add rfl rfl (i64_id hg11)) ?_
        refine go_wantp rfl rfl rfl hg_2 rfl rfl (o_cmp rfl rfl rfl) ?_
        refine go_p rfl rfl rfl (o_pickT rfl hg_2 rfl) ?_
        exact go_meet hk2 (congrArg (fun b => some (D.bool b)) (some_eq hp_2)) trivial
      · replace hp_2 := cond_f hg_2 hp_2
        refine go_skip rfl rfl rfl hg_2 rfl rfl ?_
        refine go_skip rfl rfl rfl hg_2 rfl rfl ?_
        refine go_skip rfl rfl rfl hg_2 rfl rfl ?_
        refine go_skip rfl rfl rfl hg_2 rfl rfl ?_
        refine go_skip rfl rfl rfl hg_2 rfl rfl ?_
        refine go_skip rfl rfl rfl hg_2 rfl rfl ?_
        refine go_skip rfl rfl rfl hg_2 rfl rfl ?_
        refine go_skip rfl rfl rfl hg_2 rfl rfl ?_
        refine go_p rfl rfl rfl (o_pickF rfl hg_2 rfl) ?_
        exact go_meet hk2 (congrArg (fun b => some (D.bool b)) (some_eq hp_2)) trivial
      refine go_p rfl rfl rfl (o_move rfl) ?_
      obtain ⟨p2, hp_3, hm⟩ := bind_some hm
      refine go_two [] 2 61 p2 (t := 59) trivial rfl (fun hg_3 hk3 => ?_) (fun hg_3 hk3 => ?_) ?_
      · replace hp_3 := cond_t hg_3 hp_3
        obtain ⟨x13, hx12, hp_3⟩ := bind_some hp_3
        refine go_wantp rfl rfl rfl hg_3 rfl rfl (o_call0 Try.call36 rfl (w_syntagmalaw13_works hx12)) ?_
        refine go_p rfl rfl rfl (o_pickT rfl hg_3 rfl) ?_
        exact go_meet hk3 (congrArg (fun b => some (D.bool b)) (some_eq hp_3)) trivial
      · replace hp_3 := cond_f hg_3 hp_3
        refine go_skip rfl rfl rfl hg_3 rfl rfl ?_
        refine go_p rfl rfl rfl (o_pickF rfl hg_3 rfl) ?_
        exact go_meet hk3 (congrArg (fun b => some (D.bool b)) (some_eq hp_3)) trivial
      refine go_p rfl rfl rfl (o_assign rfl) ?_
      refine go_nil ?_
      refine g_ret ?_
      exact retK (ret_one' rfl (ret_tmp rfl) (perm_drop _)) (congrArg (fun (p : Bool) => (.bool p : D)) (some_eq hm))
    · replace hm := cond_f hc2 hm
      refine g_skip ?_
      refine g_seq ?_
      refine g_seq ?_
      rcases cond_split hm with ⟨hg_4, hm⟩ | ⟨hg_4, hm⟩
      ·
        skip
        refine g_draw 11 Try_mixed (by decide +kernel) ?_
        refine gd_p rfl rfl rfl (o_move rfl) ?_
        refine gd_p rfl rfl rfl (o_cmp rfl rfl rfl) ?_
        refine gd_p rfl rfl rfl (o_move rfl) ?_
        refine gd_skip rfl rfl rfl hg_4 rfl rfl ?_
        refine gd_skip rfl rfl rfl hg_4 rfl rfl ?_
        refine gd_skip rfl rfl rfl hg_4 rfl rfl ?_
        refine gd_skip rfl rfl rfl hg_4 rfl rfl ?_
        refine gd_skip rfl rfl rfl hg_4 rfl rfl ?_
        refine gd_skip rfl rfl rfl hg_4 rfl rfl ?_
        refine gd_skip rfl rfl rfl hg_4 rfl rfl ?_
        refine gd_p rfl rfl rfl (o_pickT rfl hg_4 rfl) ?_
        refine gd_nil ?_
        refine go_nil ?_
        refine g_cond_true rfl rfl ?_
        refine g_seq ?_
        refine g_region ?_
        refine go_p rfl rfl rfl (o_assign rfl) ?_
        refine go_nil ?_
        refine g_ret ?_
        exact retK (ret_one' rfl (ret_tmp rfl) (perm_drop _)) (congrArg (fun (p : Bool) => (.bool p : D)) (some_eq hm))
      ·
        skip
        obtain ⟨x14, hx13, hm⟩ := bind_some hm
        obtain ⟨x15, hx14, hm⟩ := bind_some hm
        refine g_draw 11 Try_mixed (by decide +kernel) ?_
        refine gd_p rfl rfl rfl (o_move rfl) ?_
        refine gd_p rfl rfl rfl (o_cmp rfl rfl rfl) ?_
        refine gd_p rfl rfl rfl (o_move rfl) ?_
        refine gd_want rfl rfl rfl hg_4 rfl rfl (o_load_box_agg 1 Try.isAgg53 Try.sizeOf53 rfl rfl rfl rfl (Nat.le_of_ble_eq_true rfl)) ?_
        refine gd_want rfl rfl rfl hg_4 rfl rfl (o_load_box_agg 3 Try.isAgg53 Try.sizeOf53 rfl rfl rfl rfl (Nat.le_of_ble_eq_true rfl)) ?_
        refine gd_want rfl rfl rfl hg_4 rfl rfl (o_fieldAddr_box fi_53_1 rfl) ?_
        refine gd_want rfl rfl rfl hg_4 rfl rfl (o_load_box 3 Try.isAgg3 rfl rfl rfl rfl) ?_
        refine gd_want rfl rfl rfl hg_4 rfl rfl (o_call0 Try.call45 rfl (w_syntagmaref13_Norm hx13)) ?_
        refine gd_want rfl rfl rfl hg_4 rfl rfl (o_call0 Try.call40 rfl (w_syntagmaref13_SameList hx14)) ?_
        refine gd_want rfl rfl rfl hg_4 rfl rfl (o_not rfl) ?_
        refine gd_p rfl rfl rfl (o_pickF rfl hg_4 rfl) ?_
        refine gd_nil ?_
        refine go_nil ?_
        refine g_cond rfl (fun hc3 => ?_) (fun hc3 => ?_)
        · replace hm := cond_t hc3 hm
          refine g_seq ?_
          refine g_region ?_
          refine go_p rfl rfl rfl (o_assign rfl) ?_
          refine go_nil ?_
          refine g_ret ?_
          exact retK (ret_one' rfl (ret_tmp rfl) (perm_drop _)) (congrArg (fun (p : Bool) => (.bool p : D)) (some_eq hm))
        · replace hm := cond_f hc3 hm
          refine g_skip ?_
          refine g_seq ?_
          refine g_seq ?_
          refine g_region ?_
          refine go_p rfl rfl rfl (o_move rfl) ?_
          refine go_p rfl rfl rfl (o_cmp rfl rfl rfl) ?_
          refine go_p rfl rfl rfl (o_move rfl) ?_
          apply go_or [(2, _), (3, _), (9, _), (10, _)] 6 81 (t := 75) ⟨rfl, rfl, rfl, rfl, trivial⟩ rfl
          · intro hg_5 hk5
            refine go_wantp rfl rfl rfl hg_5 rfl rfl (o_move rfl) ?_
            refine go_wantp rfl rfl rfl hg_5 rfl rfl (o_fieldAddr_box fi_53_0 rfl) ?_
            refine go_wantp rfl rfl rfl hg_5 rfl rfl (o_load_box 3 Try.isAgg51 rfl rfl rfl rfl) ?_
            refine go_wantp rfl rfl rfl hg_5 rfl rfl (o_len Try.runUnderlying51 rfl) ?_
            refine go_wantp rfl rfl rfl hg_5 rfl rfl (o_cmp rfl rfl rfl) ?_
            refine go_p rfl rfl rfl (o_pickF rfl hg_5 rfl) ?_
            exact go_meet hk5 (rfl) ⟨rfl, rfl, rfl, rfl, trivial⟩
          · intro hg_5 hk5
            refine go_skip rfl rfl rfl hg_5 rfl rfl ?_
            refine go_skip rfl rfl rfl hg_5 rfl rfl ?_
            refine go_skip rfl rfl rfl hg_5 rfl rfl ?_
            refine go_skip rfl rfl rfl hg_5 rfl rfl ?_
            refine go_skip rfl rfl rfl hg_5 rfl rfl ?_
            refine go_p rfl rfl rfl (o_pickT rfl hg_5 rfl) ?_
            exact go_meet hk5 (rfl) ⟨rfl, rfl, rfl, rfl, trivial⟩
          refine go_nil ?_
          refine g_cond rfl (fun hc4 => ?_) (fun hc4 => ?_)
          · replace hm := cond_t hc4 hm
            refine g_seq ?_
            refine g_region ?_
            refine go_p rfl rfl rfl (o_move rfl) ?_
            refine go_p rfl rfl rfl (o_cmp rfl rfl rfl) ?_
            refine go_p rfl rfl rfl (o_move rfl) ?_
            apply go_and [] 5 89 (t := 84) trivial rfl
            · intro hg_6 hk6
              refine go_wantp rfl rfl rfl hg_6 rfl rfl (o_fieldAddr_box fi_53_0 rfl) ?_
              refine go_wantp rfl rfl rfl hg_6 rfl rfl (o_load_box 0 Try.isAgg51 rfl rfl rfl rfl) ?_
              refine go_wantp rfl rfl rfl hg_6 rfl rfl (o_len Try.runUnderlying51 rfl) ?_
              refine go_wantp rfl rfl rfl hg_6 rfl rfl (o_cmp rfl rfl rfl) ?_
              refine go_p rfl rfl rfl (o_pickT rfl hg_6 rfl) ?_
              exact go_meet hk6 (rfl) trivial
            · intro hg_6 hk6
              refine go_skip rfl rfl rfl hg_6 rfl rfl ?_
              refine go_skip rfl rfl rfl hg_6 rfl rfl ?_
              refine go_skip rfl rfl rfl hg_6 rfl rfl ?_
              refine go_skip rfl rfl rfl hg_6 rfl rfl ?_
              refine go_p rfl rfl rfl (o_pickF rfl hg_6 rfl) ?_
              exact go_meet hk6 (rfl) trivial
            refine go_p rfl rfl rfl (o_move rfl) ?_
            obtain ⟨p3, hp_7, hm⟩ := bind_some hm
            refine go_two [] 2 92 p3 (t := 90) trivial rfl (fun hg_7 hk7 => ?_) (fun hg_7 hk7 => ?_) ?_
            · replace hp_7 := cond_t hg_7 hp_7
              obtain ⟨x16, hx15, hp_7⟩ := bind_some hp_7
              refine go_wantp rfl rfl rfl hg_7 rfl rfl (o_call0 Try.call36 rfl (w_syntagmalaw13_works hx15)) ?_
              refine go_p rfl rfl rfl (o_pickT rfl hg_7 rfl) ?_
              exact go_meet hk7 (congrArg (fun b => some (D.bool b)) (some_eq hp_7)) trivial
            · replace hp_7 := cond_f hg_7 hp_7
              refine go_skip rfl rfl rfl hg_7 rfl rfl ?_
              refine go_p rfl rfl rfl (o_pickF rfl hg_7 rfl) ?_
              exact go_meet hk7 (congrArg (fun b => some (D.bool b)) (some_eq hp_7)) trivial
            refine go_p rfl rfl rfl (o_assign rfl) ?_
            refine go_nil ?_
            refine g_ret ?_
            exact retK (ret_one' rfl (ret_tmp rfl) (perm_drop _)) (congrArg (fun (p : Bool) => (.bool p : D)) (some_eq hm))
          · replace hm := cond_f hc4 hm
            refine g_skip ?_
            refine g_seq ?_
            rcases cond_split hm with ⟨hg_8, hm⟩ | ⟨hg_8, hm⟩
            ·
              skip
              obtain ⟨x17, hx16, hm⟩ := bind_some hm
              obtain ⟨x18, hx17, hm⟩ := bind_some hm
              rcases cond_split hm with ⟨hg_9, hm⟩ | ⟨hg_9, hm⟩
              ·
                skip
                obtain ⟨x19, hx18, hm⟩ := bind_some hm
                refine g_draw 13 Try_mixed (by decide +kernel) ?_
                refine gd_p rfl rfl rfl (o_move rfl) ?_
                refine gd_p rfl rfl rfl (o_cmp rfl rfl rfl) ?_
                refine gd_p rfl rfl rfl (o_move rfl) ?_
                refine gd_want rfl rfl rfl hg_8 rfl rfl (o_load_box_agg 0 Try.isAgg53 Try.sizeOf53 rfl rfl rfl rfl (Nat.le_of_ble_eq_true rfl)) ?_
                refine gd_want rfl rfl rfl hg_8 rfl rfl (o_load_box_agg 3 Try.isAgg53 Try.sizeOf53 rfl rfl rfl rfl (Nat.le_of_ble_eq_true rfl)) ?_
                refine gd_want rfl rfl rfl hg_8 rfl rfl (o_move rfl) ?_
                refine gd_want rfl rfl rfl hg_8 rfl rfl (o_call0 Try.call45 rfl (w_syntagmaref13_Norm hx16)) ?_
                refine gd_want rfl rfl rfl hg_8 rfl rfl (o_call0 Try.call40 rfl (w_syntagmaref13_SameList hx17)) ?_
                refine gd_p rfl rfl rfl (o_pickT rfl hg_8 rfl) ?_
                refine gd_p rfl rfl rfl (o_move rfl) ?_
                refine gd_want rfl rfl rfl hg_9 rfl rfl (o_call0 Try.call36 rfl (w_syntagmalaw13_works hx18)) ?_
                refine gd_p rfl rfl rfl (o_pickT rfl hg_9 rfl) ?_
                refine gd_p rfl rfl rfl (o_assign rfl) ?_
                refine gd_nil ?_
                refine go_nil ?_
                refine g_ret ?_
                exact retK (ret_one' rfl (ret_tmp rfl) (perm_drop _)) (congrArg (fun (p : Bool) => (.bool p : D)) (some_eq hm))
              ·
                skip
                refine g_draw 13 Try_mixed (by decide +kernel) ?_
                refine gd_p rfl rfl rfl (o_move rfl) ?_
                refine gd_p rfl rfl rfl (o_cmp rfl rfl rfl) ?_
                refine gd_p rfl rfl rfl (o_move rfl) ?_
                refine gd_want rfl rfl rfl hg_8 rfl rfl (o_load_box_agg 0 Try.isAgg53 Try.sizeOf53 rfl rfl rfl rfl (Nat.le_of_ble_eq_true rfl)) ?_
                refine gd_want rfl rfl rfl hg_8 rfl rfl (o_load_box_agg 3 Try.isAgg53 Try.sizeOf53 rfl rfl rfl rfl (Nat.le_of_ble_eq_true rfl)) ?_
                refine gd_want rfl rfl rfl hg_8 rfl rfl (o_move rfl) ?_
                refine gd_want rfl rfl rfl hg_8 rfl rfl (o_call0 Try.call45 rfl (w_syntagmaref13_Norm hx16)) ?_
                refine gd_want rfl rfl rfl hg_8 rfl rfl (o_call0 Try.call40 rfl (w_syntagmaref13_SameList hx17)) ?_
                refine gd_p rfl rfl rfl (o_pickT rfl hg_8 rfl) ?_
                refine gd_p rfl rfl rfl (o_move rfl) ?_
                refine gd_skip rfl rfl rfl hg_9 rfl rfl ?_
                refine gd_p rfl rfl rfl (o_pickF rfl hg_9 rfl) ?_
                refine gd_p rfl rfl rfl (o_assign rfl) ?_
                refine gd_nil ?_
                refine go_nil ?_
                refine g_ret ?_
                exact retK (ret_one' rfl (ret_tmp rfl) (perm_drop _)) (congrArg (fun (p : Bool) => (.bool p : D)) (some_eq hm))
            ·
              skip
              refine g_draw 13 Try_mixed (by decide +kernel) ?_
              refine gd_p rfl rfl rfl (o_move rfl) ?_
              refine gd_p rfl rfl rfl (o_cmp rfl rfl rfl) ?_
              refine gd_p rfl rfl rfl (o_move rfl) ?_
              refine gd_skip rfl rfl rfl hg_8 rfl rfl ?_
              refine gd_skip rfl rfl rfl hg_8 rfl rfl ?_
              refine gd_skip rfl rfl rfl hg_8 rfl rfl ?_
              refine gd_skip rfl rfl rfl hg_8 rfl rfl ?_
              refine gd_skip rfl rfl rfl hg_8 rfl rfl ?_
              refine gd_p rfl rfl rfl (o_pickF rfl hg_8 rfl) ?_
              refine gd_p rfl rfl rfl (o_move rfl) ?_
              refine gd_skip rfl rfl rfl rfl rfl rfl ?_
              refine gd_p rfl rfl rfl (o_pickF rfl rfl rfl) ?_
              refine gd_p rfl rfl rfl (o_assign rfl) ?_
              refine gd_nil ?_
              refine go_nil ?_
              refine g_ret ?_
              exact retK (ret_one' rfl (ret_tmp rfl) (perm_drop _)) (congrArg (fun (p : Bool) => (.bool p : D)) (some_eq hm))
end Go.Proofs.Ytafphfokopkhdaa
set_option linter.unusedVariables false
set_option linter.unusedSimpArgs false
set_option maxRecDepth 100000
namespace Go.Proofs.Ytafphfokopkhdaa
open Go.V
open Classical
theorem FUv : FU = 18446744073709551616 := rfl
theorem bt (b c : Bool) : (bif b then some true else some c : Option Bool) = some (b || c) := by cases b <;> rfl
theorem bf (b c : Bool) : (bif b then some c else some false : Option Bool) = some (b && c) := by cases b <;> rfl
theorem lenNe {α β : Type} (a : List α) (b : List β) : (!decide ((a.length : Int) = (b.length : Int))) = !decide (a.length = b.length) := by
  congr 1; exact decide_eq_decide.2 (by omega)
def smallB (c : UInt8) : Bool := (decide (97 ≤ (c.toNat : Int)) && decide ((c.toNat : Int) ≤ 122)) || decide ((c.toNat : Int) = 95)
def greatB (c : UInt8) : Bool := decide (65 ≤ (c.toNat : Int)) && decide ((c.toNat : Int) ≤ 90)
def moreB (c : UInt8) : Bool := (smallB c || greatB c) || (decide (48 ≤ (c.toNat : Int)) && decide ((c.toNat : Int) ≤ 57))
def wordP : List UInt8 → Nat
  | [] => 0
  | c :: r => if smallB c = true ∨ greatB c = true then 1 + (r.takeWhile moreB).length else 0
theorem word_c (c : UInt8) (r : List UInt8) : wordP (c :: r) = if smallB c = true ∨ greatB c = true then 1 + (r.takeWhile moreB).length else 0 := rfl
theorem word_eq (s : List UInt8) (h : s.length ≤ 1000000000000) : m_name_Word s = some (wordP s : Int) := by
  unfold m_name_Word
  rcases s with _ | ⟨c, r⟩
  · rfl
  · rw [decide_eq_false (by simp), cond_false, idx_c0, Option.bind_some]
    simp only [m_name_small, m_name_great, Option.bind_some, bf]
    rw [show (((decide (97 ≤ (c.toNat : Int))) && (decide ((c.toNat : Int) ≤ 122))) || (decide ((c.toNat : Int) = 95))) = smallB c from rfl, show ((decide (65 ≤ (c.toNat : Int))) && (decide ((c.toNat : Int) ≤ 90))) = greatB c from rfl]
    rw [word_c]
    cases h1 : smallB c || greatB c with
    | false =>
      simp only [Bool.or_eq_false_iff] at h1
      rw [h1.1, h1.2]; simp
    | true =>
      rw [if_pos (by simpa using h1)]
      have : (!smallB c && !greatB c) = false := by cases hs : smallB c <;> cases hg : greatB c <;> simp_all
      rw [this, cond_false]
      simp only [List.length_cons] at h
      refine bnd (loop_while (φ := m_name_Word_l1 (c :: r)) (l := c :: r) moreB (fun i => (i : Int)) ?_ ?_ FU 1 (by simp) (by rw [FUv]; simp; omega)) rfl
      · intro n i x hx hi
        simp only [List.length_cons] at hi
        simp only [m_name_Word_l1]
        rw [decide_eq_true (by simp only [List.length_cons]; omega), cond_true, getI hx, Option.bind_some]
        simp only [m_name_more, m_name_small, m_name_great, Option.bind_some, bt]
        constructor
        · intro hq
          simp only [moreB, smallB, greatB] at hq
          rw [hq, cond_true, grd_pos (by omega)]
        · intro hq
          simp only [moreB, smallB, greatB] at hq
          rw [hq, cond_false]
      · intro n
        simp only [m_name_Word_l1]
        rw [decide_eq_false (by omega), cond_false, Option.bind_some, cond_false]
theorem rword_eq (s : List UInt8) (h : s.length ≤ 1000000000000) : m_syntagmaref03_Word s = some (wordP s : Int) := by
  unfold m_syntagmaref03_Word
  rcases s with _ | ⟨c, r⟩
  · rfl
  · rw [decide_eq_false (by simp; omega), cond_false, idx_c0, Option.bind_some]
    simp only [m_syntagmaref03_small, m_syntagmaref03_great, Option.bind_some, bf]
    rw [show (((decide (97 ≤ (c.toNat : Int))) && (decide ((c.toNat : Int) ≤ 122))) || (decide ((c.toNat : Int) = 95))) = smallB c from rfl, show ((decide (65 ≤ (c.toNat : Int))) && (decide ((c.toNat : Int) ≤ 90))) = greatB c from rfl]
    rw [word_c]
    cases h1 : smallB c || greatB c with
    | false =>
      simp only [Bool.or_eq_false_iff] at h1
      rw [h1.1, h1.2]; simp
    | true =>
      rw [if_pos (by simpa using h1)]
      have : (!smallB c && !greatB c) = false := by cases hs : smallB c <;> cases hg : greatB c <;> simp_all
      rw [this, cond_false]
      simp only [List.length_cons] at h
      refine bnd (loop_while (φ := m_syntagmaref03_Word_l1 (c :: r)) (l := c :: r) moreB (fun i => (i : Int)) ?_ ?_ FU 1 (by simp) (by rw [FUv]; simp; omega)) rfl
      · intro n i x hx hi
        simp only [List.length_cons] at hi
        simp only [m_syntagmaref03_Word_l1]
        rw [decide_eq_true (by simp only [List.length_cons]; omega), cond_true, getI hx, Option.bind_some]
        simp only [m_syntagmaref03_small, m_syntagmaref03_great, Option.bind_some, bt, bf]
        constructor
        · intro hq
          simp only [moreB, smallB, greatB] at hq
          rw [hq, cond_true, grd_pos (by omega)]
        · intro hq
          simp only [moreB, smallB, greatB] at hq
          rw [hq, cond_false]
      · intro n
        simp only [m_syntagmaref03_Word_l1]
        rw [decide_eq_false (by omega), cond_false, Option.bind_some, cond_false]
def keysL : List (List UInt8) := match m_name_Keywords with | some l => l | none => []
theorem keys_eq : m_name_Keywords = some keysL := rfl
theorem rkeys_eq : m_syntagmaref03_Keywords = some keysL := rfl
theorem isKey_eq (l : List (List UInt8)) (s : List UInt8) (h : l.length ≤ 1000) : m_slices_Contains_string_string l s = some (decide (s ∈ l)) := by
  unfold m_slices_Contains_string_string m_slices_Index_string_string
  have e := loop_find (φ := m_slices_Index_string_string_l1 l s) (l := l) (fun i => (i : Int)) (fun x => decide (s = x)) (by
    intro n i x hx hi
    simp only [m_slices_Index_string_string_l1]
    rw [decide_eq_true (show (i : Int) < l.length by omega), cond_true, getI hx, Option.bind_some]
    constructor
    · intro hq; rw [show decide (s = x) = false from by simpa using hq, cond_false, grd_pos (by omega)]
    · intro hq; rw [show decide (s = x) = true from by simpa using hq, cond_true]) (by
    intro n
    simp only [m_slices_Index_string_string_l1]
    rw [decide_eq_false (by omega), cond_false]) (by rw [FUv]; omega)
  rw [bind_of e]
  cases hf : l.findIdx? (fun x => decide (s = x)) with
  | none =>
    rw [List.findIdx?_eq_none_iff] at hf
    show some (decide _) = _
    congr 1
    rw [decide_eq_false (by omega), decide_eq_false]
    intro hs
    have := hf s hs
    simp at this
  | some k =>
    rw [List.findIdx?_eq_some_iff_getElem] at hf
    obtain ⟨hk, h1, _⟩ := hf
    show some (decide _) = _
    congr 1
    rw [decide_eq_true (by omega), decide_eq_true]
    simp only [decide_eq_true_eq] at h1
    rw [h1]
    exact List.getElem_mem hk
theorem rIsKey_eq (l : List (List UInt8)) (s : List UInt8) (h : l.length ≤ 1000) : m_syntagmaref03_In s l = some (decide (s ∈ l)) := by
  unfold m_syntagmaref03_In
  refine bnd (loop_any (φ := m_syntagmaref03_In_l1 s l) (l := l) true (fun _ x => x = s) ?_ ?_ (by rw [FUv]; omega)) ?_
  · intro n i x hx hi
    simp only [m_syntagmaref03_In_l1]
    rw [decide_eq_true (by omega), cond_true, getI hx, Option.bind_some]
    constructor
    · intro hq; rw [decide_eq_false hq, cond_false, grd_pos (by omega)]
    · intro hq; rw [decide_eq_true hq, cond_true]
  · intro n
    simp only [m_syntagmaref03_In_l1]
    rw [decide_eq_false (by omega), cond_false]
  · by_cases hs : s ∈ l
    · obtain ⟨i, hi, h2⟩ := List.getElem_of_mem hs
      rw [if_pos ⟨i, s, by rw [← h2]; exact List.getElem?_eq_getElem hi, rfl⟩, decide_eq_true hs]; rfl
    · rw [if_neg, decide_eq_false hs]; rfl
      rintro ⟨i, x, h1, rfl⟩
      exact hs (List.mem_of_getElem? h1)
def headP (p : UInt8 → Bool) : List UInt8 → Bool
  | [] => false
  | c :: _ => p c
def wholeP (s : List UInt8) : Bool := decide (s ≠ []) && decide (s.length ≤ 20) && decide (wordP s = s.length)
def nameP (s : List UInt8) : Bool := wholeP s && headP smallB s && !decide (s ∈ keysL)
def tagP (s : List UInt8) : Bool := wholeP s && headP greatB s
theorem whole_eq (s : List UInt8) : m_name_whole s = some (wholeP s) := by
  unfold m_name_whole wholeP
  by_cases h1 : s = []
  · subst h1; rfl
  by_cases h2 : s.length ≤ 20
  · rw [decide_eq_false h1, decide_eq_true (show (s.length : Int) ≤ 20 by omega), word_eq s (by omega)]
    simp only [Bool.not_false, Bool.true_and, cond_true, Option.bind_some, decide_eq_true (show s ≠ [] from h1), decide_eq_true h2]
    congr 1
    exact decide_eq_decide.2 (by omega)
  · rw [decide_eq_false (show ¬ (s.length : Int) ≤ 20 by omega), decide_eq_false h2]; simp
theorem name_eq (s : List UInt8) : m_name_Name s = some (nameP s) := by
  unfold m_name_Name nameP
  rw [whole_eq, Option.bind_some]
  cases hw : wholeP s with
  | false => rfl
  | true =>
    rcases s with _ | ⟨c, r⟩
    · simp [wholeP] at hw
    · rw [cond_true, idx_c0, Option.bind_some]
      simp only [m_name_small, Option.bind_some, m_name_Keyword, keys_eq, Bool.true_and]
      rw [isKey_eq _ _ (by decide), Option.bind_some, Option.bind_some, bf, Option.bind_some]; rfl
theorem tag_eq (s : List UInt8) : m_name_Tag s = some (tagP s) := by
  unfold m_name_Tag tagP
  rw [whole_eq, Option.bind_some]
  cases hw : wholeP s with
  | false => rfl
  | true =>
    rcases s with _ | ⟨c, r⟩
    · simp [wholeP] at hw
    · rw [cond_true, idx_c0, Option.bind_some]; rfl
theorem rwhole_eq (s : List UInt8) : (bif ((decide (0 < (s.length : Int))) && (decide ((s.length : Int) ≤ 20))) then ((m_syntagmaref03_Word s).bind fun x1 => some (decide (x1 = (s.length : Int)))) else (some false)) = some (wholeP s) := by
  unfold wholeP
  by_cases h1 : s = []
  · subst h1; rfl
  have h0 : 0 < s.length := List.length_pos_iff.2 h1
  by_cases h2 : s.length ≤ 20
  · rw [decide_eq_true (show 0 < (s.length : Int) by omega), decide_eq_true (show (s.length : Int) ≤ 20 by omega), rword_eq s (by omega)]
    simp only [Bool.true_and, cond_true, Option.bind_some, decide_eq_true (show s ≠ [] from h1), decide_eq_true h2]
    congr 1
    exact decide_eq_decide.2 (by omega)
  · rw [decide_eq_false (show ¬ (s.length : Int) ≤ 20 by omega), decide_eq_false h2]; simp
theorem rname_eq (s : List UInt8) : m_syntagmaref03_Name s = some (nameP s) := by
  unfold m_syntagmaref03_Name nameP
  refine bnd (rwhole_eq s) ?_
  cases hw : wholeP s with
  | false => rfl
  | true =>
    rcases s with _ | ⟨c, r⟩
    · simp [wholeP] at hw
    · rw [cond_true, idx_c0, Option.bind_some]
      simp only [m_syntagmaref03_small, Option.bind_some, m_syntagmaref03_Keyword, rkeys_eq, Bool.true_and]
      rw [rIsKey_eq _ _ (by decide), Option.bind_some, Option.bind_some, bf, Option.bind_some]; rfl
theorem rtag_eq (s : List UInt8) : m_syntagmaref03_Tag s = some (tagP s) := by
  unfold m_syntagmaref03_Tag tagP
  refine bnd (rwhole_eq s) ?_
  cases hw : wholeP s with
  | false => rfl
  | true =>
    rcases s with _ | ⟨c, r⟩
    · simp [wholeP] at hw
    · rw [cond_true, idx_c0, Option.bind_some]; rfl
def fewN (n : ApiTNode) : ApiTNode := ⟨n.kind, n.a, n.b, [] ++ n.l.take 40⟩
def fewC (l : List ApiTNode) : Nat := if 2000 < l.length then 2001 else 60
def fewT (t : ApiType) : ApiType := ⟨(t.l.take (fewC t.l)).map fewN, t.root⟩
theorem min40 (l : List ApiTField) : sli l 0 (if 40 < (l.length : Int) then 40 else (l.length : Int)) = some (l.take 40) := by
  by_cases h : 40 < (l.length : Int)
  · rw [if_pos h]; exact sli_take (k := 40) (by omega)
  · rw [if_neg h, sli_take (by omega), List.take_of_length_le (by omega), List.take_of_length_le (by omega)]
theorem few_eq (t : ApiType) : m_syntagmalaw13_Few t 60 = some (fewT t) := by
  unfold m_syntagmalaw13_Few fewT
  have hC : fewC t.l = 2001 ∧ 2000 < t.l.length ∨ fewC t.l = 60 ∧ ¬ 2000 < t.l.length := by unfold fewC; split <;> simp_all
  have hL : (t.l.take (fewC t.l)).length ≤ 2001 ∧ (t.l.take (fewC t.l)).length ≤ t.l.length ∧ (t.l.take (fewC t.l)).length ≤ fewC t.l := by rw [List.length_take]; omega
  rw [loop_map (φ := fun n i s => m_syntagmalaw13_Few_l1 t 60 n (i, s, t.root)) (l := t.l.take (fewC t.l)) fewN (fun s => (s, t.root)) 0 ?_ ?_ (by rw [FUv]; omega) [] rfl]
  · rfl
  · intro n i x s hx hi hs
    have hx2 : t.l[i]? = some x := by
      rw [List.getElem?_take, if_pos (by omega)] at hx
      exact hx
    have h40 : (x.l.take 40).length ≤ 40 := by rw [List.length_take]; omega
    simp only [m_syntagmalaw13_Few_l1]
    rw [decide_eq_true (show (i : Int) < t.l.length by omega), Bool.true_and, show (decide ((i : Int) < 60) || (decide (2000 < (t.l.length : Int)) && decide ((i : Int) ≤ 2000))) = true by
      rw [Bool.or_eq_true, Bool.and_eq_true, decide_eq_true_eq, decide_eq_true_eq, decide_eq_true_eq]; omega, cond_true, getI hx2, Option.bind_some, min40, Option.bind_some, grd_pos (by omega), grd_pos (by simp only [List.length_cons, List.length_nil]; omega), grd_pos (by omega)]
    rfl
  · intro n s hs
    simp only [m_syntagmalaw13_Few_l1]
    rw [show (decide (((t.l.take (fewC t.l)).length : Int) < t.l.length) && (decide (((t.l.take (fewC t.l)).length : Int) < 60) || (decide (2000 < (t.l.length : Int)) && decide (((t.l.take (fewC t.l)).length : Int) ≤ 2000)))) = false by
      rw [List.length_take, Bool.and_eq_false_iff, Bool.or_eq_false_iff, Bool.and_eq_false_iff, decide_eq_false_iff_not, decide_eq_false_iff_not, decide_eq_false_iff_not, decide_eq_false_iff_not]; omega, cond_false]
theorem fewT_len (t : ApiType) : (fewT t).l.length ≤ 2001 := by unfold fewT fewC; simp only [List.length_map, List.length_take]; split <;> omega
def NB (n : ApiTNode) : Prop := n.l.length ≤ 40
theorem fewN_nb (n : ApiTNode) : NB (fewN n) := by unfold fewN NB; simp; omega
theorem fewT_nb (t : ApiType) : ∀ n ∈ (fewT t).l, NB n := by
  intro n hn
  obtain ⟨m, _, rfl⟩ := List.mem_map.1 hn
  exact fewN_nb m
theorem fewN_fewN (n : ApiTNode) : fewN (fewN n) = fewN n := by
  unfold fewN
  simp only [List.nil_append, ApiTNode.mk.injEq, true_and]
  exact List.take_of_length_le (by rw [List.length_take]; omega)
theorem fewT_fewT (t : ApiType) : fewT (fewT t) = fewT t := by
  have h1 := fewT_len t
  have h2 : fewC (fewT t).l = fewC t.l := by
    unfold fewC
    have : (fewT t).l.length = min (fewC t.l) t.l.length := by unfold fewT; simp
    rw [this]; unfold fewC
    split <;> split <;> omega
  have h3 : (fewT t).l.length ≤ fewC t.l := by unfold fewT; simp; omega
  show (⟨((fewT t).l.take (fewC (fewT t).l)).map fewN, t.root⟩ : ApiType) = _
  rw [h2, List.take_of_length_le h3]
  unfold fewT
  simp only [List.map_map]
  congr 1
  exact List.map_congr_left fun n _ => fewN_fewN n
def pB (k : Int) : Bool := (decide (k = 6) || decide (k = 9)) || decide (k = 10)
def wB (k : Int) : Bool := decide (k = 7) || decide (k = 8)
def kidsL (n : ApiTNode) : List Int := bif pB n.kind then [n.a, n.b] else bif wB n.kind then n.l.map (·.at_) else []
theorem kids_eq (n : ApiTNode) (h : NB n) : m_graph_Kids n = some (kidsL n) := by
  unfold m_graph_Kids kidsL m_graph_pair m_graph_wide
  unfold NB at h
  rw [Option.bind_some, Option.bind_some]
  change (bif pB n.kind then _ else bif wB n.kind then _ else _) = _
  cases pB n.kind
  · cases wB n.kind
    · rfl
    · rw [cond_false, cond_true, cond_false, cond_true, loop_map (φ := fun k i s => m_graph_Kids_l1 n k (i, s)) (l := n.l) (·.at_) id 0 ?_ ?_ (by rw [FUv]; omega) [] rfl]
      · rfl
      · intro k i x s hx hi hs
        simp only [m_graph_Kids_l1]
        rw [decide_eq_true (show (i : Int) < n.l.length by omega), cond_true, getI hx, Option.bind_some, grd_pos (by simp only [List.length_cons, List.length_nil]; omega), grd_pos (by omega)]
      · intro k s hs
        simp only [m_graph_Kids_l1]
        rw [decide_eq_false (by omega), cond_false]; rfl
  · rfl
theorem rkids_eq (n : ApiTNode) (h : NB n) : m_syntagmaref13_Kids n = some (kidsL n) := by
  unfold m_syntagmaref13_Kids kidsL
  unfold NB at h
  change (bif pB n.kind then _ else bif wB n.kind then _ else _) = _
  cases pB n.kind
  · cases wB n.kind
    · rfl
    · rw [cond_false, cond_true, cond_false, cond_true, loop_map (φ := fun k i s => m_syntagmaref13_Kids_l1 n k (i, s)) (l := n.l) (·.at_) id 0 ?_ ?_ (by rw [FUv]; omega) [] rfl]
      · rfl
      · intro k i x s hx hi hs
        simp only [m_syntagmaref13_Kids_l1]
        rw [decide_eq_true (show (i : Int) < n.l.length by omega), cond_true, getI hx, Option.bind_some, grd_pos (by simp only [List.length_cons, List.length_nil]; omega), grd_pos (by omega)]
      · intro k s hs
        simp only [m_syntagmaref13_Kids_l1]
        rw [decide_eq_false (by omega), cond_false]; rfl
  · rfl
theorem kidsL_len (n : ApiTNode) (h : NB n) : (kidsL n).length ≤ 40 := by
  unfold kidsL; unfold NB at h
  cases pB n.kind
  · cases wB n.kind
    · simp
    · simpa using h
  · simp
def badF (n : ApiTNode) (x : ApiTField) : Bool := (decide (n.kind = 7) && !nameP x.name) || (decide (n.kind = 8) && !tagP x.name)
def okF (n : ApiTNode) (i : Nat) (x : ApiTField) : Prop := badF n x = false ∧ (0 < i → ∀ y, n.l[i - 1]? = some y → Op.bytesLess y.name x.name = true)
def namedP (n : ApiTNode) : Prop := ∀ i x, n.l[i]? = some x → okF n i x
theorem named_eq (n : ApiTNode) (h : NB n) : m_graph_named n = some (decide (namedP n) && decide ((n.l.length : Int) ≤ 30)) := by
  unfold m_graph_named
  unfold NB at h
  rw [loop_all (φ := m_graph_named_l1 n) (l := n.l) false (okF n) ?_ ?_ (by rw [FUv]; omega), Option.bind_some]
  · by_cases hp : namedP n
    · rw [if_pos (show ∀ i x, n.l[i]? = some x → okF n i x from hp), decide_eq_true hp]; rfl
    · rw [if_neg (show ¬ ∀ i x, n.l[i]? = some x → okF n i x from hp), decide_eq_false hp]; rfl
  · intro k i x hx hi
    simp only [m_graph_named_l1]
    have e1 : ((bif (decide (n.kind = 7)) then ((m_name_Name x.name).bind fun x3 => some (!x3)) else (some false)).bind fun p1 =>
      (bif p1 then (some true) else ((bif (decide (n.kind = 8)) then ((m_name_Tag x.name).bind fun x4 => some (!x4)) else (some false)).bind fun p3 => some p3))) = some (badF n x) := by
      rw [name_eq, tag_eq, Option.bind_some, Option.bind_some, bf, Option.bind_some, bf, Option.bind_some, bt]; rfl
    rw [decide_eq_true (show (i : Int) < n.l.length by omega), cond_true, getI hx, Option.bind_some, ← Option.bind_assoc, e1, Option.bind_some]
    unfold okF
    cases hb : badF n x
    · rw [cond_false]
      by_cases h0 : 0 < i
      · have hy : n.l[i - 1]? = some n.l[i - 1] := List.getElem?_eq_getElem (by omega)
        rw [decide_eq_true (show (0 : Int) < (i : Int) by omega), cond_true, grd_pos (by omega), show ((i : Int) - 1) = ((i - 1 : Nat) : Int) by omega, getI hy, Option.bind_some]
        constructor
        · rintro ⟨_, h2⟩
          rw [h2 h0 _ hy, Bool.not_true, cond_false, grd_pos (by omega)]
        · intro h2
          cases hl : Op.bytesLess (n.l[i - 1]).name x.name
          · rfl
          · exact absurd ⟨rfl, fun _ y hy2 => by rw [hy] at hy2; cases hy2; exact hl⟩ h2
      · rw [decide_eq_false (show ¬ (0 : Int) < (i : Int) by omega), cond_false]
        exact ⟨fun _ => by rw [grd_pos (by omega)], fun h2 => absurd ⟨rfl, fun h3 => absurd h3 h0⟩ h2⟩
    · rw [cond_true]
      exact ⟨fun h2 => by simp at h2, fun _ => rfl⟩
  · intro k
    simp only [m_graph_named_l1]
    rw [decide_eq_false (by omega), cond_false]
theorem rnamed_eq (n : ApiTNode) (h : NB n) : m_syntagmaref13_right_l1 n FU 0 = some (if namedP n then .go () else .ret false) := by
  unfold NB at h
  rw [loop_all (φ := m_syntagmaref13_right_l1 n) (l := n.l) false (okF n) ?_ ?_ (by rw [FUv]; omega)]
  · rfl
  · intro k i x hx hi
    simp only [m_syntagmaref13_right_l1]
    have e1 : ((bif (decide (n.kind = 7)) then ((m_syntagmaref03_Name x.name).bind fun x3 => some (!x3)) else (some false)).bind fun p1 =>
      (bif p1 then (some true) else ((bif (decide (n.kind = 8)) then ((m_syntagmaref03_Tag x.name).bind fun x4 => some (!x4)) else (some false)).bind fun p3 => some p3))) = some (badF n x) := by
      rw [rname_eq, rtag_eq, Option.bind_some, Option.bind_some, bf, Option.bind_some, bf, Option.bind_some, bt]; rfl
    rw [decide_eq_true (show (i : Int) < n.l.length by omega), cond_true, getI hx, Option.bind_some, ← Option.bind_assoc, e1, Option.bind_some]
    unfold okF
    cases hb : badF n x
    · rw [cond_false]
      by_cases h0 : 0 < i
      · have hy : n.l[i - 1]? = some n.l[i - 1] := List.getElem?_eq_getElem (by omega)
        rw [decide_eq_true (show (0 : Int) < (i : Int) by omega), cond_true, grd_pos (by omega), show ((i : Int) - 1) = ((i - 1 : Nat) : Int) by omega, getI hy, Option.bind_some, Option.bind_some, Option.bind_some]
        constructor
        · rintro ⟨_, h2⟩
          rw [h2 h0 _ hy, Bool.not_true, cond_false, grd_pos (by omega)]
        · intro h2
          cases hl : Op.bytesLess (n.l[i - 1]).name x.name
          · rfl
          · exact absurd ⟨rfl, fun _ y hy2 => by rw [hy] at hy2; cases hy2; exact hl⟩ h2
      · rw [decide_eq_false (show ¬ (0 : Int) < (i : Int) by omega), cond_false, Option.bind_some, Option.bind_some, cond_false]
        exact ⟨fun _ => by rw [grd_pos (by omega)], fun h2 => absurd ⟨rfl, fun h3 => absurd h3 h0⟩ h2⟩
    · rw [cond_true, Option.bind_some, cond_true]
      exact ⟨fun h2 => by simp at h2, fun _ => rfl⟩
  · intro k
    simp only [m_syntagmaref13_right_l1]
    rw [decide_eq_false (by omega), cond_false]
def inB (all k : Int) : Bool := decide (k < 0) || decide (all ≤ k)
theorem outKids_eq (l : List Int) (all : Int) (h : l.length ≤ 1000) : m_slices_ContainsFunc_int_int l (fun y0 => m_graph_right_1 y0 all) = some (decide (∃ k ∈ l, inB all k = true)) := by
  unfold m_slices_ContainsFunc_int_int m_slices_IndexFunc_int_int
  rw [loop_find (φ := m_slices_IndexFunc_int_int_l1 l (fun y0 => m_graph_right_1 y0 all)) (l := l) (fun i => (i : Int)) (inB all) ?_ ?_ (by rw [FUv]; omega)]
  · rw [Option.bind_some]
    cases hf : l.findIdx? (inB all) with
    | none =>
      have : ¬ ∃ k ∈ l, inB all k = true := by
        rintro ⟨c, hc, hne⟩
        have := List.findIdx?_eq_none_iff.1 hf c hc
        rw [hne] at this; cases this
      rw [decide_eq_false this]; rfl
    | some i =>
      obtain ⟨hi, h1, _⟩ := List.findIdx?_eq_some_iff_getElem.1 hf
      have : ∃ k ∈ l, inB all k = true := ⟨l[i], List.getElem_mem hi, h1⟩
      rw [decide_eq_true this]
      show some (decide (0 ≤ (i : Int))) = some true
      rw [decide_eq_true (by omega)]
  · intro n i x hx hi
    simp only [m_slices_IndexFunc_int_int_l1]
    rw [decide_eq_true (show (i : Int) < l.length by omega), cond_true, getI hx, Option.bind_some, show m_graph_right_1 x all = some (inB all x) from rfl, Option.bind_some]
    exact ⟨fun hq => by rw [hq, cond_false, grd_pos (by omega)], fun hq => by rw [hq, cond_true]⟩
  · intro n
    simp only [m_slices_IndexFunc_int_int_l1]
    rw [decide_eq_false (by omega), cond_false]
theorem routKids_eq (l : List Int) (all : Int) (h : l.length ≤ 1000) : m_syntagmaref13_right_l2 all l FU 0 = some (if (∃ k ∈ l, inB all k = true) then .ret false else .go ()) := by
  rw [loop_any (φ := m_syntagmaref13_right_l2 all l) (l := l) false (fun _ k => inB all k = true) ?_ ?_ (by rw [FUv]; omega)]
  · have e : (∃ (i : Nat) (x : Int), l[i]? = some x ∧ inB all x = true) ↔ ∃ k ∈ l, inB all k = true := by
      constructor
      · rintro ⟨i, x, h1, h2⟩; exact ⟨x, List.mem_of_getElem? h1, h2⟩
      · rintro ⟨k, h1, h2⟩; obtain ⟨i, hi⟩ := List.getElem?_of_mem h1; exact ⟨i, k, hi, h2⟩
    by_cases h2 : ∃ k ∈ l, inB all k = true
    · rw [if_pos (e.2 h2), if_pos h2]
    · rw [if_neg (fun h3 => h2 (e.1 h3)), if_neg h2]
  · intro n i x hx hi
    simp only [m_syntagmaref13_right_l2]
    rw [decide_eq_true (show (i : Int) < l.length by omega), cond_true, getI hx, Option.bind_some, Option.bind_some, bt, Option.bind_some]
    change (¬ inB all x = true → (bif inB all x then _ else _) = _) ∧ (inB all x = true → (bif inB all x then _ else _) = _)
    cases inB all x
    · exact ⟨fun _ => by rw [cond_false, grd_pos (by omega)], fun h => by cases h⟩
    · exact ⟨fun h => absurd rfl h, fun _ => by rw [cond_true]⟩
  · intro n
    simp only [m_syntagmaref13_right_l2]
    rw [decide_eq_false (by omega), cond_false]
noncomputable def rightB (n : ApiTNode) (all : Int) : Bool :=
  !(decide (n.kind < 1) || decide (11 < n.kind)) && (!((!pB n.kind) && ((!decide (n.b = 0)) || ((!decide (n.kind = 11)) && (!decide (n.a = 0))))) && (!(decide (n.kind = 11) && (decide (n.a < 0) || decide (999 < n.a))) &&
    (!((!wB n.kind) && decide (0 < (n.l.length : Int))) && ((decide (namedP n) && decide ((n.l.length : Int) ≤ 30)) && !decide (∃ k ∈ kidsL n, inB all k = true)))))
theorem right_eq (n : ApiTNode) (all : Int) (h : NB n) : m_graph_right n all = some (rightB n all) := by
  unfold m_graph_right rightB
  rw [show m_graph_pair n.kind = some (pB n.kind) from rfl, show m_graph_wide n.kind = some (wB n.kind) from rfl, Option.bind_some, Option.bind_some, named_eq n h, kids_eq n h, Option.bind_some, Option.bind_some, outKids_eq _ _ (by have := kidsL_len n h; omega), Option.bind_some]
  cases (decide (n.kind < 1) || decide (11 < n.kind))
  · cases ((!pB n.kind) && ((!decide (n.b = 0)) || ((!decide (n.kind = 11)) && (!decide (n.a = 0)))))
    · cases (decide (n.kind = 11) && (decide (n.a < 0) || decide (999 < n.a)))
      · cases ((!wB n.kind) && decide (0 < (n.l.length : Int)))
        · cases (decide (namedP n) && decide ((n.l.length : Int) ≤ 30)) <;> rfl
        · rfl
      · rfl
    · rfl
  · rfl
theorem rright_eq (n : ApiTNode) (all : Int) (h : NB n) : m_syntagmaref13_right n all = some (rightB n all) := by
  unfold m_syntagmaref13_right rightB
  rw [rnamed_eq n h, rkids_eq n h, Option.bind_some, Option.bind_some, routKids_eq _ _ (by have := kidsL_len n h; omega), Option.bind_some]
  change (bif ((((((decide (n.kind < 1)) || (decide (11 < n.kind))) || (((!pB n.kind) && (!decide (n.kind = 11))) && (!decide (n.a = 0)))) || ((!pB n.kind) && (!decide (n.b = 0)))) || ((!wB n.kind) && (decide (0 < (n.l.length : Int))))) || (decide (30 < (n.l.length : Int)))) then _ else _) = _
  rw [show decide (30 < (n.l.length : Int)) = !decide ((n.l.length : Int) ≤ 30) by rw [← decide_not]; exact decide_eq_decide.2 (by omega)]
  by_cases hn : namedP n
  · rw [if_pos hn, decide_eq_true hn]
    by_cases hk : ∃ k ∈ kidsL n, inB all k = true
    · rw [if_pos hk, decide_eq_true hk]
      cases decide (n.kind < 1) <;> cases decide (11 < n.kind) <;> cases pB n.kind <;> cases wB n.kind <;> cases decide (n.kind = 11) <;> cases decide (n.a = 0) <;> cases decide (n.b = 0) <;> cases decide (0 < (n.l.length : Int)) <;> cases decide ((n.l.length : Int) ≤ 30) <;> cases decide (n.a < 0) <;> cases decide (999 < n.a) <;> rfl
    · rw [if_neg hk, decide_eq_false hk]
      cases decide (n.kind < 1) <;> cases decide (11 < n.kind) <;> cases pB n.kind <;> cases wB n.kind <;> cases decide (n.kind = 11) <;> cases decide (n.a = 0) <;> cases decide (n.b = 0) <;> cases decide (0 < (n.l.length : Int)) <;> cases decide ((n.l.length : Int) ≤ 30) <;> cases decide (n.a < 0) <;> cases decide (999 < n.a) <;> rfl
  · rw [if_neg hn, decide_eq_false hn]
    cases decide (n.kind < 1) <;> cases decide (11 < n.kind) <;> cases pB n.kind <;> cases wB n.kind <;> cases decide (n.kind = 11) <;> cases decide (n.a = 0) <;> cases decide (n.b = 0) <;> cases decide (0 < (n.l.length : Int)) <;> cases decide ((n.l.length : Int) ≤ 30) <;> cases decide (n.a < 0) <;> cases decide (999 < n.a) <;> rfl
end Go.Proofs.Ytafphfokopkhdaa
set_option linter.unusedVariables false
set_option linter.unusedSimpArgs false
set_option maxRecDepth 100000
namespace Go.Proofs.Ytafphfokopkhdaa
open Go.V
open Classical
def latB (k : Int) : Bool := decide (k = 9) || decide (k = 10)
def endk (L : List ApiTNode) : Nat → Nat → Bool
  | 0, _ => false
  | k + 1, i => match L[i]? with
    | some n => !latB n.kind || (endk L k n.a.toNat && endk L k n.b.toNat)
    | none => false
theorem endk_succ (L : List ApiTNode) : ∀ (k i : Nat), endk L k i = true → endk L (k + 1) i = true
  | 0, i, h => by simp [endk] at h
  | k + 1, i, h => by
    unfold endk at h ⊢
    cases hq : L[i]? with
    | none => rw [hq] at h; exact h
    | some n =>
      rw [hq] at h
      simp only at h ⊢
      cases hl : latB n.kind
      · rfl
      · rw [hl] at h
        simp only [Bool.not_true, Bool.false_or, Bool.and_eq_true] at h ⊢
        exact ⟨endk_succ L k _ h.1, endk_succ L k _ h.2⟩
theorem endk_mono {L : List ApiTNode} {k m i : Nat} (hkm : k ≤ m) (h : endk L k i = true) : endk L m i = true := by
  induction hkm with
  | refl => exact h
  | step _ ih => exact endk_succ L _ _ ih
def Ends (L : List ApiTNode) (i : Nat) : Prop := ∃ k, endk L k i = true
def AllEnds (L : List ApiTNode) : Prop := ∀ i, i < L.length → Ends L i
def InL (L : List ApiTNode) : Prop := ∀ n ∈ L, ∀ k ∈ kidsL n, 0 ≤ k ∧ k < (L.length : Int)
theorem lat_kids {n : ApiTNode} (h : latB n.kind = true) : kidsL n = [n.a, n.b] := by
  unfold kidsL
  have : pB n.kind = true := by
    unfold latB at h; unfold pB
    rw [Bool.or_eq_true, decide_eq_true_eq, decide_eq_true_eq] at h
    rcases h with h | h <;> rw [h] <;> rfl
  rw [this]; rfl
theorem ends_of {L : List ApiTNode} {i : Nat} {n : ApiTNode} (hi : L[i]? = some n) (h : latB n.kind = true → Ends L n.a.toNat ∧ Ends L n.b.toNat) : Ends L i := by
  cases hl : latB n.kind with
  | false => exact ⟨1, by simp [endk, hi, hl]⟩
  | true =>
    obtain ⟨⟨k1, h1⟩, ⟨k2, h2⟩⟩ := h hl
    exact ⟨max k1 k2 + 1, by simp [endk, hi, hl, endk_mono (Nat.le_max_left k1 k2) h1, endk_mono (Nat.le_max_right k1 k2) h2]⟩
def cnd (L : List ApiTNode) (l : List Bool) (i : Nat) : Bool := match L[i]? with
  | some n => !latB n.kind || (l.getD n.a.toNat false && l.getD n.b.toNat false)
  | none => false
theorem count_set {l : List Bool} {i : Nat} (h : l[i]? = some false) : (l.set i true).count true = l.count true + 1 := by
  have hi := (List.getElem?_eq_some_iff.1 h).1
  have h2 := (List.getElem?_eq_some_iff.1 h).2
  rw [List.count_set hi, h2]
  simp
theorem cnd_eq {L : List ApiTNode} {l : List Bool} {i : Nat} {n : ApiTNode} (hR : InL L) (hl : l.length = L.length) (hi : L[i]? = some n) {β : Type} (K : Bool → Option β) :
    ((bif ((!decide (n.kind = 9)) && (!decide (n.kind = 10))) then (some true) else ((idx l n.a).bind fun x4 => (bif x4 then ((idx l n.b).bind fun x5 => some x5) else (some false)).bind fun p2 => some p2)).bind K) = K (cnd L l i) := by
  have e : ((!decide (n.kind = 9)) && (!decide (n.kind = 10))) = !latB n.kind := by unfold latB; rw [Bool.not_or]
  rw [e]
  unfold cnd
  rw [hi]
  simp only
  cases hb : latB n.kind with
  | false => simp
  | true =>
    have hk := hR n (List.mem_of_getElem? hi)
    rw [lat_kids hb] at hk
    obtain ⟨a0, a1⟩ := hk n.a (by simp)
    obtain ⟨b0, b1⟩ := hk n.b (by simp)
    have ha : l[n.a.toNat]? = some (l[n.a.toNat]'(by omega)) := List.getElem?_eq_getElem (by omega)
    have hb2 : l[n.b.toNat]? = some (l[n.b.toNat]'(by omega)) := List.getElem?_eq_getElem (by omega)
    have ia : idx l n.a = some (l[n.a.toNat]'(by omega)) := by rw [← ha]; unfold idx; rw [if_pos a0]
    have ib : idx l n.b = some (l[n.b.toNat]'(by omega)) := by rw [← hb2]; unfold idx; rw [if_pos b0]
    rw [Bool.not_true, cond_false, ia, Option.bind_some, ib, Option.bind_some, List.getD_eq_getElem?_getD, List.getD_eq_getElem?_getD, ha, hb2]
    cases l[n.a.toNat]'(by omega) <;> simp
theorem pass {t : ApiType} (hR : InL t.l) (hlen : t.l.length ≤ 2001) (l0 : List Bool) (h0 : l0.length = t.l.length) (hs : ∀ i : Nat, l0[i]? = some true → Ends t.l i) :
    ∃ m l, m_syntagmaref13_May_l3 t FU (false, 0, l0) = some (m, l) ∧ l.length = t.l.length ∧ (∀ i : Nat, l[i]? = some true → Ends t.l i) ∧ (m = false → l = l0 ∧ ∀ j, j < t.l.length → cnd t.l l0 j = true → l0[j]? = some true) ∧ (m = true → l0.count true < l.count true) := by
  obtain ⟨o, h1, h2⟩ := loop_rng (φ := fun n i (s : Bool × List Bool) => m_syntagmaref13_May_l3 t n (s.1, i, s.2)) (l := t.l)
    (fun i s => s.2.length = t.l.length ∧ (∀ i : Nat, s.2[i]? = some true → Ends t.l i) ∧ l0.count true ≤ s.2.count true ∧ (s.1 = false → s.2 = l0 ∧ ∀ j, j < i → cnd t.l l0 j = true → l0[j]? = some true) ∧ (s.1 = true → l0.count true < s.2.count true))
    (fun o : Bool × List Bool => o.2.length = t.l.length ∧ (∀ i : Nat, o.2[i]? = some true → Ends t.l i) ∧ (o.1 = false → o.2 = l0 ∧ ∀ j, j < t.l.length → cnd t.l l0 j = true → l0[j]? = some true) ∧ (o.1 = true → l0.count true < o.2.count true))
    (by
      rintro n i x ⟨m, l⟩ hx hi ⟨i1, i2, i3, i4, i5⟩
      simp only at i1 i2 i3 i4 i5
      left
      simp only [m_syntagmaref13_May_l3]
      rw [decide_eq_true (show (i : Int) < t.l.length by omega), cond_true, getI hx, Option.bind_some, cnd_eq hR i1 hx]
      have hy : l[i]? = some (l[i]'(by omega)) := List.getElem?_eq_getElem (by omega)
      cases hc : cnd t.l l i with
      | false =>
        refine ⟨(m, l), by rw [cond_false, Option.bind_some, cond_false, grd_pos (by omega)], i1, i2, i3, fun hm => ⟨(i4 hm).1, fun j hj hcj => ?_⟩, i5⟩
        by_cases hji : j = i
        · subst hji; rw [← (i4 hm).1, hc] at hcj; cases hcj
        · exact (i4 hm).2 j (by omega) hcj
      | true =>
        rw [cond_true, getI hy, Option.bind_some, Option.bind_some]
        cases hv : l[i]'(by omega) with
        | true =>
          refine ⟨(m, l), by rw [Bool.not_true, cond_false, grd_pos (by omega)], i1, i2, i3, fun hm => ⟨(i4 hm).1, fun j hj hcj => ?_⟩, i5⟩
          by_cases hji : j = i
          · subst hji; rw [← (i4 hm).1, hy, hv]
          · exact (i4 hm).2 j (by omega) hcj
        | false =>
          rw [hv] at hy
          have hct := count_set hy
          refine ⟨(true, l.set i true), by rw [Bool.not_false, cond_true, Option.bind_some, grd_pos (by omega), Int.toNat_natCast], by simpa using i1, fun j hj => ?_, by simp only; omega, fun h => (by cases h), fun _ => by simp only; omega⟩
          simp only at hj
          rw [List.getElem?_set] at hj
          by_cases hji : i = j
          · subst hji
            refine ends_of hx fun hlat => ?_
            have hk := hR x (List.mem_of_getElem? hx)
            rw [lat_kids hlat] at hk
            unfold cnd at hc
            rw [hx] at hc
            simp only [hlat, Bool.not_true, Bool.false_or, Bool.and_eq_true] at hc
            rw [List.getD_eq_getElem?_getD, List.getD_eq_getElem?_getD] at hc
            constructor
            · refine i2 _ ?_
              cases hq : l[x.a.toNat]? with
              | none => rw [hq] at hc; simp at hc
              | some v => rw [hq] at hc; simp at hc; rw [hc.1]
            · refine i2 _ ?_
              cases hq : l[x.b.toNat]? with
              | none => rw [hq] at hc; simp at hc
              | some v => rw [hq] at hc; simp at hc; rw [hc.2]
          · rw [if_neg hji] at hj; exact i2 j hj)
    (by
      rintro n ⟨m, l⟩ ⟨i1, i2, i3, i4, i5⟩
      refine ⟨(m, l), ?_, i1, i2, i4, i5⟩
      simp only [m_syntagmaref13_May_l3]
      rw [decide_eq_false (by omega), cond_false]) (by rw [FUv]; omega) (false, l0) ⟨h0, hs, Nat.le_refl _, fun _ => ⟨rfl, fun j hj => by omega⟩, fun h => by cases h⟩
  obtain ⟨a, b, c, d⟩ := h2
  exact ⟨o.1, o.2, h1, a, b, c, d⟩
theorem closed_ends {L : List ApiTNode} {l : List Bool} (hl : l.length = L.length) (hR : InL L) (hc : ∀ j, j < L.length → cnd L l j = true → l[j]? = some true) : ∀ (k i : Nat), i < L.length → endk L k i = true → l[i]? = some true
  | 0, i, _, h => by simp [endk] at h
  | k + 1, i, hi, h => by
    refine hc i hi ?_
    unfold endk at h
    unfold cnd
    have hx : L[i]? = some L[i] := List.getElem?_eq_getElem hi
    rw [hx] at h ⊢
    simp only at h ⊢
    cases hlat : latB (L[i]).kind with
    | false => rfl
    | true =>
      have hk := hR L[i] (List.getElem_mem hi)
      rw [lat_kids hlat] at hk
      obtain ⟨a0, a1⟩ := hk (L[i]).a (by simp)
      obtain ⟨b0, b1⟩ := hk (L[i]).b (by simp)
      rw [hlat] at h
      simp only [Bool.not_true, Bool.false_or, Bool.and_eq_true] at h ⊢
      have e1 := closed_ends hl hR hc k _ (by omega) h.1
      have e2 := closed_ends hl hR hc k _ (by omega) h.2
      rw [List.getD_eq_getElem?_getD, List.getD_eq_getElem?_getD, e1, e2]; exact ⟨rfl, rfl⟩
theorem rounds {t : ApiType} (hR : InL t.l) (hlen : t.l.length ≤ 2001) :
    ∃ l, m_syntagmaref13_May_l2 t FU (true, List.replicate t.l.length false) = some l ∧ l.length = t.l.length ∧ ∀ i, i < t.l.length → (l[i]? = some true ↔ Ends t.l i) := by
  obtain ⟨l, h1, h2, h3, h4⟩ := loop_inv (φ := m_syntagmaref13_May_l2 t) (fun s => 2 * (t.l.length - s.2.count true) + (if s.1 = true then 1 else 0))
    (fun s => s.2.length = t.l.length ∧ (∀ i : Nat, s.2[i]? = some true → Ends t.l i) ∧ (s.1 = false → ∀ j, j < t.l.length → cnd t.l s.2 j = true → s.2[j]? = some true))
    (fun l => l.length = t.l.length ∧ (∀ i : Nat, l[i]? = some true → Ends t.l i) ∧ ∀ j, j < t.l.length → cnd t.l l j = true → l[j]? = some true)
    (by
      rintro n ⟨m, l⟩ ⟨i1, i2, i3⟩
      simp only at i1 i2 i3
      cases m with
      | false => exact .inr ⟨l, ⟨i1, i2, i3 rfl⟩, by simp only [m_syntagmaref13_May_l2]; rfl⟩
      | true =>
        obtain ⟨m, l', e1, e2, e3, e4, e5⟩ := pass hR hlen l i1 i2
        refine .inl ⟨(m, l'), ⟨e2, e3, fun hm => ?_⟩, ?_, ?_⟩
        · simp only at hm ⊢
          obtain ⟨rfl, h⟩ := e4 hm; exact h
        · have hc1 : l'.count true ≤ t.l.length := by rw [← e2]; exact List.count_le_length
          cases m with
          | false => obtain ⟨rfl, _⟩ := e4 rfl; simp
          | true => have := e5 rfl; simp; omega
        · simp only [m_syntagmaref13_May_l2]
          rw [cond_true, e1, Option.bind_some])
    FU (true, List.replicate t.l.length false) ⟨by simp, fun i hi => by rw [List.getElem?_replicate] at hi; split at hi <;> simp at hi, fun h => by cases h⟩ (by rw [FUv]; simp only [List.count_replicate]; simp; omega)
  exact ⟨l, h1, h2, fun i hi => ⟨h3 i, fun ⟨k, hk⟩ => closed_ends h2 hR h4 k i hi hk⟩⟩
theorem allTrue_eq (l : List Bool) (h : l.length ≤ 2001) : m_syntagmaref13_May_l4 l FU 0 = some (if (∀ b ∈ l, b = true) then .go () else .ret 4) := by
  rw [loop_all (φ := m_syntagmaref13_May_l4 l) (l := l) 4 (fun _ b => b = true) ?_ ?_ (by rw [FUv]; omega)]
  · have e : (∀ (i : Nat) (x : Bool), l[i]? = some x → x = true) ↔ ∀ b ∈ l, b = true := ⟨fun h b hb => by obtain ⟨i, hi⟩ := List.getElem?_of_mem hb; exact h i b hi, fun h i x hx => h x (List.mem_of_getElem? hx)⟩
    by_cases h2 : ∀ b ∈ l, b = true
    · rw [if_pos (e.2 h2), if_pos h2]
    · rw [if_neg (fun h3 => h2 (e.1 h3)), if_neg h2]
  · intro n i x hx hi
    simp only [m_syntagmaref13_May_l4]
    rw [decide_eq_true (show (i : Int) < l.length by omega), cond_true, getI hx, Option.bind_some]
    cases x
    · exact ⟨fun h => (by cases h), fun _ => by rw [Bool.not_false, cond_true]⟩
    · exact ⟨fun _ => by rw [Bool.not_true, cond_false, grd_pos (by omega)], fun h => absurd rfl h⟩
  · intro n
    simp only [m_syntagmaref13_May_l4]
    rw [decide_eq_false (by omega), cond_false]
end Go.Proofs.Ytafphfokopkhdaa
set_option linter.unusedVariables false
set_option linter.unusedSimpArgs false
set_option maxRecDepth 100000
namespace Go.Proofs.Ytafphfokopkhdaa
open Go.V
open Classical
def ColOk (z : List Int) : Prop := ∀ c ∈ z, c = 0 ∨ c = 1 ∨ c = 2
theorem whites_set {z : List Int} {i : Nat} {c d : Int} (h : z[i]? = some c) : (z.set i d).count 0 + (if c = 0 then 1 else 0) = z.count 0 + (if d = 0 then 1 else 0) := by
  have hi := (List.getElem?_eq_some_iff.1 h).1
  have h2 := (List.getElem?_eq_some_iff.1 h).2
  have hc : c = 0 → 0 < z.count 0 := fun e => List.count_pos_iff.2 (by rw [← e]; exact List.mem_of_getElem? h)
  rw [List.count_set hi, h2]
  by_cases h0 : c = 0
  · have := hc h0
    subst h0
    simp
    split <;> omega
  · rw [if_neg h0]
    have : (c == 0) = false := by simp [h0]
    rw [this]
    simp
theorem colOk_set {z : List Int} {i : Nat} {d : Int} (h : ColOk z) (hd : d = 0 ∨ d = 1 ∨ d = 2) : ColOk (z.set i d) := by
  intro c hc
  rcases List.mem_or_eq_of_mem_set hc with h2 | h2
  · exact h c h2
  · rw [h2]; exact hd
theorem endk_least {L : List ApiTNode} {i : Nat} : ∀ m, endk L m i = true → ∃ k, k < m ∧ endk L (k + 1) i = true ∧ endk L k i = false
  | 0, h => by simp [endk] at h
  | m + 1, h => by
    cases hq : endk L m i with
    | false => exact ⟨m, Nat.lt_succ_self m, h, hq⟩
    | true =>
      obtain ⟨k, h1, h2, h3⟩ := endk_least m hq
      exact ⟨k, by omega, h2, h3⟩
theorem endk_false {L : List ApiTNode} {k m i : Nat} (hkm : k ≤ m) (h : endk L m i = false) : endk L k i = false := by
  cases hq : endk L k i with
  | false => rfl
  | true => rw [endk_mono hkm hq] at h; cases h
/-- What a walk from a node does. -/
structure WalkOk (L : List ApiTNode) (i : Nat) (z : List Int) (b : Bool) (z' : List Int) : Prop where
  len : z'.length = L.length
  col : ColOk z'
  wh : z'.count 0 ≤ z.count 0
  yes : b = true → Ends L i ∧ (∀ j : Nat, z'[j]? = some 2 → Ends L j) ∧ ∀ j : Nat, z'[j]? = some 1 ↔ z[j]? = some 1
  no : b = false → ∀ m, endk L m i = true → (∀ j : Nat, z[j]? = some 1 → endk L m j = false) → False
theorem walk_ok {t : ApiType} (hR : InL t.l) (hN : ∀ n ∈ t.l, NB n) (hlen : t.l.length ≤ 2001) : ∀ (n : Nat) (i : Nat) (z : List Int), i < t.l.length → z.length = t.l.length → ColOk z → z.count 0 < n → (∀ j : Nat, z[j]? = some 2 → Ends t.l j) →
    ∃ b z', m_graph_contractive_1 t n (i : Int) z = some (b, z') ∧ WalkOk t.l i z b z'
  | 0, i, z, _, _, _, h, _ => by omega
  | n + 1, i, z, hi, hz, hc, hw, hb => by
    have hx : t.l[i]? = some t.l[i] := List.getElem?_eq_getElem hi
    have hy : z[i]? = some (z[i]'(by omega)) := List.getElem?_eq_getElem (by omega)
    have hcz := hc _ (List.mem_of_getElem? hy)
    show ∃ b z', m_graph_contractive_1F (m_graph_contractive_1 t n) (i : Int) z t = some (b, z') ∧ _
    unfold m_graph_contractive_1F
    rw [getI hx, Option.bind_some, show m_graph_lattice (t.l[i]).kind = some (latB (t.l[i]).kind) from rfl, Option.bind_some, getI hy, Option.bind_some, Option.bind_some, Option.bind_some]
    generalize hn : t.l[i] = nd at *
    generalize z[i]'(by omega) = c at *
    cases hlat : latB nd.kind with
    | false =>
      refine ⟨true, z, by rw [Bool.not_false, cond_true, Option.bind_some, cond_true], hz, hc, Nat.le_refl _, fun _ => ⟨ends_of hx fun h => (by rw [hlat] at h; cases h), hb, fun j => Iff.rfl⟩, fun h => by cases h⟩
    | true =>
      rw [Bool.not_true, cond_false, Option.bind_some]
      by_cases h2 : c = 2
      · refine ⟨true, z, by rw [decide_eq_true h2, cond_true], hz, hc, Nat.le_refl _, fun _ => ⟨hb i (by rw [hy, h2]), hb, fun j => Iff.rfl⟩, fun h => by cases h⟩
      rw [decide_eq_false h2, cond_false]
      by_cases h1 : c = 1
      · refine ⟨false, z, by rw [decide_eq_true h1, cond_true], hz, hc, Nat.le_refl _, fun h => (by cases h), fun _ m hm hg => ?_⟩
        rw [hg i (by rw [hy, h1])] at hm; cases hm
      rw [decide_eq_false h1, cond_false]
      have h0 : c = 0 := by omega
      subst h0
      have hNd : NB nd := by rw [← hn]; exact hN _ (List.getElem_mem hi)
      rw [Option.bind_some, kids_eq _ hNd, Option.bind_some, Int.toNat_natCast]
      have hk : ∀ k ∈ kidsL nd, 0 ≤ k ∧ k < (t.l.length : Int) := hR nd (List.mem_of_getElem? hx)
      have hkl := kidsL_len nd hNd
      have hwz := whites_set (d := 1) hy
      simp at hwz
      have hz1 : (z.set i 1).length = t.l.length := by simpa using hz
      have gr1 : ∀ j : Nat, (z.set i 1)[j]? = some 1 ↔ (j = i ∨ z[j]? = some 1) := by
        intro j
        rw [List.getElem?_set]
        by_cases hji : i = j
        · subst hji; simp; omega
        · rw [if_neg hji]; exact ⟨.inr, fun h => h.elim (fun e => absurd e.symm hji) id⟩
      obtain ⟨o, e1, e2⟩ := loop_rng (φ := fun m q s => m_graph_contractive_1_l1 (m_graph_contractive_1 t n) (kidsL nd) m (q, s)) (l := kidsL nd)
        (fun q s => s.length = t.l.length ∧ ColOk s ∧ s.count 0 ≤ (z.set i 1).count 0 ∧ (∀ j : Nat, s[j]? = some 2 → Ends t.l j) ∧ (∀ j : Nat, s[j]? = some 1 ↔ (z.set i 1)[j]? = some 1) ∧ ∀ (p : Nat) k, p < q → (kidsL nd)[p]? = some k → Ends t.l k.toNat)
        (fun o => (∃ s, o = Out.ret (false, s) ∧ s.length = t.l.length ∧ ColOk s ∧ s.count 0 ≤ (z.set i 1).count 0 ∧ ∀ m, endk t.l m i = true → (∀ j : Nat, z[j]? = some 1 → endk t.l m j = false) → False) ∨
          (∃ s, o = Out.go s ∧ s.length = t.l.length ∧ ColOk s ∧ s.count 0 ≤ (z.set i 1).count 0 ∧ (∀ j : Nat, s[j]? = some 2 → Ends t.l j) ∧ (∀ j : Nat, s[j]? = some 1 ↔ (z.set i 1)[j]? = some 1) ∧ ∀ k ∈ kidsL nd, Ends t.l k.toNat))
        (by
          rintro m q k s hkq hq ⟨s1, s2, s3, s4, s5, s6⟩
          obtain ⟨k0, k1⟩ := hk k (List.mem_of_getElem? hkq)
          obtain ⟨b, z', w1, w2⟩ := walk_ok hR hN hlen n k.toNat s (by omega) s1 s2 (by omega) s4
          rw [Int.toNat_of_nonneg k0] at w1
          simp only [m_graph_contractive_1_l1]
          rw [decide_eq_true (show (q : Int) < (kidsL nd).length by omega), cond_true, getI hkq, Option.bind_some, w1, Option.bind_some]
          dsimp only
          cases b with
          | true =>
            obtain ⟨y1, y2, y3⟩ := w2.yes rfl
            refine .inl ⟨z', by rw [Bool.not_true, cond_false, grd_pos (by omega)], w2.len, w2.col, Nat.le_trans w2.wh s3, y2, fun j => (y3 j).trans (s5 j), fun p k' hp hk' => ?_⟩
            by_cases hpq : p = q
            · subst hpq; rw [hkq] at hk'; cases hk'; exact y1
            · exact s6 p k' (by omega) hk'
          | false =>
            refine .inr ⟨_, by rw [Bool.not_false, cond_true], .inl ⟨z', rfl, w2.len, w2.col, Nat.le_trans w2.wh s3, fun m hm hg => ?_⟩⟩
            obtain ⟨r, r1, r2, r3⟩ := endk_least m hm
            refine w2.no rfl r ?_ fun j hj => ?_
            · unfold endk at r2
              rw [hx] at r2
              simp only [hlat, Bool.not_true, Bool.false_or, Bool.and_eq_true] at r2
              have := List.mem_of_getElem? hkq
              rw [lat_kids hlat] at this
              simp only [List.mem_cons, List.not_mem_nil, or_false] at this
              rcases this with rfl | rfl
              · exact r2.1
              · exact r2.2
            · rcases (gr1 j).1 ((s5 j).1 hj) with rfl | hj
              · exact r3
              · exact endk_false (by omega) (hg j hj))
        (by
          rintro m s ⟨s1, s2, s3, s4, s5, s6⟩
          refine ⟨Out.go s, ?_, .inr ⟨s, rfl, s1, s2, s3, s4, s5, fun k hk' => ?_⟩⟩
          · simp only [m_graph_contractive_1_l1]
            rw [decide_eq_false (by omega), cond_false]
          · obtain ⟨p, hp⟩ := List.getElem?_of_mem hk'
            exact s6 p k (getLt hp) hp)
        (by rw [FUv]; omega) (z.set i 1) ⟨hz1, colOk_set hc (by omega), Nat.le_refl _, fun j hj => (by
          rw [List.getElem?_set] at hj
          by_cases hji : i = j
          · rw [if_pos hji] at hj; split at hj <;> simp at hj
          · rw [if_neg hji] at hj; exact hb j hj), fun j => Iff.rfl, fun p k hp => by omega⟩
      rw [e1, Option.bind_some]
      rcases e2 with ⟨s, rfl, s1, s2, s3, s4⟩ | ⟨s, rfl, s1, s2, s3, s4, s5, s6⟩
      · exact ⟨false, s, rfl, s1, s2, by omega, fun h => (by cases h), fun _ => s4⟩
      · have hsi : s[i]? = some 1 := (s5 i).2 ((gr1 i).2 (.inl rfl))
        have hws := whites_set (d := 2) hsi
        simp at hws
        have hE : Ends t.l i := ends_of hx fun _ => by
          rw [lat_kids hlat] at s6
          exact ⟨s6 _ (by simp), s6 _ (by simp)⟩
        refine ⟨true, s.set i 2, by show (idx s (i : Int)).bind _ = _; rw [getI hsi, Option.bind_some], by simpa using s1, colOk_set s2 (by omega), by omega, fun _ => ⟨hE, fun j hj => ?_, fun j => ?_⟩, fun h => by cases h⟩
        · rw [List.getElem?_set] at hj
          by_cases hji : i = j
          · subst hji; exact hE
          · rw [if_neg hji] at hj; exact s4 j hj
        · rw [List.getElem?_set]
          by_cases hji : i = j
          · subst hji; rw [if_pos rfl, hy]; split <;> simp
          · rw [if_neg hji, s5 j, gr1 j]
            exact ⟨fun h => h.elim (fun e => absurd e.symm hji) id, .inr⟩
theorem contractive_eq {t : ApiType} (hR : InL t.l) (hN : ∀ n ∈ t.l, NB n) (hlen : t.l.length ≤ 2001) : m_graph_contractive t = some (decide (AllEnds t.l)) := by
  unfold m_graph_contractive
  rw [grd_pos (by omega), grd_pos (by omega), Int.toNat_natCast]
  obtain ⟨o, e1, e2⟩ := loop_rng (φ := fun m q s => m_graph_contractive_l1 t m (q, s)) (l := t.l)
    (fun q s => s.length = t.l.length ∧ ColOk s ∧ (∀ j : Nat, s[j]? = some 2 → Ends t.l j) ∧ (∀ j : Nat, ¬ s[j]? = some 1) ∧ ∀ p, p < q → Ends t.l p)
    (fun o => (o = Out.ret false ∧ ¬ AllEnds t.l) ∨ ∃ s, o = Out.go s ∧ AllEnds t.l)
    (by
      rintro m q nd s hnd hq ⟨s1, s2, s3, s4, s5⟩
      obtain ⟨b, z', w1, w2⟩ := walk_ok hR hN hlen FU q s hq s1 s2 (by have := List.count_le_length (a := (0 : Int)) (l := s); rw [FUv]; omega) s3
      simp only [m_graph_contractive_l1]
      rw [decide_eq_true (show (q : Int) < t.l.length by omega), cond_true, w1, Option.bind_some]
      dsimp only
      cases b with
      | true =>
        obtain ⟨y1, y2, y3⟩ := w2.yes rfl
        refine .inl ⟨z', by rw [Bool.not_true, cond_false, grd_pos (by omega)], w2.len, w2.col, y2, fun j hj => s4 j ((y3 j).1 hj), fun p hp => ?_⟩
        by_cases hpq : p = q
        · subst hpq; exact y1
        · exact s5 p (by omega)
      | false =>
        refine .inr ⟨_, by rw [Bool.not_false, cond_true], .inl ⟨rfl, fun hA => ?_⟩⟩
        obtain ⟨k, hk⟩ := hA q hq
        exact w2.no rfl k hk fun j hj => absurd hj (s4 j))
    (by
      rintro m s ⟨s1, s2, s3, s4, s5⟩
      refine ⟨Out.go s, ?_, .inr ⟨s, rfl, s5⟩⟩
      simp only [m_graph_contractive_l1]
      rw [decide_eq_false (by omega), cond_false])
    (by rw [FUv]; omega) (List.replicate t.l.length 0) ⟨by simp, fun c hc => (by rw [List.mem_replicate] at hc; exact .inl hc.2), fun j hj => (by rw [List.getElem?_replicate] at hj; split at hj <;> simp at hj), fun j hj => (by rw [List.getElem?_replicate] at hj; split at hj <;> simp at hj), fun p hp => by omega⟩
  rw [e1, Option.bind_some]
  rcases e2 with ⟨rfl, h⟩ | ⟨s, rfl, h⟩
  · rw [decide_eq_false h]; rfl
  · rw [decide_eq_true h]; rfl
end Go.Proofs.Ytafphfokopkhdaa
set_option linter.unusedVariables false
set_option linter.unusedSimpArgs false
set_option maxRecDepth 100000
namespace Go.Proofs.Ytafphfokopkhdaa
open Go.V
open Classical
def AllRight (L : List ApiTNode) : Prop := ∀ n ∈ L, rightB n L.length = true
theorem right_in {n : ApiTNode} {all : Int} (h : rightB n all = true) : ∀ k ∈ kidsL n, 0 ≤ k ∧ k < all := by
  intro k hk
  unfold rightB at h
  simp only [Bool.and_eq_true, Bool.not_eq_true', decide_eq_false_iff_not] at h
  have h2 := h.2.2.2.2.2
  have : inB all k = false := by
    cases hq : inB all k with
    | false => rfl
    | true => exact absurd ⟨k, hk, hq⟩ h2
  unfold inB at this
  rw [Bool.or_eq_false_iff, decide_eq_false_iff_not, decide_eq_false_iff_not] at this
  omega
theorem allRight_in {L : List ApiTNode} (h : AllRight L) : InL L := fun n hn k hk => right_in (h n hn) k hk
theorem wrong_eq (t : ApiType) (hlen : t.l.length ≤ 2001) (hN : ∀ n ∈ t.l, NB n) : m_slices_ContainsFunc_api_TNode_api_TNode t.l (fun y0 => m_graph_May_1 y0 t) = some (!decide (AllRight t.l)) := by
  unfold m_slices_ContainsFunc_api_TNode_api_TNode m_slices_IndexFunc_api_TNode_api_TNode
  rw [loop_find (φ := m_slices_IndexFunc_api_TNode_api_TNode_l1 t.l (fun y0 => m_graph_May_1 y0 t)) (l := t.l) (fun i => (i : Int)) (fun n => !rightB n t.l.length) ?_ ?_ (by rw [FUv]; omega)]
  · rw [Option.bind_some]
    cases hf : t.l.findIdx? (fun n => !rightB n t.l.length) with
    | none =>
      have : AllRight t.l := by
        intro n hn
        have := List.findIdx?_eq_none_iff.1 hf n hn
        simpa using this
      rw [decide_eq_true this]; rfl
    | some i =>
      obtain ⟨hi, h1, _⟩ := List.findIdx?_eq_some_iff_getElem.1 hf
      have : ¬ AllRight t.l := fun h => by
        rw [h _ (List.getElem_mem hi)] at h1; cases h1
      rw [decide_eq_false this]
      show some (decide (0 ≤ (i : Int))) = some true
      rw [decide_eq_true (by omega)]
  · intro n i x hx hi
    simp only [m_slices_IndexFunc_api_TNode_api_TNode_l1]
    rw [decide_eq_true (show (i : Int) < t.l.length by omega), cond_true, getI hx, Option.bind_some, show m_graph_May_1 x t = some (!rightB x t.l.length) by unfold m_graph_May_1; rw [right_eq _ _ (hN x (List.mem_of_getElem? hx)), Option.bind_some], Option.bind_some]
    exact ⟨fun hq => by rw [hq, cond_false, grd_pos (by omega)], fun hq => by rw [hq, cond_true]⟩
  · intro n
    simp only [m_slices_IndexFunc_api_TNode_api_TNode_l1]
    rw [decide_eq_false (by omega), cond_false]
theorem rwrong_eq (t : ApiType) (hlen : t.l.length ≤ 2001) (hN : ∀ n ∈ t.l, NB n) : m_syntagmaref13_May_l1 t FU 0 = some (if AllRight t.l then .go () else .ret 4) := by
  rw [loop_all (φ := m_syntagmaref13_May_l1 t) (l := t.l) 4 (fun _ n => rightB n t.l.length = true) ?_ ?_ (by rw [FUv]; omega)]
  · have e : (∀ (i : Nat) (x : ApiTNode), t.l[i]? = some x → rightB x t.l.length = true) ↔ AllRight t.l := ⟨fun h b hb => by obtain ⟨i, hi⟩ := List.getElem?_of_mem hb; exact h i b hi, fun h i x hx => h x (List.mem_of_getElem? hx)⟩
    by_cases h2 : AllRight t.l
    · rw [if_pos (e.2 h2), if_pos h2]
    · rw [if_neg (fun h3 => h2 (e.1 h3)), if_neg h2]
  · intro n i x hx hi
    simp only [m_syntagmaref13_May_l1]
    rw [decide_eq_true (show (i : Int) < t.l.length by omega), cond_true, getI hx, Option.bind_some, rright_eq _ _ (hN x (List.mem_of_getElem? hx)), Option.bind_some]
    cases rightB x t.l.length
    · exact ⟨fun h => (by cases h), fun _ => by rw [Bool.not_false, cond_true]⟩
    · exact ⟨fun _ => by rw [Bool.not_true, cond_false, grd_pos (by omega)], fun h => absurd rfl h⟩
  · intro n
    simp only [m_syntagmaref13_May_l1]
    rw [decide_eq_false (by omega), cond_false]
noncomputable def mayT (L : List ApiTNode) (root : Int) : Int := if L.length = 0 ∨ 2000 < L.length then 8 else if root < 0 ∨ (L.length : Int) ≤ root then 4 else if AllRight L ∧ AllEnds L then 0 else 4
theorem may_eq (t : ApiType) (hlen : t.l.length ≤ 2001) (hN : ∀ n ∈ t.l, NB n) : m_graph_May t = some (mayT t.l t.root) := by
  unfold m_graph_May mayT
  by_cases h0 : t.l.length = 0 ∨ 2000 < t.l.length
  · rw [if_pos h0, show (decide ((t.l.length : Int) = 0) || decide (2000 < (t.l.length : Int))) = true by rw [Bool.or_eq_true, decide_eq_true_eq, decide_eq_true_eq]; omega, cond_true]
  rw [if_neg h0, decide_eq_false (by omega), decide_eq_false (by omega), Bool.or_false, cond_false]
  by_cases hr : t.root < 0 ∨ (t.l.length : Int) ≤ t.root
  · rw [if_pos hr, show (decide (t.root < 0) || decide ((t.l.length : Int) ≤ t.root)) = true by rw [Bool.or_eq_true, decide_eq_true_eq, decide_eq_true_eq]; exact hr, cond_true]
  rw [if_neg hr, decide_eq_false (by omega), decide_eq_false (by omega), Bool.or_false, cond_false, wrong_eq t hlen hN, Option.bind_some]
  by_cases hA : AllRight t.l
  · rw [decide_eq_true hA, Bool.not_true, cond_false, contractive_eq (allRight_in hA) hN hlen, Option.bind_some]
    by_cases hE : AllEnds t.l
    · rw [decide_eq_true hE, if_pos ⟨hA, hE⟩]; rfl
    · rw [decide_eq_false hE, if_neg (fun h => hE h.2)]; rfl
  · rw [decide_eq_false hA, Bool.not_false, cond_true, if_neg (fun h => hA h.1)]; rfl
theorem rmay_eq (t : ApiType) (hlen : t.l.length ≤ 2001) (hN : ∀ n ∈ t.l, NB n) : m_syntagmaref13_May t = some (mayT t.l t.root) := by
  unfold m_syntagmaref13_May mayT
  by_cases h0 : t.l.length = 0 ∨ 2000 < t.l.length
  · rw [if_pos h0, show (decide ((t.l.length : Int) < 1) || decide (2000 < (t.l.length : Int))) = true by rw [Bool.or_eq_true, decide_eq_true_eq, decide_eq_true_eq]; omega, cond_true]
  rw [if_neg h0, decide_eq_false (by omega), decide_eq_false (by omega), Bool.or_false, cond_false]
  by_cases hr : t.root < 0 ∨ (t.l.length : Int) ≤ t.root
  · rw [if_pos hr, show (decide (t.root < 0) || decide ((t.l.length : Int) ≤ t.root)) = true by rw [Bool.or_eq_true, decide_eq_true_eq, decide_eq_true_eq]; exact hr, cond_true]
  rw [if_neg hr, decide_eq_false (by omega), decide_eq_false (by omega), Bool.or_false, cond_false, rwrong_eq t hlen hN, Option.bind_some]
  by_cases hA : AllRight t.l
  · rw [if_pos hA]
    show grd _ _ = _
    rw [grd_pos (by omega), grd_pos (by omega), Int.toNat_natCast]
    obtain ⟨l, l1, l2, l3⟩ := rounds (allRight_in hA) hlen
    rw [l1, Option.bind_some, allTrue_eq l (by omega), Option.bind_some]
    have e : (∀ b ∈ l, b = true) ↔ AllEnds t.l := by
      constructor
      · intro h i hi
        have hx : l[i]? = some (l[i]'(by omega)) := List.getElem?_eq_getElem (by omega)
        rw [h _ (List.getElem_mem (by omega))] at hx
        exact (l3 i hi).1 hx
      · intro h b hb
        obtain ⟨i, hi⟩ := List.getElem?_of_mem hb
        have hlt := getLt hi
        have := (l3 i (by omega)).2 (h i (by omega))
        rw [hi] at this; exact Option.some.inj this
    by_cases hE : AllEnds t.l
    · rw [if_pos (e.2 hE), if_pos ⟨hA, hE⟩]; rfl
    · rw [if_neg (fun h => hE (e.1 h)), if_neg (fun h => hE h.2)]; rfl
  · rw [if_neg hA, if_neg (fun h => hA h.1)]; rfl
theorem mayT_ok {L : List ApiTNode} {r : Int} (h : mayT L r = 0) : 0 < L.length ∧ L.length ≤ 2000 ∧ 0 ≤ r ∧ r < L.length ∧ AllRight L ∧ AllEnds L := by
  unfold mayT at h
  split at h
  · omega
  · split at h
    · omega
    · split at h
      · rename_i h1 h2 h3; exact ⟨by omega, by omega, by omega, by omega, h3.1, h3.2⟩
      · omega
end Go.Proofs.Ytafphfokopkhdaa
set_option linter.unusedVariables false
set_option linter.unusedSimpArgs false
set_option maxRecDepth 100000
namespace Go.Proofs.Ytafphfokopkhdaa
open Go.V
open Classical
theorem reverse_eq (s : List Int) (h : s.length ≤ 1000) : m_slices_Reverse_int_int s = some s.reverse := by
  unfold m_slices_Reverse_int_int
  rw [grd_pos (by omega)]
  obtain ⟨o, e1, e2⟩ := loop_inv (φ := m_slices_Reverse_int_int_l1) (fun st => (st.2.1 + 1 - st.1).toNat)
    (fun st => 0 ≤ st.1 ∧ -1 ≤ st.2.1 ∧ st.1 + st.2.1 = (s.length : Int) - 1 ∧ st.1 ≤ st.2.1 + 2 ∧ st.2.2.length = s.length ∧ ∀ k : Nat, k < s.length → st.2.2[k]? = if (k : Int) < st.1 ∨ st.2.1 < (k : Int) then s.reverse[k]? else s[k]?)
    (fun o => o = s.reverse)
    (by
      rintro n ⟨i, j, l⟩ ⟨h0, h1, h2, h3, h4, h5⟩
      simp only at h0 h1 h2 h3 h4 h5
      by_cases hij : i < j
      · left
        obtain ⟨a, rfl⟩ := Int.eq_ofNat_of_zero_le h0
        obtain ⟨b, rfl⟩ := Int.eq_ofNat_of_zero_le (show 0 ≤ j by omega)
        have ha : a < s.length := by omega
        have hb : b < s.length := by omega
        have la : l[a]? = some s[a] := by rw [h5 a ha, if_neg (by omega), List.getElem?_eq_getElem ha]
        have lb : l[b]? = some s[b] := by rw [h5 b hb, if_neg (by omega), List.getElem?_eq_getElem hb]
        have lb2 : (l.set a s[b])[b]? = some s[b] := by rw [List.getElem?_set_ne (by omega)]; exact lb
        refine ⟨((a : Int) + 1, (b : Int) - 1, (l.set a s[b]).set b s[a]), ⟨by simp only; omega, by simp only; omega, by simp only; omega, by simp only; omega, by simpa using h4, fun k hk => ?_⟩, by simp only; omega, ?_⟩
        · simp only
          by_cases hkb : k = b
          · subst hkb
            rw [List.getElem?_set_self (by simp; omega), if_pos (by omega), List.getElem?_reverse hk, List.getElem?_eq_getElem (by omega)]
            congr 2; omega
          · rw [List.getElem?_set_ne (by omega)]
            by_cases hka : k = a
            · subst hka
              rw [List.getElem?_set_self (by omega), if_pos (by omega), List.getElem?_reverse hk, List.getElem?_eq_getElem (by omega)]
              congr 2; omega
            · rw [List.getElem?_set_ne (by omega), h5 k hk]
              by_cases hc : (k : Int) < a ∨ (b : Int) < k
              · rw [if_pos hc, if_pos (by omega)]
              · rw [if_neg hc, if_neg (by omega)]
        · simp only [m_slices_Reverse_int_int_l1]
          rw [decide_eq_true hij, cond_true, getI lb, Option.bind_some, getI la, Option.bind_some, Option.bind_some, Option.bind_some, Int.toNat_natCast, Int.toNat_natCast, getI lb2, Option.bind_some, grd_pos (by omega), grd_pos (by omega)]
      · right
        refine ⟨l, ?_, by simp only [m_slices_Reverse_int_int_l1]; rw [decide_eq_false hij, cond_false]⟩
        refine List.ext_getElem? fun k => ?_
        by_cases hk : k < s.length
        · rw [h5 k hk]
          split
          · rfl
          · rw [List.getElem?_reverse hk]; congr 1; omega
        · rw [List.getElem?_eq_none (by omega), List.getElem?_eq_none (by simp; omega)])
    FU (0, (s.length : Int) - 1, s) ⟨by simp only; omega, by simp only; omega, by simp only; omega, by simp only; omega, rfl, fun k hk => by simp only; rw [if_neg (by omega)]⟩ (by rw [FUv]; simp only; omega)
  rw [e1, e2]
theorem push_eq (x : List Int) (hx : x.length ≤ 1000) : ∀ (n q : Nat) (l : List Int), q ≤ x.length → q < n → l.length + q ≤ 1000000000 → m_syntagmaref13_Below_l2 x n ((q : Int) - 1, l) = some (l ++ (x.take q).reverse)
  | 0, q, l, _, h, _ => by omega
  | n + 1, 0, l, _, _, _ => by
    simp only [m_syntagmaref13_Below_l2]
    rw [decide_eq_false (by omega), cond_false]; simp
  | n + 1, q + 1, l, hq, hn, hl => by
    have hxq : x[q]? = some x[q] := List.getElem?_eq_getElem (by omega)
    simp only [m_syntagmaref13_Below_l2]
    rw [decide_eq_true (by omega), cond_true, show (((q + 1 : Nat) : Int) - 1) = (q : Int) by omega, getI hxq, Option.bind_some, grd_pos (by simp only [List.length_cons, List.length_nil]; omega), grd_pos (by omega), push_eq x hx n q (l ++ [x[q]]) (by omega) (by omega) (by simp only [List.length_append, List.length_cons, List.length_nil]; omega)]
    rw [List.take_succ_eq_append_getElem (by omega), List.reverse_append]
    simp
def kat (L : List ApiTNode) (i : Int) : List Int := match L[i.toNat]? with
  | some n => kidsL n
  | none => []
/-- Through what is below: the stack's top first. -/
noncomputable def dfs (K : Int → List Int) : Nat → List Int → List Int → List Int
  | 0, _, out => out
  | _ + 1, [], out => out
  | n + 1, x :: s, out => if x ∈ out then dfs K n s out else dfs K n (K x ++ s) (out ++ [x])
theorem hasInt_eq (l : List Int) (x : Int) (h : l.length ≤ 1000000000) : m_syntagmabase_HasInt l x = some (decide (x ∈ l)) := by
  unfold m_syntagmabase_HasInt
  rw [loop_any (φ := m_syntagmabase_HasInt_l1 l x) (l := l) true (fun _ k => k = x) ?_ ?_ (by rw [FUv]; omega), Option.bind_some]
  · have e : (∃ (i : Nat) (y : Int), l[i]? = some y ∧ y = x) ↔ x ∈ l := by
      constructor
      · rintro ⟨i, y, h1, rfl⟩; exact List.mem_of_getElem? h1
      · intro h1; obtain ⟨i, hi⟩ := List.getElem?_of_mem h1; exact ⟨i, x, hi, rfl⟩
    by_cases h2 : x ∈ l
    · rw [if_pos (e.2 h2), decide_eq_true h2]; rfl
    · rw [if_neg (fun h3 => h2 (e.1 h3)), decide_eq_false h2]; rfl
  · intro n i y hy hi
    simp only [m_syntagmabase_HasInt_l1]
    rw [decide_eq_true (show (i : Int) < l.length by omega), cond_true, getI hy, Option.bind_some]
    by_cases h2 : y = x
    · rw [decide_eq_true h2]; exact ⟨fun h => absurd h2 h, fun _ => rfl⟩
    · rw [decide_eq_false h2]; exact ⟨fun _ => by rw [cond_false, grd_pos (by omega)], fun h => absurd h h2⟩
  · intro n
    simp only [m_syntagmabase_HasInt_l1]
    rw [decide_eq_false (by omega), cond_false]
theorem sum_flip (f g : Nat → Nat) (i : Nat) : ∀ l : List Nat, l.Nodup → i ∈ l → (∀ j ∈ l, j ≠ i → f j = g j) → (l.map f).sum + g i = (l.map g).sum + f i
  | [], _, h, _ => by simp at h
  | j :: l, hn, hi, he => by
    rw [List.nodup_cons] at hn
    simp only [List.map_cons, List.sum_cons]
    by_cases hji : j = i
    · subst hji
      have : l.map f = l.map g := List.map_congr_left fun k hk => he k (by simp [hk]) (fun e => hn.1 (e ▸ hk))
      rw [this]; omega
    · have := sum_flip f g i l hn.2 (by simpa [Ne.symm hji] using hi) (fun k hk => he k (by simp [hk]))
      have := he j (by simp) hji
      omega
noncomputable def wt (K : Int → List Int) (len : Nat) (out : List Int) : Nat := ((List.range len).map (fun (i : Nat) => if (i : Int) ∈ out then 0 else (K (i : Int)).length)).sum
theorem wt_add {K : Int → List Int} {len : Nat} {out : List Int} {i : Nat} (hi : i < len) (ho : ¬ (i : Int) ∈ out) : wt K len (out ++ [(i : Int)]) + (K i).length = wt K len out := by
  have := sum_flip (fun (j : Nat) => if (j : Int) ∈ out ++ [(i : Int)] then 0 else (K (j : Int)).length) (fun (j : Nat) => if (j : Int) ∈ out then 0 else (K (j : Int)).length) i (List.range len) List.nodup_range (List.mem_range.2 hi) (fun j _ hj => by
    have e : ((j : Int) ∈ out ++ [(i : Int)]) ↔ (j : Int) ∈ out := by simp; omega
    by_cases h : (j : Int) ∈ out
    · rw [if_pos h, if_pos (e.2 h)]
    · rw [if_neg h, if_neg (fun h2 => h (e.1 h2))])
  rw [if_neg ho, if_pos (by simp)] at this
  unfold wt; omega
theorem kat_in {L : List ApiTNode} (hR : InL L) : ∀ i k, k ∈ kat L i → 0 ≤ k ∧ k < (L.length : Int) := by
  intro i k hk
  unfold kat at hk
  cases hq : L[i.toNat]? with
  | none => rw [hq] at hk; simp at hk
  | some n => rw [hq] at hk; exact hR n (List.mem_of_getElem? hq) k hk
theorem kat_len {L : List ApiTNode} (hN : ∀ n ∈ L, NB n) (i : Int) : (kat L i).length ≤ 40 := by
  unfold kat
  cases hq : L[i.toNat]? with
  | none => simp
  | some n => exact kidsL_len n (hN n (List.mem_of_getElem? hq))
theorem lastI (s : List Int) (x : Int) : idx (s ++ [x]) (((s ++ [x]).length : Int) - 1) = some x := by
  rw [show (((s ++ [x]).length : Int) - 1) = (s.length : Int) by simp]
  exact getI (by simp)
theorem initI (s : List Int) (x : Int) : sli (s ++ [x]) 0 (((s ++ [x]).length : Int) - 1) = some s := by
  rw [show (((s ++ [x]).length : Int) - 1) = (s.length : Int) by simp, sli_take (by simp)]
  simp
theorem below_lock {t : ApiType} (hR : InL t.l) (hN : ∀ n ∈ t.l, NB n) (hlen : t.l.length ≤ 2001) : ∀ (n : Nat) (s out : List Int) (seen : List Bool), (∀ x ∈ s, 0 ≤ x ∧ x < (t.l.length : Int)) → seen.length = t.l.length →
    (∀ i : Nat, seen[i]? = some true ↔ ((i : Int) ∈ out ∧ i < t.l.length)) → out.length + s.length + wt (kat t.l) t.l.length out ≤ 100000000 → s.length + wt (kat t.l) t.l.length out < n →
    ∃ ys, m_below_l1 t n (s.reverse, seen) = some ys ∧ dfs (kat t.l) n s out = out ++ ys ∧ m_syntagmaref13_Below_l1 t n (s.reverse, out) = some ([], out ++ ys)
  | 0, s, out, seen, _, _, _, _, h => by omega
  | n + 1, [], out, seen, _, _, _, _, _ => by
    refine ⟨[], ?_, by simp [dfs], ?_⟩
    · simp only [m_below_l1, List.reverse_nil, List.length_nil]; rfl
    · simp only [m_syntagmaref13_Below_l1, List.reverse_nil, List.length_nil, List.append_nil]; rfl
  | n + 1, x :: s, out, seen, hs, hsl, hse, hB, hn => by
    obtain ⟨x0, x1⟩ := hs x (by simp)
    obtain ⟨i, rfl⟩ := Int.eq_ofNat_of_zero_le x0
    have hi : i < t.l.length := by omega
    have hx : t.l[i]? = some t.l[i] := List.getElem?_eq_getElem hi
    have hv : seen[i]? = some (seen[i]'(by omega)) := List.getElem?_eq_getElem (by omega)
    have hk : kat t.l (i : Int) = kidsL t.l[i] := by unfold kat; rw [Int.toNat_natCast, hx]
    have hkl := kat_len hN (i : Int)
    have hNi := hN _ (List.getElem_mem hi)
    simp only [List.length_cons] at hB hn
    rw [List.reverse_cons]
    have hl1 : (s.reverse ++ [(i : Int)]).length = s.length + 1 := by simp
    simp only [m_below_l1, m_syntagmaref13_Below_l1]
    rw [decide_eq_true (show (0 : Int) < ((s.reverse ++ [(i : Int)]).length : Int) by rw [hl1]; omega), cond_true, grd_pos (by rw [hl1]; omega), lastI, Option.bind_some, grd_pos (by rw [hl1]; omega), initI, Option.bind_some, getI hv, Option.bind_some, cond_true, grd_pos (by rw [hl1]; omega), Option.bind_some, Option.bind_some, grd_pos (by rw [hl1]; omega), Option.bind_some, hasInt_eq out _ (by omega), Option.bind_some]
    have hd : dfs (kat t.l) (n + 1) ((i : Int) :: s) out = if (i : Int) ∈ out then dfs (kat t.l) n s out else dfs (kat t.l) n (kat t.l i ++ s) (out ++ [(i : Int)]) := rfl
    rw [hd]
    by_cases ho : (i : Int) ∈ out
    · have h1 : seen[i]'(by omega) = true := by have := (hse i).2 ⟨ho, hi⟩; rw [hv] at this; exact Option.some.inj this
      rw [h1, cond_true, if_pos ho, decide_eq_true ho, cond_true]
      exact below_lock hR hN hlen n s out seen (fun x hx => hs x (by simp [hx])) hsl hse (by omega) (by omega)
    · have h1 : seen[i]'(by omega) = false := by
        cases hq : seen[i]'(by omega) with
        | false => rfl
        | true => exact absurd ((hse i).1 (by rw [hv, hq])).1 ho
      have hw := wt_add (K := kat t.l) hi ho
      obtain ⟨ys, e1, e2, e3⟩ := below_lock hR hN hlen n (kat t.l i ++ s) (out ++ [(i : Int)]) (seen.set i true) (fun y hy => by
        rcases List.mem_append.1 hy with hy | hy
        · exact kat_in hR _ _ hy
        · exact hs y (by simp [hy])) (by simpa using hsl) (fun j => by
        rw [List.getElem?_set]
        by_cases hij : i = j
        · subst hij; simp; omega
        · rw [if_neg hij, hse j]; simp; omega) (by simp only [List.length_append, List.length_cons, List.length_nil]; omega) (by simp only [List.length_append]; omega)
      rw [h1, cond_false, if_neg ho, decide_eq_false ho, cond_false, getI hx, Option.bind_some, kids_eq _ hNi, Option.bind_some, ← hk, grd_pos (by omega), reverse_eq _ (by omega), Option.bind_some, grd_pos (by simp only [List.length_reverse]; omega), Int.toNat_natCast]
      refine ⟨(i : Int) :: ys, ?_, by rw [e2]; simp, ?_⟩
      · rw [List.reverse_append] at e1
        rw [e1]; rfl
      · rw [grd_pos (by simp only [List.length_cons, List.length_nil]; omega), Option.bind_some, rkids_eq _ hNi, Option.bind_some, ← hk, grd_pos (by omega), push_eq _ (by omega) FU _ _ (Nat.le_refl _) (by rw [FUv]; omega) (by simp only [List.length_reverse]; omega), Option.bind_some, List.take_length]
        rw [List.reverse_append] at e3
        rw [e3]; simp
end Go.Proofs.Ytafphfokopkhdaa
set_option linter.unusedVariables false
set_option linter.unusedSimpArgs false
set_option maxRecDepth 100000
namespace Go.Proofs.Ytafphfokopkhdaa
open Go.V
open Classical
noncomputable def belowL (L : List ApiTNode) (root : Int) : List Int := dfs (kat L) FU [root] []
theorem sum_bound (f : Nat → Nat) (c : Nat) : ∀ l : List Nat, (∀ j ∈ l, f j ≤ c) → (l.map f).sum ≤ l.length * c
  | [], _ => by simp
  | j :: l, h => by
    have h1 := sum_bound f c l (fun k hk => h k (by simp [hk]))
    have h2 := h j (by simp)
    simp only [List.map_cons, List.sum_cons, List.length_cons, Nat.add_mul]
    omega
theorem wt_bound {L : List ApiTNode} (hN : ∀ n ∈ L, NB n) (out : List Int) : wt (kat L) L.length out ≤ L.length * 40 := by
  have := sum_bound (fun (i : Nat) => if (i : Int) ∈ out then 0 else (kat L (i : Int)).length) 40 (List.range L.length) (fun j _ => by
    split
    · omega
    · exact kat_len hN _)
  rw [List.length_range] at this
  exact this
theorem below_eqs {t : ApiType} (hR : InL t.l) (hN : ∀ n ∈ t.l, NB n) (hlen : t.l.length ≤ 2001) {root : Int} (h0 : 0 ≤ root) (h1 : root < (t.l.length : Int)) :
    m_below t root = some (belowL t.l root) ∧ m_syntagmaref13_Below t root = some (belowL t.l root) := by
  have hw := wt_bound hN []
  obtain ⟨ys, e1, e2, e3⟩ := below_lock hR hN hlen FU [root] [] (List.replicate t.l.length false) (fun x hx => by simp at hx; subst hx; exact ⟨h0, h1⟩) (by simp) (fun i => by rw [List.getElem?_replicate]; split <;> simp) (by simp only [List.length_cons, List.length_nil]; omega) (by rw [FUv]; simp only [List.length_cons, List.length_nil]; omega)
  rw [List.nil_append] at e2 e3
  constructor
  · unfold m_below
    rw [grd_pos (by omega), grd_pos (by omega), Int.toNat_natCast]
    show m_below_l1 t FU ([root].reverse, _) = _
    rw [e1, belowL, e2]
  · unfold m_syntagmaref13_Below
    show (m_syntagmaref13_Below_l1 t FU ([root].reverse, [])).bind _ = _
    rw [e3, belowL, e2]; rfl
theorem dfs_props {K : Int → List Int} {D : Int → Prop} (hK : ∀ x, D x → ∀ k ∈ K x, D k) : ∀ (n : Nat) (s out : List Int), (∀ x ∈ s, D x) → (∀ x ∈ out, D x) → out.Nodup → (∀ x ∈ dfs K n s out, D x) ∧ (dfs K n s out).Nodup
  | 0, s, out, _, ho, hn => ⟨ho, hn⟩
  | n + 1, [], out, _, ho, hn => ⟨ho, hn⟩
  | n + 1, x :: s, out, hs, ho, hn => by
    unfold dfs
    split
    · exact dfs_props hK n s out (fun y hy => hs y (by simp [hy])) ho hn
    · rename_i hx
      have hDx := hs x (by simp)
      refine dfs_props hK n _ _ (fun y hy => ?_) (fun y hy => ?_) ?_
      · rcases List.mem_append.1 hy with hy | hy
        · exact hK x hDx y hy
        · exact hs y (by simp [hy])
      · rcases List.mem_append.1 hy with hy | hy
        · exact ho y hy
        · simp at hy; subst hy; exact hDx
      · rw [List.nodup_append]
        refine ⟨hn, by simp, fun a ha b hb e => ?_⟩
        simp at hb
        subst hb e
        exact hx ha
theorem nodup_bound : ∀ (m : Nat) (l : List Int), l.Nodup → (∀ x ∈ l, 0 ≤ x ∧ x < (m : Int)) → l.length ≤ m
  | 0, l, _, h => by
    cases l with
    | nil => simp
    | cons a l => have := h a (by simp); omega
  | m + 1, l, hn, h => by
    have h1 := nodup_bound m (l.erase (m : Int)) (hn.erase _) (fun x hx => by
      have h2 := h x (List.mem_of_mem_erase hx)
      have h3 : x ≠ (m : Int) := fun e => by rw [e] at hx; exact absurd hx (by rw [hn.mem_erase_iff]; simp)
      omega)
    have := List.length_erase_le (a := (m : Int)) (l := l)
    have h4 : l.length ≤ (l.erase (m : Int)).length + 1 := by rw [List.length_erase]; split <;> omega
    omega
theorem belowL_props {L : List ApiTNode} (hR : InL L) {root : Int} (h0 : 0 ≤ root) (h1 : root < (L.length : Int)) : (∀ x ∈ belowL L root, 0 ≤ x ∧ x < (L.length : Int)) ∧ (belowL L root).Nodup ∧ (belowL L root).length ≤ L.length := by
  obtain ⟨a, b⟩ := dfs_props (K := kat L) (D := fun x => 0 ≤ x ∧ x < (L.length : Int)) (fun x _ k hk => kat_in hR x k hk) FU [root] [] (fun x hx => by simp at hx; subst hx; exact ⟨h0, h1⟩) (by simp) (by simp)
  exact ⟨a, b, nodup_bound _ _ b a⟩
end Go.Proofs.Ytafphfokopkhdaa
set_option linter.unusedVariables false
set_option linter.unusedSimpArgs false
set_option maxRecDepth 100000
namespace Go.Proofs.Ytafphfokopkhdaa
open Go.V
open Classical
noncomputable def roundN : ApiType := ⟨[⟨6, 1, 0, []⟩, ⟨3, 0, 0, []⟩], 0⟩
theorem w13n : m_graph_Norm ⟨[⟨3, 0, 0, []⟩, ⟨6, 0, 1, []⟩], 1⟩ = some (roundN, 0) := by kernel_rfl
theorem w13r : m_graph_May ⟨[⟨3, 0, 0, []⟩, ⟨6, 0, 1, []⟩], 1⟩ = some 0 := by kernel_rfl
theorem w13m : m_graph_May roundN = some 0 := by kernel_rfl
theorem w13v : ((m_below roundN roundN.root).bind fun xs1 => m_graph_Vars_r1 roundN xs1 [] : Option (List Int)) = some [] := by kernel_rfl
theorem w13g : m_graph_Ground roundN = some true := by
  unfold m_graph_Ground m_graph_Vars
  rw [w13m, Option.bind_some, Option.bind_some, w13v]
  simp [Lib.compact, Lib.compactUpTo, grd]
theorem works13 : m_syntagmalaw13_works = some true := by
  unfold m_syntagmalaw13_works
  rw [show m_syntagmalaw13_round = some ⟨[⟨3, 0, 0, []⟩, ⟨6, 0, 1, []⟩], 1⟩ from rfl, Option.bind_some, w13n, Option.bind_some]
  dsimp only
  rw [Option.bind_some, w13r, Option.bind_some]
  show (((some true).bind fun p1 => _) : Option Bool) = _
  rw [Option.bind_some, show (⟨roundN.l, roundN.root⟩ : ApiType) = roundN from rfl, w13g]
  rfl
end Go.Proofs.Ytafphfokopkhdaa
set_option linter.unusedVariables false
set_option linter.unusedSimpArgs false
set_option maxRecDepth 100000
namespace Go.Proofs.Ytafphfokopkhdaa
open Go.V
open Classical
def movedN (f : Int → Int) (n : ApiTNode) : ApiTNode := ⟨n.kind, bif pB n.kind then f n.a else n.a, bif pB n.kind then f n.b else n.b, n.l.map (fun x => ⟨x.name, f x.at_⟩)⟩
theorem moved_eq (n : ApiTNode) (p : Int → Option Int) (f : Int → Int) (h : NB n) (h1 : pB n.kind = true → p n.a = some (f n.a) ∧ p n.b = some (f n.b)) (h2 : ∀ x ∈ n.l, p x.at_ = some (f x.at_)) : m_graph_moved n p = some (movedN f n) := by
  unfold m_graph_moved movedN
  unfold NB at h
  rw [show m_graph_pair n.kind = some (pB n.kind) from rfl, Option.bind_some]
  have key : ∀ z1 z2 z3, m_graph_moved_l1 p n.l FU (0, n.l, z1, z2, z3) = some (n.l.map (fun x => ⟨x.name, f x.at_⟩), z1, z2, z3) := by
    intro z1 z2 z3
    refine loop_setmap (φ := fun k i s => m_graph_moved_l1 p n.l k (i, s, z1, z2, z3)) (l := n.l) (fun x => ⟨x.name, f x.at_⟩) (fun s => (s, z1, z2, z3)) ?_ ?_ (by rw [FUv]; omega)
    · intro k i x s hx hi hs hsx
      simp only [m_graph_moved_l1]
      rw [decide_eq_true (show (i : Int) < n.l.length by omega), cond_true, getI hsx, Option.bind_some, h2 x (List.mem_of_getElem? hx), Option.bind_some, Option.bind_some, grd_pos (by omega), Int.toNat_natCast]
    · intro k s hs
      simp only [m_graph_moved_l1]
      rw [decide_eq_false (by omega), cond_false]
  cases hp : pB n.kind with
  | true =>
    obtain ⟨ha, hb⟩ := h1 hp
    rw [cond_true, ha, Option.bind_some, hb, Option.bind_some, Option.bind_some]
    dsimp only
    rw [grd_pos (by omega), key, Option.bind_some]; rfl
  | false =>
    rw [cond_false, Option.bind_some]
    dsimp only
    rw [grd_pos (by omega), key, Option.bind_some]; rfl
theorem right_wide {n : ApiTNode} {all : Int} (h : rightB n all = true) (hw : wB n.kind = false) : n.l = [] := by
  unfold rightB at h
  simp only [Bool.and_eq_true, Bool.not_eq_true'] at h
  have h2 := h.2.2.2.1
  rw [hw, Bool.not_false, Bool.true_and, decide_eq_false_iff_not] at h2
  exact List.length_eq_zero_iff.1 (by omega)
theorem pw_no {k : Int} (h : wB k = true) : pB k = false := by
  unfold wB at h; unfold pB
  rw [Bool.or_eq_true, decide_eq_true_eq, decide_eq_true_eq] at h
  rcases h with h | h <;> rw [h] <;> rfl
theorem field_eqv (x y : ApiTField) : ApiTField.eqv x y = decide (x = y) := by
  obtain ⟨n, a⟩ := x
  obtain ⟨m, b⟩ := y
  unfold ApiTField.eqv
  by_cases h1 : n = m <;> by_cases h2 : a = b <;> simp [h1, h2]
theorem sameF_eq (x y : ApiTNode) (h : x.l.length = y.l.length) (hN : NB x) : m_syntagmaref13_SameList_l2 x y FU 0 = some (if x.l = y.l then .go () else .ret false) := by
  unfold NB at hN
  refine loop_same (φ := m_syntagmaref13_SameList_l2 x y) (l := x.l) (m := y.l) false h ?_ ?_ (by rw [FUv]; omega)
  · intro n i a b ha hb hi
    simp only [m_syntagmaref13_SameList_l2]
    rw [decide_eq_true (show (i : Int) < x.l.length by omega), cond_true, getI ha, Option.bind_some, getI hb, Option.bind_some, field_eqv]
    constructor
    · intro e; rw [decide_eq_true e, Bool.not_true, cond_false, grd_pos (by omega)]
    · intro e; rw [decide_eq_false e, Bool.not_false, cond_true]
  · intro n
    simp only [m_syntagmaref13_SameList_l2]
    rw [decide_eq_false (by omega), cond_false]
theorem node_ext {x y : ApiTNode} : x = y ↔ x.kind = y.kind ∧ x.a = y.a ∧ x.b = y.b ∧ x.l = y.l := by
  obtain ⟨a, b, c, d⟩ := x
  obtain ⟨a', b', c', d'⟩ := y
  simp
theorem sameList_eq (a b : ApiType) (hl : a.l.length ≤ 10000) (hN : ∀ n ∈ a.l, NB n) : m_syntagmaref13_SameList a b = some (decide (a.l = b.l ∧ a.root = b.root)) := by
  unfold m_syntagmaref13_SameList
  by_cases h1 : a.l.length = b.l.length ∧ a.root = b.root
  · rw [decide_eq_true (show (a.l.length : Int) = b.l.length by omega), decide_eq_true h1.2, Bool.not_true, Bool.or_false, cond_false]
    rw [loop_same (φ := m_syntagmaref13_SameList_l1 a b) (l := a.l) (m := b.l) false h1.1 ?_ ?_ (by rw [FUv]; omega), Option.bind_some]
    · by_cases h2 : a.l = b.l
      · rw [if_pos h2, decide_eq_true ⟨h2, h1.2⟩]; rfl
      · rw [if_neg h2, decide_eq_false (fun h => h2 h.1)]; rfl
    · intro n i x y hx hy hi
      simp only [m_syntagmaref13_SameList_l1]
      rw [decide_eq_true (show (i : Int) < a.l.length by omega), cond_true, getI hx, Option.bind_some, getI hy, Option.bind_some]
      by_cases h4 : x.kind = y.kind ∧ x.a = y.a ∧ x.b = y.b ∧ x.l.length = y.l.length
      · obtain ⟨e1, e2, e3, e4⟩ := h4
        rw [decide_eq_true e1, decide_eq_true e2, decide_eq_true e3, decide_eq_true (show (x.l.length : Int) = y.l.length by omega), Bool.not_true, Bool.or_false, Bool.or_false, Bool.or_false, cond_false, sameF_eq x y e4 (hN x (List.mem_of_getElem? hx)), Option.bind_some]
        constructor
        · intro e; rw [if_pos (by rw [e]), go_on, grd_pos (by omega)]
        · intro e; rw [if_neg (fun h => e (node_ext.2 ⟨e1, e2, e3, h⟩))]; rfl
      · rw [show (((!decide (x.kind = y.kind)) || (!decide (x.a = y.a))) || (!decide (x.b = y.b)) || (!decide ((x.l.length : Int) = (y.l.length : Int)))) = true by
          simp only [Bool.or_eq_true, Bool.not_eq_true', decide_eq_false_iff_not]
          refine Classical.byContradiction fun h => h4 ?_
          simp only [not_or, Classical.not_not] at h
          obtain ⟨⟨⟨h5, h6⟩, h7⟩, h8⟩ := h
          exact ⟨h5, h6, h7, by omega⟩, cond_true]
        exact ⟨fun e => absurd (by subst e; exact ⟨rfl, rfl, rfl, rfl⟩) h4, fun _ => rfl⟩
    · intro n
      simp only [m_syntagmaref13_SameList_l1]
      rw [decide_eq_false (by omega), cond_false]
  · rw [show ((!decide ((a.l.length : Int) = (b.l.length : Int))) || (!decide (a.root = b.root))) = true by
      simp only [Bool.or_eq_true, Bool.not_eq_true', decide_eq_false_iff_not]
      refine Classical.byContradiction fun h => h1 ?_
      simp only [not_or, Classical.not_not] at h
      exact ⟨by omega, h.2⟩, cond_true, decide_eq_false (fun h => h1 ⟨by rw [h.1], h.2⟩)]
theorem movedN_nb {n : ApiTNode} {f : Int → Int} (h : NB n) : NB (movedN f n) := by unfold NB movedN at *; simpa using h
end Go.Proofs.Ytafphfokopkhdaa
set_option linter.unusedVariables false
set_option linter.unusedSimpArgs false
set_option maxRecDepth 100000
namespace Go.Proofs.Ytafphfokopkhdaa
open Go.V
open Classical
def nodeAt (L : List ApiTNode) (x : Int) : ApiTNode := match L[x.toNat]? with
  | some n => n
  | none => ⟨0, 0, 0, []⟩
noncomputable def posOf (B : List Int) (k : Int) : Int := if k ∈ B then ((B.idxOf k : Nat) : Int) else 0
theorem nodeAt_get {L : List ApiTNode} {x : Int} (h0 : 0 ≤ x) (h1 : x < (L.length : Int)) : idx L x = some (nodeAt L x) ∧ nodeAt L x ∈ L := by
  have hn : L[x.toNat]? = some (L[x.toNat]'(by omega)) := List.getElem?_eq_getElem (by omega)
  unfold nodeAt idx
  rw [if_pos h0, hn]
  exact ⟨rfl, List.getElem_mem _⟩
theorem normR_eq : ∀ (xs l : List Int) (mm : List (Int × Int)), xs.Nodup → l.length + xs.length ≤ 1000000 → ∃ mm', m_graph_norm_r1 xs (l, mm) = some (l ++ xs, mm') ∧ ∀ k, mget mm' k = if k ∈ xs then some (((l.length + xs.idxOf k : Nat)) : Int) else mget mm k
  | [], l, mm, _, _ => ⟨mm, by simp [m_graph_norm_r1], fun k => by simp⟩
  | x :: xs, l, mm, hn, hl => by
    rw [List.nodup_cons] at hn
    simp only [List.length_cons] at hl
    obtain ⟨mm', e1, e2⟩ := normR_eq xs (l ++ [x]) (mset mm x (l.length : Int)) hn.2 (by simp only [List.length_append, List.length_cons, List.length_nil]; omega)
    refine ⟨mm', ?_, fun k => ?_⟩
    · unfold m_graph_norm_r1
      rw [grd_pos (by simp only [List.length_cons, List.length_nil]; omega), e1]; simp
    · rw [e2 k, mget_set]
      by_cases hk : k ∈ xs
      · have hkx : ¬ x = k := fun e => hn.1 (e ▸ hk)
        rw [if_pos hk, if_pos (by simp [hk]), List.idxOf_cons]
        have : (x == k) = false := by simp [hkx]
        rw [this]
        simp only [List.length_append, List.length_cons, List.length_nil, cond_false]
        congr 2; omega
      · rw [if_neg hk]
        by_cases hkx : k = x
        · subst hkx
          rw [if_pos rfl, if_pos (by simp), List.idxOf_cons]
          simp
        · rw [if_neg hkx, if_neg (by simp [hk, hkx])]
noncomputable def normL (L : List ApiTNode) (root : Int) : List ApiTNode := (belowL L root).map (fun x => movedN (posOf (belowL L root)) (nodeAt L x))
theorem norm_eq {t : ApiType} (hA : AllRight t.l) (hN : ∀ n ∈ t.l, NB n) (hlen : t.l.length ≤ 2001) {root : Int} (h0 : 0 ≤ root) (h1 : root < (t.l.length : Int)) : m_graph_norm t root = some ⟨normL t.l root, 0⟩ := by
  obtain ⟨b1, b2, b3⟩ := belowL_props (allRight_in hA) h0 h1
  unfold m_graph_norm
  rw [(below_eqs (allRight_in hA) hN hlen h0 h1).1, Option.bind_some]
  generalize hB : belowL t.l root = B at *
  obtain ⟨mm, e1, e2⟩ := normR_eq B [] [] b2 (by simp only [List.length_nil]; omega)
  rw [List.nil_append] at e1
  rw [e1, Option.bind_some]
  dsimp only
  have hp : ∀ k, m_graph_norm_1 k mm = some (posOf B k) := by
    intro k
    unfold m_graph_norm_1 posOf
    rw [e2 k]
    by_cases hk : k ∈ B
    · rw [if_pos hk, if_pos hk]; simp
    · rw [if_neg hk, if_neg hk]; rfl
  rw [loop_map (φ := fun n i s => m_graph_norm_l2 t B mm n (i, s, 0)) (l := B) (fun x => movedN (posOf B) (nodeAt t.l x)) (fun s => (s, 0)) 0 ?_ ?_ (by rw [FUv]; omega) [] rfl]
  · rw [Option.bind_some]
    dsimp only
    unfold normL
    rw [hB]; rfl
  · intro n i x s hx hi hs
    obtain ⟨x0, x1⟩ := b1 x (List.mem_of_getElem? hx)
    obtain ⟨ix, hm⟩ := nodeAt_get x0 x1
    simp only [m_graph_norm_l2]
    rw [decide_eq_true (show (i : Int) < B.length by omega), cond_true, getI hx, Option.bind_some, ix, Option.bind_some, moved_eq _ _ (posOf B) (hN _ hm) (fun _ => ⟨hp _, hp _⟩) (fun y _ => hp _), Option.bind_some, grd_pos (by simp only [List.length_cons, List.length_nil]; omega), grd_pos (by omega)]
  · intro n s hs
    simp only [m_graph_norm_l2]
    rw [decide_eq_false (by omega), cond_false]
end Go.Proofs.Ytafphfokopkhdaa
set_option linter.unusedVariables false
set_option linter.unusedSimpArgs false
set_option maxRecDepth 100000
namespace Go.Proofs.Ytafphfokopkhdaa
open Go.V
open Classical
theorem with_eq (n : ApiTNode) (all : Int) (f : Int → Int) (h : NB n) (hr : rightB n all = true) : m_syntagmaref13_with n ((kidsL n).map f) = some (movedN f n) := by
  have hz : (!((!pB n.kind) && ((!decide (n.b = 0)) || ((!decide (n.kind = 11)) && (!decide (n.a = 0)))))) = true := by
    unfold rightB at hr
    simp only [Bool.and_eq_true] at hr
    exact hr.2.1
  have hlen : n.l.length ≤ 40 := h
  have key : ∀ z1 z2 z3, m_syntagmaref13_with_l1 n ((kidsL n).map f) FU (0, [], z1, z2, z3) = some (n.l.map (fun x => ⟨x.name, f x.at_⟩), z1, z2, z3) := by
    intro z1 z2 z3
    rw [loop_map (φ := fun m i s => m_syntagmaref13_with_l1 n ((kidsL n).map f) m (i, s, z1, z2, z3)) (l := n.l) (fun x => (⟨x.name, f x.at_⟩ : ApiTField)) (fun s => (s, z1, z2, z3)) 0 ?_ ?_ (by rw [FUv]; omega) [] rfl]
    · rfl
    · intro m i x s hx hi hs
      have hw : wB n.kind = true := by
        cases hw : wB n.kind with
        | true => rfl
        | false => rw [right_wide hr hw] at hx; simp at hx
      have hk : kidsL n = n.l.map (·.at_) := by unfold kidsL; rw [pw_no hw, cond_false, hw, cond_true]
      have hy : ((kidsL n).map f)[i]? = some (f x.at_) := by rw [hk, List.getElem?_map, List.getElem?_map, hx]; rfl
      simp only [m_syntagmaref13_with_l1]
      rw [decide_eq_true (show (i : Int) < n.l.length by omega), cond_true, getI hx, Option.bind_some, getI hy, Option.bind_some, grd_pos (by simp only [List.length_cons, List.length_nil]; omega), grd_pos (by omega)]
    · intro m s hs
      simp only [m_syntagmaref13_with_l1]
      rw [decide_eq_false (by omega), cond_false]
  unfold m_syntagmaref13_with movedN
  change ((bif decide (n.kind = 11) then _ else _ : Option ((List ApiTField) × Int × Int × Int)).bind fun q => (bif pB n.kind then _ else _ : Option ((List ApiTField) × Int × Int × Int)).bind _) = _
  cases hp : pB n.kind with
  | true =>
    have h11 : ¬ n.kind = 11 := fun e => by rw [e] at hp; exact absurd hp (by decide)
    have hk : kidsL n = [n.a, n.b] := by unfold kidsL; rw [hp, cond_true]
    rw [decide_eq_false h11, cond_false, Option.bind_some]
    dsimp only
    rw [cond_true, show idx ((kidsL n).map f) 0 = some (f n.a) by rw [hk]; rfl, Option.bind_some, show idx ((kidsL n).map f) 1 = some (f n.b) by rw [hk]; rfl, Option.bind_some, Option.bind_some]
    dsimp only
    rw [key, Option.bind_some]; rfl
  | false =>
    rw [hp] at hz
    simp only [Bool.not_false, Bool.true_and, Bool.not_eq_true', Bool.or_eq_false_iff, Bool.and_eq_false_iff, decide_eq_true_eq, Bool.not_eq_false'] at hz
    obtain ⟨hb, ha⟩ := hz
    by_cases h11 : n.kind = 11
    · rw [decide_eq_true h11, cond_true, Option.bind_some]
      dsimp only
      rw [cond_false, Option.bind_some]
      dsimp only
      rw [key, Option.bind_some, hb]; rfl
    · have ha0 : n.a = 0 := by
        rcases ha with ha | ha
        · exact absurd ha h11
        · exact ha
      rw [decide_eq_false h11, cond_false, Option.bind_some]
      dsimp only
      rw [cond_false, Option.bind_some]
      dsimp only
      rw [key, Option.bind_some, hb, ha0]; rfl
end Go.Proofs.Ytafphfokopkhdaa
set_option linter.unusedVariables false
set_option linter.unusedSimpArgs false
set_option maxRecDepth 100000
namespace Go.Proofs.Ytafphfokopkhdaa
open Go.V
open Classical
theorem idxOf_get {B : List Int} {i : Nat} {x : Int} (hn : B.Nodup) (hx : B[i]? = some x) : B.idxOf x = i := by
  have hi := getLt hx
  have e : B[i] = x := by rw [List.getElem?_eq_getElem hi] at hx; exact Option.some.inj hx
  rw [← e]; exact List.Nodup.idxOf_getElem hn i hi
theorem places_eq (B : List Int) (len : Nat) (hn : B.Nodup) (hB : ∀ x ∈ B, 0 ≤ x ∧ x < (len : Int)) (hl : B.length ≤ 2001) :
    ∃ A, m_syntagmaref13_Norm_l1 B FU (0, List.replicate len 0) = some A ∧ A.length = len ∧ ∀ k : Nat, k < len → A[k]? = some (posOf B (k : Int)) := by
  obtain ⟨A, e1, e2, e3⟩ := loop_rng (φ := fun n i s => m_syntagmaref13_Norm_l1 B n (i, s)) (l := B)
    (fun i s => s.length = len ∧ ∀ k : Nat, k < len → s[k]? = some (if (k : Int) ∈ B.take i then ((B.idxOf (k : Int) : Nat) : Int) else 0))
    (fun A => A.length = len ∧ ∀ k : Nat, k < len → A[k]? = some (posOf B (k : Int)))
    (by
      rintro n i x s hx hi ⟨s1, s2⟩
      obtain ⟨x0, x1⟩ := hB x (List.mem_of_getElem? hx)
      obtain ⟨a, rfl⟩ := Int.eq_ofNat_of_zero_le x0
      have ha : a < len := by omega
      have hy : s[a]? = some (s[a]'(by omega)) := List.getElem?_eq_getElem (by omega)
      refine .inl ⟨s.set a (i : Int), ?_, by simpa using s1, fun k hk => ?_⟩
      · simp only [m_syntagmaref13_Norm_l1]
        rw [decide_eq_true (show (i : Int) < B.length by omega), cond_true, getI hx, Option.bind_some, getI hy, Option.bind_some, grd_pos (by omega), Int.toNat_natCast]
      · have hBi : B[i] = (a : Int) := by rw [List.getElem?_eq_getElem hi] at hx; exact Option.some.inj hx
        rw [List.take_succ_eq_append_getElem hi, hBi]
        by_cases hka : k = a
        · subst hka
          rw [List.getElem?_set_self (by omega), if_pos (by simp), idxOf_get hn hx]
        · rw [List.getElem?_set_ne (by omega), s2 k hk]
          have e : ((k : Int) ∈ B.take i ++ [(a : Int)]) ↔ (k : Int) ∈ B.take i := by simp; omega
          by_cases h : (k : Int) ∈ B.take i
          · rw [if_pos h, if_pos (e.2 h)]
          · rw [if_neg h, if_neg (fun h2 => h (e.1 h2))])
    (by
      rintro n s ⟨s1, s2⟩
      refine ⟨s, ?_, s1, fun k hk => ?_⟩
      · simp only [m_syntagmaref13_Norm_l1]
        rw [decide_eq_false (by omega), cond_false]
      · rw [s2 k hk, List.take_length]; rfl) (by rw [FUv]; omega) (List.replicate len 0) ⟨by simp, fun k hk => by simp [hk]⟩
  exact ⟨A, e1, e2, e3⟩
theorem rkidsAt_eq (A ks : List Int) (f : Int → Int) (hk : ∀ k ∈ ks, idx A k = some (f k)) (hl : ks.length ≤ 1000) : m_syntagmaref13_Norm_l3 A ks FU (0, []) = some (ks.map f) := by
  rw [loop_map (φ := fun n i s => m_syntagmaref13_Norm_l3 A ks n (i, s)) (l := ks) f id 0 ?_ ?_ (by rw [FUv]; omega) [] rfl]
  · rfl
  · intro n i x s hx hi hs
    simp only [m_syntagmaref13_Norm_l3]
    rw [decide_eq_true (show (i : Int) < ks.length by omega), cond_true, getI hx, Option.bind_some, hk x (List.mem_of_getElem? hx), Option.bind_some, grd_pos (by simp only [List.length_cons, List.length_nil]; omega), grd_pos (by omega)]
  · intro n s hs
    simp only [m_syntagmaref13_Norm_l3]
    rw [decide_eq_false (by omega), cond_false]; rfl
theorem rnorm_eq {t : ApiType} (hA : AllRight t.l) (hN : ∀ n ∈ t.l, NB n) (hlen : t.l.length ≤ 2001) {root : Int} (h0 : 0 ≤ root) (h1 : root < (t.l.length : Int)) : m_syntagmaref13_Norm t root = some ⟨normL t.l root, 0⟩ := by
  obtain ⟨b1, b2, b3⟩ := belowL_props (allRight_in hA) h0 h1
  unfold m_syntagmaref13_Norm
  rw [(below_eqs (allRight_in hA) hN hlen h0 h1).2, Option.bind_some, grd_pos (by omega), grd_pos (by omega), Int.toNat_natCast]
  generalize hB : belowL t.l root = B at *
  obtain ⟨A, a1, a2, a3⟩ := places_eq B t.l.length b2 b1 (by omega)
  rw [a1, Option.bind_some]
  have hp : ∀ k, 0 ≤ k → k < (t.l.length : Int) → idx A k = some (posOf B k) := by
    intro k k0 k1
    obtain ⟨q, rfl⟩ := Int.eq_ofNat_of_zero_le k0
    exact getI (a3 q (by omega))
  rw [loop_map (φ := fun n i s => m_syntagmaref13_Norm_l2 t B A n (i, s, 0)) (l := B) (fun x => movedN (posOf B) (nodeAt t.l x)) (fun s => (s, 0)) 0 ?_ ?_ (by rw [FUv]; omega) [] rfl]
  · rw [Option.bind_some]
    dsimp only
    unfold normL
    rw [hB]; rfl
  · intro n i x s hx hi hs
    obtain ⟨x0, x1⟩ := b1 x (List.mem_of_getElem? hx)
    obtain ⟨ix, hm⟩ := nodeAt_get x0 x1
    have hr := hA _ hm
    have hkl := kidsL_len _ (hN _ hm)
    simp only [m_syntagmaref13_Norm_l2]
    rw [decide_eq_true (show (i : Int) < B.length by omega), cond_true, getI hx, Option.bind_some, ix, Option.bind_some, rkids_eq _ (hN _ hm), Option.bind_some, rkidsAt_eq A _ (posOf B) (fun k hk => by
      obtain ⟨k0, k1⟩ := right_in hr k hk
      exact hp k k0 k1) (by omega), Option.bind_some, Option.bind_some, ix, Option.bind_some, with_eq _ _ (posOf B) (hN _ hm) hr, Option.bind_some, grd_pos (by simp only [List.length_cons, List.length_nil]; omega), grd_pos (by omega)]
  · intro n s hs
    simp only [m_syntagmaref13_Norm_l2]
    rw [decide_eq_false (by omega), cond_false]
end Go.Proofs.Ytafphfokopkhdaa
set_option linter.unusedVariables false
set_option linter.unusedSimpArgs false
set_option maxRecDepth 100000
namespace Go.Proofs.Ytafphfokopkhdaa
open Go.V
open Classical
theorem eqFields_eq (a b : List ApiTField) (h : a.length ≤ 1000) : m_slices_Equal_api_TField_api_TField a b = some (decide (a = b)) := by
  unfold m_slices_Equal_api_TField_api_TField
  rw [lenNe]
  by_cases hl : a.length = b.length
  · rw [decide_eq_true hl, Bool.not_true, cond_false, loop_same (φ := m_slices_Equal_api_TField_api_TField_l1 a b) (l := a) (m := b) false hl ?_ ?_ (by rw [FUv]; omega), Option.bind_some]
    · by_cases h2 : a = b
      · rw [if_pos h2, decide_eq_true h2]; rfl
      · rw [if_neg h2, decide_eq_false h2]; rfl
    · intro n i x y hx hy hi
      simp only [m_slices_Equal_api_TField_api_TField_l1]
      rw [decide_eq_true (show (i : Int) < a.length by omega), cond_true, getI hx, Option.bind_some, getI hy, Option.bind_some, field_eqv]
      constructor
      · intro e; rw [decide_eq_true e, Bool.not_true, cond_false, grd_pos (by omega)]
      · intro e; rw [decide_eq_false e, Bool.not_false, cond_true]
    · intro n
      simp only [m_slices_Equal_api_TField_api_TField_l1]
      rw [decide_eq_false (by omega), cond_false]
  · rw [decide_eq_false hl, Bool.not_false, cond_true, decide_eq_false (fun h => hl (by rw [h]))]
theorem sameNode_eq (x y : ApiTNode) (h : NB x) : m_graph_sameNode x y = some (decide (x = y)) := by
  unfold m_graph_sameNode
  unfold NB at h
  rw [eqFields_eq _ _ (by omega), Option.bind_some, bf, Option.bind_some]
  congr 1
  by_cases h1 : x = y
  · subst h1; simp
  · rw [decide_eq_false h1]
    refine Bool.eq_false_iff.2 fun h2 => h1 ?_
    simp only [Bool.and_eq_true, decide_eq_true_eq] at h2
    exact node_ext.2 ⟨h2.1.1.1, h2.1.1.2, h2.1.2, h2.2⟩
theorem eqNodes_eq (a b : List ApiTNode) (h : a.length ≤ 10000) (hN : ∀ n ∈ a, NB n) : m_slices_EqualFunc_api_TNode_api_TNode_api_TNode_api_TNode a b (fun y0 y1 => m_graph_sameNode y0 y1) = some (decide (a = b)) := by
  unfold m_slices_EqualFunc_api_TNode_api_TNode_api_TNode_api_TNode
  rw [lenNe]
  by_cases hl : a.length = b.length
  · rw [decide_eq_true hl, Bool.not_true, cond_false, loop_same (φ := m_slices_EqualFunc_api_TNode_api_TNode_api_TNode_api_TNode_l1 a b (fun y0 y1 => m_graph_sameNode y0 y1)) (l := a) (m := b) false hl ?_ ?_ (by rw [FUv]; omega), Option.bind_some]
    · by_cases h2 : a = b
      · rw [if_pos h2, decide_eq_true h2]; rfl
      · rw [if_neg h2, decide_eq_false h2]; rfl
    · intro n i x y hx hy hi
      simp only [m_slices_EqualFunc_api_TNode_api_TNode_api_TNode_api_TNode_l1]
      rw [decide_eq_true (show (i : Int) < a.length by omega), cond_true, getI hx, Option.bind_some, getI hy, Option.bind_some, show m_graph_sameNode (⟨x.kind, x.a, x.b, x.l⟩ : ApiTNode) (⟨y.kind, y.a, y.b, y.l⟩ : ApiTNode) = some (decide (x = y)) from sameNode_eq x y (hN x (List.mem_of_getElem? hx)), Option.bind_some]
      constructor
      · intro e; rw [decide_eq_true e, Bool.not_true, cond_false, grd_pos (by omega)]
      · intro e; rw [decide_eq_false e, Bool.not_false, cond_true]
    · intro n
      simp only [m_slices_EqualFunc_api_TNode_api_TNode_api_TNode_api_TNode_l1]
      rw [decide_eq_false (by omega), cond_false]
  · rw [decide_eq_false hl, Bool.not_false, cond_true, decide_eq_false (fun h => hl (by rw [h]))]
theorem normL_nb {L : List ApiTNode} (hR : InL L) (hN : ∀ n ∈ L, NB n) {root : Int} (h0 : 0 ≤ root) (h1 : root < (L.length : Int)) : (∀ n ∈ normL L root, NB n) ∧ (normL L root).length ≤ L.length := by
  obtain ⟨b1, b2, b3⟩ := belowL_props hR h0 h1
  unfold normL
  refine ⟨fun n hn => ?_, by rw [List.length_map]; exact b3⟩
  obtain ⟨x, hx, rfl⟩ := List.mem_map.1 hn
  obtain ⟨x0, x1⟩ := b1 x hx
  exact movedN_nb (hN _ (nodeAt_get x0 x1).2)
noncomputable def normT (t : ApiType) : ApiType × Int := if mayT t.l t.root = 0 then (⟨normL t.l t.root, 0⟩, 0) else (⟨[], 0⟩, mayT t.l t.root)
theorem Norm_eq (t : ApiType) (hlen : t.l.length ≤ 2001) (hN : ∀ n ∈ t.l, NB n) : m_graph_Norm t = some (normT t) := by
  unfold m_graph_Norm normT
  rw [may_eq t hlen hN, Option.bind_some]
  by_cases h : mayT t.l t.root = 0
  · obtain ⟨_, _, r0, r1, hA, _⟩ := mayT_ok h
    rw [decide_eq_true h, if_pos h, Bool.not_true, cond_false, norm_eq hA hN hlen r0 r1, Option.bind_some]
  · rw [decide_eq_false h, if_neg h]; rfl
noncomputable def atT (t : ApiType) (i : Int) : ApiType × Int := if mayT t.l t.root = 0 then (if i < 0 ∨ (t.l.length : Int) ≤ i then (⟨[], 0⟩, 3) else (⟨normL t.l i, 0⟩, 0)) else (⟨[], 0⟩, mayT t.l t.root)
theorem At_eq (t : ApiType) (i : Int) (hlen : t.l.length ≤ 2001) (hN : ∀ n ∈ t.l, NB n) : m_graph_At t i = some (atT t i) := by
  unfold m_graph_At atT
  rw [may_eq t hlen hN, Option.bind_some]
  by_cases h : mayT t.l t.root = 0
  · obtain ⟨_, _, r0, r1, hA, _⟩ := mayT_ok h
    rw [decide_eq_true h, if_pos h, Bool.not_true, cond_false]
    by_cases hi : i < 0 ∨ (t.l.length : Int) ≤ i
    · rw [if_pos hi, show (decide (i < 0) || decide ((t.l.length : Int) ≤ i)) = true by rw [Bool.or_eq_true, decide_eq_true_eq, decide_eq_true_eq]; exact hi, cond_true]
    · rw [if_neg hi, show (decide (i < 0) || decide ((t.l.length : Int) ≤ i)) = false by rw [Bool.or_eq_false_iff, decide_eq_false_iff_not, decide_eq_false_iff_not]; omega, cond_false, norm_eq hA hN hlen (by omega) (by omega), Option.bind_some]
  · rw [decide_eq_false h, if_neg h]; rfl
end Go.Proofs.Ytafphfokopkhdaa
set_option linter.unusedVariables false
set_option linter.unusedSimpArgs false
set_option maxRecDepth 100000
namespace Go.Proofs.Ytafphfokopkhdaa
open Go.V
open Classical
noncomputable def sameT (a b : ApiType) : Bool := decide (mayT a.l a.root = 0) && (decide (mayT b.l b.root = 0) && decide (normL a.l a.root = normL b.l b.root))
theorem Same_eq (a b : ApiType) (ha : a.l.length ≤ 2001) (hNa : ∀ n ∈ a.l, NB n) (hb : b.l.length ≤ 2001) (hNb : ∀ n ∈ b.l, NB n) : m_graph_Same a b = some (sameT a b) := by
  unfold m_graph_Same sameT
  rw [Norm_eq a ha hNa, Option.bind_some, Norm_eq b hb hNb]
  unfold normT
  by_cases h1 : mayT a.l a.root = 0
  · obtain ⟨_, _, r0, r1, hA, _⟩ := mayT_ok h1
    obtain ⟨n1, n2⟩ := normL_nb (allRight_in hA) hNa r0 r1
    rw [if_pos h1, decide_eq_true h1, Bool.true_and]
    by_cases h2 : mayT b.l b.root = 0
    · rw [if_pos h2, decide_eq_true h2, Bool.true_and]
      dsimp only
      rw [Option.bind_some]
      dsimp only
      rw [eqNodes_eq _ _ (by omega) n1]; rfl
    · rw [if_neg h2, decide_eq_false h2, Bool.false_and]
      dsimp only
      rw [Option.bind_some]
      dsimp only
      rw [decide_eq_false h2, Bool.and_false]; rfl
  · rw [if_neg h1, decide_eq_false h1, Bool.false_and]
    dsimp only
    rw [Option.bind_some]
    rw [decide_eq_false h1, Bool.false_and]; rfl
theorem rSame_eq (a b : ApiType) (ha : a.l.length ≤ 2001) (hNa : ∀ n ∈ a.l, NB n) (hb : b.l.length ≤ 2001) (hNb : ∀ n ∈ b.l, NB n) : m_syntagmaref13_Same a b = some (sameT a b) := by
  unfold m_syntagmaref13_Same sameT
  rw [rmay_eq a ha hNa, Option.bind_some]
  by_cases h1 : mayT a.l a.root = 0
  · obtain ⟨_, _, r0, r1, hA, _⟩ := mayT_ok h1
    obtain ⟨n1, n2⟩ := normL_nb (allRight_in hA) hNa r0 r1
    rw [decide_eq_true h1, cond_true, Bool.true_and, rmay_eq b hb hNb, Option.bind_some]
    by_cases h2 : mayT b.l b.root = 0
    · obtain ⟨_, _, q0, q1, hB, _⟩ := mayT_ok h2
      rw [decide_eq_true h2, cond_true, Bool.true_and, rnorm_eq hA hNa ha r0 r1, Option.bind_some, rnorm_eq hB hNb hb q0 q1, Option.bind_some, sameList_eq _ _ (by show (normL a.l a.root).length ≤ _; omega) n1, Option.bind_some]
      congr 1
      exact decide_eq_decide.2 ⟨fun h => h.1, fun h => ⟨h, rfl⟩⟩
    · rw [decide_eq_false h2, cond_false, Bool.false_and]
  · rw [decide_eq_false h1, cond_false, Bool.false_and]
end Go.Proofs.Ytafphfokopkhdaa
