/- Part 5 of the proof: a program logic, what the functions compute, and what these answer; no condition. -/
import Derived.Test.Ytafphfokopkhdaap4
import Derived.Shelf.Sort.Plain
import Derived.Ground.Names2Prog
import Derived.Shelf.Slices.CompactI
import Derived.Shelf.Slices.In.SortNone
import Derived.Test.YtafphfokopkhdaaProg
set_option linter.unusedVariables false
set_option linter.unusedSimpArgs false
set_option maxRecDepth 100000
set_option maxHeartbeats 2000000
namespace Go.Proofs.Ytafphfokopkhdaa
open Go.V
theorem w_syntagmaref24_sameEdges {a1 : (List AutoEdge)} {b1 : (List AutoEdge)} {r_1 : Bool} (hm : m_syntagmaref24_sameEdges a1 b1 = some r_1) : Fn0 Try.prog 130 [.list 2 AutoEdge.d a1, .list 2 AutoEdge.d b1] (.bool r_1) := by
  unfold m_syntagmaref24_sameEdges at hm
  refine fn_intro Try.func130 rfl Try.ntmps130 rfl fun H0 fr w0 => ?_
  refine g_seq ?_
  refine g_region ?_
  refine go_p rfl rfl rfl (o_assign rfl) ?_
  refine go_nil ?_
  refine g_seq ?_
  refine g_seq ?_
  refine g_region ?_
  refine go_p rfl rfl rfl (o_move rfl) ?_
  refine go_p rfl rfl rfl (o_len Try.runUnderlying130 rfl) ?_
  refine go_p rfl rfl rfl (o_move rfl) ?_
  refine go_p rfl rfl rfl (o_len Try.runUnderlying130 rfl) ?_
  refine go_p rfl rfl rfl (o_cmp rfl rfl rfl) ?_
  refine go_nil ?_
  refine g_cond rfl (fun hc1 => ?_) (fun hc1 => ?_)
  · replace hm := cond_t hc1 hm
    refine g_seq ?_
    refine g_region ?_
    refine go_p rfl rfl rfl (o_assign rfl) ?_
    refine go_nil ?_
    refine g_ret ?_
    exact retK (ret_one' rfl (ret_tmp rfl) (perm_drop _)) (congrArg (fun (p : Bool) => (.bool p : D)) (some_eq hm))
  · replace hm := cond_f hc1 hm
    refine g_skip ?_
    refine g_seq ?_
    refine g_seq ?_
    refine g_region ?_
    refine go_p rfl rfl rfl (o_assign rfl) ?_
    refine go_nil ?_
    obtain ⟨o_1, hj1, hm1⟩ := bind_some hm
    refine g_cut_m [] [] (fun (st : Unit) (hid : Unit) => match st, hid with | _, _ => []) (fun F (st : Unit) (hid : Unit) => match st, hid with | _, _ => []) (fun st => Out.go (st) = o_1) trivial trivial ?_ ?_
    · skip
      refine g_block ?_
      refine g_loop_m [(0, _), (1, _)] [] (fun (st : Int) (hid : Unit) => match st, hid with | i1, _ => [(5, .i64 i1)]) (fun F (st : Int) (hid : Unit) => match st, hid with | i1, _ => []) () hj1 (fun _ => rfl) ⟨rfl, rfl, trivial⟩ trivial ⟨rfl, trivial⟩ rfl ?_
      rintro n i1 _ hj1
      rw [m_syntagmaref24_sameEdges_l1] at hj1
      refine g_norm (L' := [(5, .i64 i1), (0, _), (1, _)]) (ms' := []) rfl rfl ?_
      refine g_seq ?_
      refine g_seq ?_
      refine g_region ?_
      refine go_p rfl rfl rfl (o_move rfl) ?_
      refine go_p rfl rfl rfl (o_move rfl) ?_
      refine go_p rfl rfl rfl (o_len Try.runUnderlying130 rfl) ?_
      refine go_p rfl rfl rfl (o_cmp rfl rfl rfl) ?_
      refine go_nil ?_
      refine g_cond rfl (fun hc2 => ?_) (fun hc2 => ?_)
      · replace hj1 := cond_t hc2 hj1
        refine g_skip ?_
        refine g_seq ?_
        refine g_block ?_
        refine g_seq ?_
        obtain ⟨x1, hx1, hj1⟩ := bind_some hj1
        obtain ⟨x2, hx2, hj1⟩ := bind_some hj1
        refine g_draw 9 Try_mixed (by decide +kernel) ?_
        refine gd_p rfl rfl rfl (o_move rfl) ?_
        refine gd_p rfl rfl rfl (o_move rfl) ?_
        refine gd_p rfl rfl rfl (o_indexAddr_m Try.runUnderlying130 Try.sizeOf137 rfl rfl hx1) ?_
        refine gd_p rfl rfl rfl (o_load_agg Try.isAgg137 Try.sizeOf137 rfl rfl) ?_
        refine gd_p rfl rfl rfl (o_move rfl) ?_
        refine gd_p rfl rfl rfl (o_move rfl) ?_
        refine gd_p rfl rfl rfl (o_indexAddr_m Try.runUnderlying130 Try.sizeOf137 rfl rfl hx2) ?_
        refine gd_p rfl rfl rfl (o_load_agg Try.isAgg137 Try.sizeOf137 rfl rfl) ?_
        refine gd_p rfl rfl rfl (o_neqagg (ks := [.str, .int]) Try.underlying137 (by kernel_rfl) (by kernel_rfl) (eqf_137 _ Try.underlying137) rfl rfl rfl) ?_
        refine gd_nil ?_
        refine go_nil ?_
        refine g_cond rfl (fun hc3 => ?_) (fun hc3 => ?_)
        · replace hj1 := cond_t hc3 hj1
          refine g_seq ?_
          refine g_region ?_
          refine go_p rfl rfl rfl (o_assign rfl) ?_
          refine go_nil ?_
          refine g_ret ?_
          obtain rfl := some_eq hj1
          replace hm1 := on_ret hm1
          exact retK (ret_one' rfl (ret_tmp rfl) (perm_drop _)) (congrArg (fun (p : Bool) => (.bool p : D)) (some_eq hm1))
        · replace hj1 := cond_f hc3 hj1
          refine g_skip ?_
          refine g_region ?_
          refine go_p rfl rfl rfl (o_move rfl) ?_
          obtain ⟨hg3, hj1⟩ := grd_some hj1
          refine go_p rfl rfl rfl (o_add rfl rfl (i64_id hg3)) ?_
          refine go_p rfl rfl rfl (o_assign rfl) ?_
          refine go_nil ?_
          exact ⟨_, (), hj1, ⟨rfl, trivial⟩, ⟨rfl, rfl, trivial⟩, [], rfl⟩
      · replace hj1 := cond_f hc2 hj1
        refine g_exit ?_
        exact ⟨_, (), some_eq hj1, trivial, trivial, [], rfl⟩
    · rintro _ _ hst
      subst hst
      replace hm1 := on_go hm1
      refine k_norm (L' := []) (ms' := []) rfl rfl ?_
      refine g_seq ?_
      refine g_region ?_
      refine go_p rfl rfl rfl (o_assign rfl) ?_
      refine go_nil ?_
      refine g_ret ?_
      exact retK (ret_one' rfl (ret_tmp rfl) (perm_drop _)) (congrArg (fun (p : Bool) => (.bool p : D)) (some_eq hm1))
def m_syntagmaref24_SameState (a1 : AutoState) (b1 : AutoState) : Option Bool :=
  (bif ((((((((((a1.plus == b1.plus) && (a1.all == b1.all)) && (a1.int == b1.int)) && (a1.bool == b1.bool)) && (a1.str == b1.str)) && (a1.arrow == b1.arrow)) && (a1.rec_ == b1.rec_)) && (a1.tag == b1.tag)) && (decide (a1.dom = b1.dom))) && (decide (a1.cod = b1.cod))) then ((m_syntagmabase_SameInts a1.vars b1.vars).bind fun x1 =>
  some x1) else (some false)).bind fun p1 =>
  (bif p1 then ((m_syntagmaref24_sameEdges a1.fields b1.fields).bind fun x2 =>
  some x2) else (some false)).bind fun p2 =>
  (bif p2 then ((m_syntagmaref24_sameEdges a1.tags b1.tags).bind fun x3 =>
  some x3) else (some false)).bind fun p3 =>
  some p3
theorem w_syntagmaref24_SameState {a1 : AutoState} {b1 : AutoState} {r_1 : Bool} (hm : m_syntagmaref24_SameState a1 b1 = some r_1) : Fn0 Try.prog 100 [AutoState.d a1, AutoState.d b1] (.bool r_1) := by
  unfold m_syntagmaref24_SameState at hm
  refine fn_intro Try.func100 rfl Try.ntmps100 rfl fun H0 fr w0 => ?_
  refine g_seq ?_
  refine g_region ?_
  refine go_p rfl rfl rfl (o_box rfl rfl) ?_
  refine go_p rfl rfl rfl (o_box rfl rfl) ?_
  refine go_p rfl rfl rfl (o_assign rfl) ?_
  refine go_nil ?_
  refine g_seq ?_
  refine g_region ?_
  refine go_p rfl rfl rfl (o_fieldAddr fi_132_0 rfl rfl rfl) ?_
  refine go_p rfl rfl rfl (o_load Try.isAgg4 rfl rfl) ?_
  refine go_p rfl rfl rfl (o_fieldAddr fi_132_0 rfl rfl rfl) ?_
  refine go_p rfl rfl rfl (o_load Try.isAgg4 rfl rfl) ?_
  refine go_p rfl rfl rfl (o_cmpb Try.runUnderlying4 rfl rfl) ?_
  refine go_p rfl rfl rfl (o_move rfl) ?_
  apply go_and [(2, _), (3, _)] 6 16 (t := 10) ⟨rfl, rfl, trivial⟩ rfl
  · intro hg_1 hk1
    refine go_wantp rfl rfl rfl hg_1 rfl rfl (o_fieldAddr fi_132_1 rfl rfl rfl) ?_
    refine go_wantp rfl rfl rfl hg_1 rfl rfl (o_load Try.isAgg4 rfl rfl) ?_
    refine go_wantp rfl rfl rfl hg_1 rfl rfl (o_fieldAddr fi_132_1 rfl rfl rfl) ?_
    refine go_wantp rfl rfl rfl hg_1 rfl rfl (o_load Try.isAgg4 rfl rfl) ?_
    refine go_wantp rfl rfl rfl hg_1 rfl rfl (o_cmpb Try.runUnderlying4 rfl rfl) ?_
    refine go_p rfl rfl rfl (o_pickT rfl hg_1 rfl) ?_
    exact go_meet hk1 (rfl) ⟨rfl, rfl, trivial⟩
  · intro hg_1 hk1
    refine go_skip rfl rfl rfl hg_1 rfl rfl ?_
    refine go_skip rfl rfl rfl hg_1 rfl rfl ?_
    refine go_skip rfl rfl rfl hg_1 rfl rfl ?_
    refine go_skip rfl rfl rfl hg_1 rfl rfl ?_
    refine go_skip rfl rfl rfl hg_1 rfl rfl ?_
    refine go_p rfl rfl rfl (o_pickF rfl hg_1 rfl) ?_
    exact go_meet hk1 (rfl) ⟨rfl, rfl, trivial⟩
  refine go_p rfl rfl rfl (o_move rfl) ?_
  apply go_and [(2, _), (3, _)] 6 23 (t := 17) ⟨rfl, rfl, trivial⟩ rfl
  · intro hg_2 hk2
    refine go_wantp rfl rfl rfl hg_2 rfl rfl (o_fieldAddr fi_132_2 rfl rfl rfl) ?_
    refine go_wantp rfl rfl rfl hg_2 rfl rfl (o_load Try.isAgg4 rfl rfl) ?_
    refine go_wantp rfl rfl rfl hg_2 rfl rfl (o_fieldAddr fi_132_2 rfl rfl rfl) ?_
    refine go_wantp rfl rfl rfl hg_2 rfl rfl (o_load Try.isAgg4 rfl rfl) ?_
    refine go_wantp rfl rfl rfl hg_2 rfl rfl (o_cmpb Try.runUnderlying4 rfl rfl) ?_
    refine go_p rfl rfl rfl (o_pickT rfl hg_2 rfl) ?_
    exact go_meet hk2 (rfl) ⟨rfl, rfl, trivial⟩
  · intro hg_2 hk2
    refine go_skip rfl rfl rfl hg_2 rfl rfl ?_
    refine go_skip rfl rfl rfl hg_2 rfl rfl ?_
    refine go_skip rfl rfl rfl hg_2 rfl rfl ?_
    refine go_skip rfl rfl rfl hg_2 rfl rfl ?_
    refine go_skip rfl rfl rfl hg_2 rfl rfl ?_
    refine go_p rfl rfl rfl (o_pickF rfl hg_2 rfl) ?_
    exact go_meet hk2 (rfl) ⟨rfl, rfl, trivial⟩
  refine go_p rfl rfl rfl (o_move rfl) ?_
  apply go_and [(2, _), (3, _)] 6 30 (t := 24) ⟨rfl, rfl, trivial⟩ rfl
  · intro hg_3 hk3
    refine go_wantp rfl rfl rfl hg_3 rfl rfl (o_fieldAddr fi_132_3 rfl rfl rfl) ?_
    refine go_wantp rfl rfl rfl hg_3 rfl rfl (o_load Try.isAgg4 rfl rfl) ?_
    refine go_wantp rfl rfl rfl hg_3 rfl rfl (o_fieldAddr fi_132_3 rfl rfl rfl) ?_
    refine go_wantp rfl rfl rfl hg_3 rfl rfl (o_load Try.isAgg4 rfl rfl) ?_
    refine go_wantp rfl rfl rfl hg_3 rfl rfl (o_cmpb Try.runUnderlying4 rfl rfl) ?_
    refine go_p rfl rfl rfl (o_pickT rfl hg_3 rfl) ?_
    exact go_meet hk3 (rfl) ⟨rfl, rfl, trivial⟩
  · intro hg_3 hk3
    refine go_skip rfl rfl rfl hg_3 rfl rfl ?_
    refine go_skip rfl rfl rfl hg_3 rfl rfl ?_
    refine go_skip rfl rfl rfl hg_3 rfl rfl ?_
    refine go_skip rfl rfl rfl hg_3 rfl rfl ?_
    refine go_skip rfl rfl rfl hg_3 rfl rfl ?_
    refine go_p rfl rfl rfl (o_pickF rfl hg_3 rfl) ?_
    exact go_meet hk3 (rfl) ⟨rfl, rfl, trivial⟩
  refine go_p rfl rfl rfl (o_move rfl) ?_
  apply go_and [(2, _), (3, _)] 6 37 (t := 31) ⟨rfl, rfl, trivial⟩ rfl
  · intro hg_4 hk4
    refine go_wantp rfl rfl rfl hg_4 rfl rfl (o_fieldAddr fi_132_4 rfl rfl rfl) ?_
    refine go_wantp rfl rfl rfl hg_4 rfl rfl (o_load Try.isAgg4 rfl rfl) ?_
    refine go_wantp rfl rfl rfl hg_4 rfl rfl (o_fieldAddr fi_132_4 rfl rfl rfl) ?_
    refine go_wantp rfl rfl rfl hg_4 rfl rfl (o_load Try.isAgg4 rfl rfl) ?_
    refine go_wantp rfl rfl rfl hg_4 rfl rfl (o_cmpb Try.runUnderlying4 rfl rfl) ?_
    refine go_p rfl rfl rfl (o_pickT rfl hg_4 rfl) ?_
    exact go_meet hk4 (rfl) ⟨rfl, rfl, trivial⟩
  · intro hg_4 hk4
    refine go_skip rfl rfl rfl hg_4 rfl rfl ?_
    refine go_skip rfl rfl rfl hg_4 rfl rfl ?_
    refine go_skip rfl rfl rfl hg_4 rfl rfl ?_
    refine go_skip rfl rfl rfl hg_4 rfl rfl ?_
    refine go_skip rfl rfl rfl hg_4 rfl rfl ?_
    refine go_p rfl rfl rfl (o_pickF rfl hg_4 rfl) ?_
    exact go_meet hk4 (rfl) ⟨rfl, rfl, trivial⟩
  refine go_p rfl rfl rfl (o_move rfl) ?_
  apply go_and [(2, _), (3, _)] 6 44 (t := 38) ⟨rfl, rfl, trivial⟩ rfl
  · intro hg_5 hk5
    refine go_wantp rfl rfl rfl hg_5 rfl rfl (o_fieldAddr fi_132_5 rfl rfl rfl) ?_
    refine go_wantp rfl rfl rfl hg_5 rfl rfl (o_load Try.isAgg4 rfl rfl) ?_
    refine go_wantp rfl rfl rfl hg_5 rfl rfl (o_fieldAddr fi_132_5 rfl rfl rfl) ?_
    refine go_wantp rfl rfl rfl hg_5 rfl rfl (o_load Try.isAgg4 rfl rfl) ?_
    refine go_wantp rfl rfl rfl hg_5 rfl rfl (o_cmpb Try.runUnderlying4 rfl rfl) ?_
    refine go_p rfl rfl rfl (o_pickT rfl hg_5 rfl) ?_
    exact go_meet hk5 (rfl) ⟨rfl, rfl, trivial⟩
  · intro hg_5 hk5
    refine go_skip rfl rfl rfl hg_5 rfl rfl ?_
    refine go_skip rfl rfl rfl hg_5 rfl rfl ?_
    refine go_skip rfl rfl rfl hg_5 rfl rfl ?_
    refine go_skip rfl rfl rfl hg_5 rfl rfl ?_
    refine go_skip rfl rfl rfl hg_5 rfl rfl ?_
    refine go_p rfl rfl rfl (o_pickF rfl hg_5 rfl) ?_
    exact go_meet hk5 (rfl) ⟨rfl, rfl, trivial⟩
  refine go_p rfl rfl rfl (o_move rfl) ?_
  apply go_and [(2, _), (3, _)] 6 51 (t := 45) ⟨rfl, rfl, trivial⟩ rfl
  · intro hg_6 hk6
    refine go_wantp rfl rfl rfl hg_6 rfl rfl (o_fieldAddr fi_132_6 rfl rfl rfl) ?_
    refine go_wantp rfl rfl rfl hg_6 rfl rfl (o_load Try.isAgg4 rfl rfl) ?_
    refine go_wantp rfl rfl rfl hg_6 rfl rfl (o_fieldAddr fi_132_6 rfl rfl rfl) ?_
    refine go_wantp rfl rfl rfl hg_6 rfl rfl (o_load Try.isAgg4 rfl rfl) ?_
    refine go_wantp rfl rfl rfl hg_6 rfl rfl (o_cmpb Try.runUnderlying4 rfl rfl) ?_
    refine go_p rfl rfl rfl (o_pickT rfl hg_6 rfl) ?_
    exact go_meet hk6 (rfl) ⟨rfl, rfl, trivial⟩
  · intro hg_6 hk6
    refine go_skip rfl rfl rfl hg_6 rfl rfl ?_
    refine go_skip rfl rfl rfl hg_6 rfl rfl ?_
    refine go_skip rfl rfl rfl hg_6 rfl rfl ?_
    refine go_skip rfl rfl rfl hg_6 rfl rfl ?_
    refine go_skip rfl rfl rfl hg_6 rfl rfl ?_
    refine go_p rfl rfl rfl (o_pickF rfl hg_6 rfl) ?_
    exact go_meet hk6 (rfl) ⟨rfl, rfl, trivial⟩
  refine go_p rfl rfl rfl (o_move rfl) ?_
  apply go_and [(2, _), (3, _)] 6 58 (t := 52) ⟨rfl, rfl, trivial⟩ rfl
  · intro hg_7 hk7
    refine go_wantp rfl rfl rfl hg_7 rfl rfl (o_fieldAddr fi_132_7 rfl rfl rfl) ?_
    refine go_wantp rfl rfl rfl hg_7 rfl rfl (o_load Try.isAgg4 rfl rfl) ?_
    refine go_wantp rfl rfl rfl hg_7 rfl rfl (o_fieldAddr fi_132_7 rfl rfl rfl) ?_
    refine go_wantp rfl rfl rfl hg_7 rfl rfl (o_load Try.isAgg4 rfl rfl) ?_
    refine go_wantp rfl rfl rfl hg_7 rfl rfl (o_cmpb Try.runUnderlying4 rfl rfl) ?_
    refine go_p rfl rfl rfl (o_pickT rfl hg_7 rfl) ?_
    exact go_meet hk7 (rfl) ⟨rfl, rfl, trivial⟩
  · intro hg_7 hk7
    refine go_skip rfl rfl rfl hg_7 rfl rfl ?_
    refine go_skip rfl rfl rfl hg_7 rfl rfl ?_
    refine go_skip rfl rfl rfl hg_7 rfl rfl ?_
    refine go_skip rfl rfl rfl hg_7 rfl rfl ?_
    refine go_skip rfl rfl rfl hg_7 rfl rfl ?_
    refine go_p rfl rfl rfl (o_pickF rfl hg_7 rfl) ?_
    exact go_meet hk7 (rfl) ⟨rfl, rfl, trivial⟩
  refine go_p rfl rfl rfl (o_move rfl) ?_
  apply go_and [(2, _), (3, _)] 6 65 (t := 59) ⟨rfl, rfl, trivial⟩ rfl
  · intro hg_8 hk8
    refine go_wantp rfl rfl rfl hg_8 rfl rfl (o_fieldAddr fi_132_9 rfl rfl rfl) ?_
    refine go_wantp rfl rfl rfl hg_8 rfl rfl (o_load Try.isAgg3 rfl rfl) ?_
    refine go_wantp rfl rfl rfl hg_8 rfl rfl (o_fieldAddr fi_132_9 rfl rfl rfl) ?_
    refine go_wantp rfl rfl rfl hg_8 rfl rfl (o_load Try.isAgg3 rfl rfl) ?_
    refine go_wantp rfl rfl rfl hg_8 rfl rfl (o_cmp rfl rfl rfl) ?_
    refine go_p rfl rfl rfl (o_pickT rfl hg_8 rfl) ?_
    exact go_meet hk8 (rfl) ⟨rfl, rfl, trivial⟩
  · intro hg_8 hk8
    refine go_skip rfl rfl rfl hg_8 rfl rfl ?_
    refine go_skip rfl rfl rfl hg_8 rfl rfl ?_
    refine go_skip rfl rfl rfl hg_8 rfl rfl ?_
    refine go_skip rfl rfl rfl hg_8 rfl rfl ?_
    refine go_skip rfl rfl rfl hg_8 rfl rfl ?_
    refine go_p rfl rfl rfl (o_pickF rfl hg_8 rfl) ?_
    exact go_meet hk8 (rfl) ⟨rfl, rfl, trivial⟩
  refine go_p rfl rfl rfl (o_move rfl) ?_
  apply go_and [(2, _), (3, _)] 6 72 (t := 66) ⟨rfl, rfl, trivial⟩ rfl
  · intro hg_9 hk9
    refine go_wantp rfl rfl rfl hg_9 rfl rfl (o_fieldAddr fi_132_10 rfl rfl rfl) ?_
    refine go_wantp rfl rfl rfl hg_9 rfl rfl (o_load Try.isAgg3 rfl rfl) ?_
    refine go_wantp rfl rfl rfl hg_9 rfl rfl (o_fieldAddr fi_132_10 rfl rfl rfl) ?_
    refine go_wantp rfl rfl rfl hg_9 rfl rfl (o_load Try.isAgg3 rfl rfl) ?_
    refine go_wantp rfl rfl rfl hg_9 rfl rfl (o_cmp rfl rfl rfl) ?_
    refine go_p rfl rfl rfl (o_pickT rfl hg_9 rfl) ?_
    exact go_meet hk9 (rfl) ⟨rfl, rfl, trivial⟩
  · intro hg_9 hk9
    refine go_skip rfl rfl rfl hg_9 rfl rfl ?_
    refine go_skip rfl rfl rfl hg_9 rfl rfl ?_
    refine go_skip rfl rfl rfl hg_9 rfl rfl ?_
    refine go_skip rfl rfl rfl hg_9 rfl rfl ?_
    refine go_skip rfl rfl rfl hg_9 rfl rfl ?_
    refine go_p rfl rfl rfl (o_pickF rfl hg_9 rfl) ?_
    exact go_meet hk9 (rfl) ⟨rfl, rfl, trivial⟩
  refine go_p rfl rfl rfl (o_move rfl) ?_
  obtain ⟨p1, hp_10, hm⟩ := bind_some hm
  refine go_two [(2, _), (3, _)] 6 79 p1 (t := 73) ⟨rfl, rfl, trivial⟩ rfl (fun hg_10 hk10 => ?_) (fun hg_10 hk10 => ?_) ?_
  · replace hp_10 := cond_t hg_10 hp_10
    refine go_wantp rfl rfl rfl hg_10 rfl rfl (o_fieldAddr fi_132_8 rfl rfl rfl) ?_
    refine go_wantp rfl rfl rfl hg_10 rfl rfl (o_load Try.isAgg28 rfl rfl) ?_
    refine go_wantp rfl rfl rfl hg_10 rfl rfl (o_fieldAddr fi_132_8 rfl rfl rfl) ?_
    refine go_wantp rfl rfl rfl hg_10 rfl rfl (o_load Try.isAgg28 rfl rfl) ?_
    obtain ⟨x1, hx1, hp_10⟩ := bind_some hp_10
    refine go_wantp rfl rfl rfl hg_10 rfl rfl (o_call0 Try.call18 rfl (w_syntagmabase_SameInts hx1)) ?_
    refine go_p rfl rfl rfl (o_pickT rfl hg_10 rfl) ?_
    exact go_meet hk10 (congrArg (fun b => some (D.bool b)) (some_eq hp_10)) ⟨rfl, rfl, trivial⟩
  · replace hp_10 := cond_f hg_10 hp_10
    refine go_skip rfl rfl rfl hg_10 rfl rfl ?_
    refine go_skip rfl rfl rfl hg_10 rfl rfl ?_
    refine go_skip rfl rfl rfl hg_10 rfl rfl ?_
    refine go_skip rfl rfl rfl hg_10 rfl rfl ?_
    refine go_skip rfl rfl rfl hg_10 rfl rfl ?_
    refine go_p rfl rfl rfl (o_pickF rfl hg_10 rfl) ?_
    exact go_meet hk10 (congrArg (fun b => some (D.bool b)) (some_eq hp_10)) ⟨rfl, rfl, trivial⟩
  refine go_p rfl rfl rfl (o_move rfl) ?_
  obtain ⟨p2, hp_11, hm⟩ := bind_some hm
  refine go_two [(2, _), (3, _)] 6 86 p2 (t := 80) ⟨rfl, rfl, trivial⟩ rfl (fun hg_11 hk11 => ?_) (fun hg_11 hk11 => ?_) ?_
  · replace hp_11 := cond_t hg_11 hp_11
    refine go_wantp rfl rfl rfl hg_11 rfl rfl (o_fieldAddr fi_132_11 rfl rfl rfl) ?_
    refine go_wantp rfl rfl rfl hg_11 rfl rfl (o_load Try.isAgg130 rfl rfl) ?_
    refine go_wantp rfl rfl rfl hg_11 rfl rfl (o_fieldAddr fi_132_11 rfl rfl rfl) ?_
    refine go_wantp rfl rfl rfl hg_11 rfl rfl (o_load Try.isAgg130 rfl rfl) ?_
    obtain ⟨x2, hx2, hp_11⟩ := bind_some hp_11
    refine go_wantp rfl rfl rfl hg_11 rfl rfl (o_call0 Try.call130 rfl (w_syntagmaref24_sameEdges hx2)) ?_
    refine go_p rfl rfl rfl (o_pickT rfl hg_11 rfl) ?_
    exact go_meet hk11 (congrArg (fun b => some (D.bool b)) (some_eq hp_11)) ⟨rfl, rfl, trivial⟩
  · replace hp_11 := cond_f hg_11 hp_11
    refine go_skip rfl rfl rfl hg_11 rfl rfl ?_
    refine go_skip rfl rfl rfl hg_11 rfl rfl ?_
    refine go_skip rfl rfl rfl hg_11 rfl rfl ?_
    refine go_skip rfl rfl rfl hg_11 rfl rfl ?_
    refine go_skip rfl rfl rfl hg_11 rfl rfl ?_
    refine go_p rfl rfl rfl (o_pickF rfl hg_11 rfl) ?_
    exact go_meet hk11 (congrArg (fun b => some (D.bool b)) (some_eq hp_11)) ⟨rfl, rfl, trivial⟩
  refine go_p rfl rfl rfl (o_move rfl) ?_
  obtain ⟨p3, hp_12, hm⟩ := bind_some hm
  refine go_two [] 6 93 p3 (t := 87) trivial rfl (fun hg_12 hk12 => ?_) (fun hg_12 hk12 => ?_) ?_
  · replace hp_12 := cond_t hg_12 hp_12
    refine go_wantp rfl rfl rfl hg_12 rfl rfl (o_fieldAddr fi_132_12 rfl rfl rfl) ?_
    refine go_wantp rfl rfl rfl hg_12 rfl rfl (o_load Try.isAgg130 rfl rfl) ?_
    refine go_wantp rfl rfl rfl hg_12 rfl rfl (o_fieldAddr fi_132_12 rfl rfl rfl) ?_
    refine go_wantp rfl rfl rfl hg_12 rfl rfl (o_load Try.isAgg130 rfl rfl) ?_
    obtain ⟨x3, hx3, hp_12⟩ := bind_some hp_12
    refine go_wantp rfl rfl rfl hg_12 rfl rfl (o_call0 Try.call130 rfl (w_syntagmaref24_sameEdges hx3)) ?_
    refine go_p rfl rfl rfl (o_pickT rfl hg_12 rfl) ?_
    exact go_meet hk12 (congrArg (fun b => some (D.bool b)) (some_eq hp_12)) trivial
  · replace hp_12 := cond_f hg_12 hp_12
    refine go_skip rfl rfl rfl hg_12 rfl rfl ?_
    refine go_skip rfl rfl rfl hg_12 rfl rfl ?_
    refine go_skip rfl rfl rfl hg_12 rfl rfl ?_
    refine go_skip rfl rfl rfl hg_12 rfl rfl ?_
    refine go_skip rfl rfl rfl hg_12 rfl rfl ?_
    refine go_p rfl rfl rfl (o_pickF rfl hg_12 rfl) ?_
    exact go_meet hk12 (congrArg (fun b => some (D.bool b)) (some_eq hp_12)) trivial
  refine go_p rfl rfl rfl (o_assign rfl) ?_
  refine go_nil ?_
  refine g_ret ?_
  exact retK (ret_one' rfl (ret_tmp rfl) (perm_drop _)) (congrArg (fun (p : Bool) => (.bool p : D)) (some_eq hm))
def m_syntagmaref24_SameList_l1 (a1 : AutoAuto) (b1 : AutoAuto) : Nat → Int → Option (Out Bool Unit)
  | 0, _ => none
  | n + 1, i1 =>
    bif (decide (i1 < (a1.l.length : Int))) then
      (idx a1.l i1).bind fun x1 =>
      (idx b1.l i1).bind fun x2 =>
      (m_syntagmaref24_SameState x1 x2).bind fun x3 =>
      bif (!x3) then
        some (Out.ret false)
      else
        grd (InR (i1 + 1)) <|
        m_syntagmaref24_SameList_l1 a1 b1 n (i1 + 1)
    else
      some (Out.go (()))
def m_syntagmaref24_SameList (a1 : AutoAuto) (b1 : AutoAuto) : Option Bool :=
  bif ((!decide ((a1.l.length : Int) = (b1.l.length : Int))) || (!decide (a1.start = b1.start))) then
    some false
  else
    ((m_syntagmaref24_SameList_l1 a1 b1 FU 0 : Option (Out Bool Unit))).bind (fun oo => oo.on (fun r1 => some r1) (fun _ =>
    some true))
theorem w_syntagmaref24_SameList {a1 : AutoAuto} {b1 : AutoAuto} {r_1 : Bool} (hm : m_syntagmaref24_SameList a1 b1 = some r_1) : Fn0 Try.prog 56 [AutoAuto.d a1, AutoAuto.d b1] (.bool r_1) := by
  unfold m_syntagmaref24_SameList at hm
  refine fn_intro Try.func56 rfl Try.ntmps56 rfl fun H0 fr w0 => ?_
  refine g_seq ?_
  refine g_region ?_
  refine go_p rfl rfl rfl (o_box rfl rfl) ?_
  refine go_p rfl rfl rfl (o_box rfl rfl) ?_
  refine go_p rfl rfl rfl (o_assign rfl) ?_
  refine go_nil ?_
  refine g_seq ?_
  refine g_seq ?_
  refine g_region ?_
  refine go_p rfl rfl rfl (o_fieldAddr fi_74_0 rfl rfl rfl) ?_
  refine go_p rfl rfl rfl (o_load Try.isAgg72 rfl rfl) ?_
  refine go_p rfl rfl rfl (o_len Try.runUnderlying72 rfl) ?_
  refine go_p rfl rfl rfl (o_fieldAddr fi_74_0 rfl rfl rfl) ?_
  refine go_p rfl rfl rfl (o_load Try.isAgg72 rfl rfl) ?_
  refine go_p rfl rfl rfl (o_len Try.runUnderlying72 rfl) ?_
  refine go_p rfl rfl rfl (o_cmp rfl rfl rfl) ?_
  refine go_p rfl rfl rfl (o_move rfl) ?_
  apply go_or [(2, _), (3, _)] 6 19 (t := 13) ⟨rfl, rfl, trivial⟩ rfl
  · intro hg_1 hk1
    refine go_wantp rfl rfl rfl hg_1 rfl rfl (o_fieldAddr fi_74_1 rfl rfl rfl) ?_
    refine go_wantp rfl rfl rfl hg_1 rfl rfl (o_load Try.isAgg3 rfl rfl) ?_
    refine go_wantp rfl rfl rfl hg_1 rfl rfl (o_fieldAddr fi_74_1 rfl rfl rfl) ?_
    refine go_wantp rfl rfl rfl hg_1 rfl rfl (o_load Try.isAgg3 rfl rfl) ?_
    refine go_wantp rfl rfl rfl hg_1 rfl rfl (o_cmp rfl rfl rfl) ?_
    refine go_p rfl rfl rfl (o_pickF rfl hg_1 rfl) ?_
    exact go_meet hk1 (rfl) ⟨rfl, rfl, trivial⟩
  · intro hg_1 hk1
    refine go_skip rfl rfl rfl hg_1 rfl rfl ?_
    refine go_skip rfl rfl rfl hg_1 rfl rfl ?_
    refine go_skip rfl rfl rfl hg_1 rfl rfl ?_
    refine go_skip rfl rfl rfl hg_1 rfl rfl ?_
    refine go_skip rfl rfl rfl hg_1 rfl rfl ?_
    refine go_p rfl rfl rfl (o_pickT rfl hg_1 rfl) ?_
    exact go_meet hk1 (rfl) ⟨rfl, rfl, trivial⟩
  refine go_nil ?_
  refine g_cond rfl (fun hc1 => ?_) (fun hc1 => ?_)
  · replace hm := cond_t hc1 hm
    refine g_seq ?_
    refine g_region ?_
    refine go_p rfl rfl rfl (o_assign rfl) ?_
    refine go_nil ?_
    refine g_ret ?_
    exact retK (ret_one' rfl (ret_tmp rfl) (perm_drop _)) (congrArg (fun (p : Bool) => (.bool p : D)) (some_eq hm))
  · replace hm := cond_f hc1 hm
    refine g_skip ?_
    refine g_seq ?_
    refine g_seq ?_
    refine g_region ?_
    refine go_p rfl rfl rfl (o_assign rfl) ?_
    refine go_nil ?_
    obtain ⟨o_1, hj1, hm1⟩ := bind_some hm
    refine g_cut_m [] [] (fun (st : Unit) (hid : Unit) => match st, hid with | _, _ => []) (fun F (st : Unit) (hid : Unit) => match st, hid with | _, _ => []) (fun st => Out.go (st) = o_1) trivial trivial ?_ ?_
    · skip
      refine g_block ?_
      refine g_loop_m [(2, _), (3, _)] [] (fun (st : Int) (hid : Unit) => match st, hid with | i1, _ => [(5, .i64 i1)]) (fun F (st : Int) (hid : Unit) => match st, hid with | i1, _ => []) () hj1 (fun _ => rfl) ⟨rfl, rfl, trivial⟩ trivial ⟨rfl, trivial⟩ rfl ?_
      rintro n i1 _ hj1
      rw [m_syntagmaref24_SameList_l1] at hj1
      refine g_norm (L' := [(5, .i64 i1), (2, _), (3, _)]) (ms' := []) rfl rfl ?_
      refine g_seq ?_
      refine g_seq ?_
      refine g_region ?_
      refine go_p rfl rfl rfl (o_move rfl) ?_
      refine go_p rfl rfl rfl (o_fieldAddr fi_74_0 rfl rfl rfl) ?_
      refine go_p rfl rfl rfl (o_load Try.isAgg72 rfl rfl) ?_
      refine go_p rfl rfl rfl (o_len Try.runUnderlying72 rfl) ?_
      refine go_p rfl rfl rfl (o_cmp rfl rfl rfl) ?_
      refine go_nil ?_
      refine g_cond rfl (fun hc2 => ?_) (fun hc2 => ?_)
      · replace hj1 := cond_t hc2 hj1
        refine g_skip ?_
        refine g_seq ?_
        refine g_block ?_
        refine g_seq ?_
        obtain ⟨x1, hx1, hj1⟩ := bind_some hj1
        obtain ⟨x2, hx2, hj1⟩ := bind_some hj1
        obtain ⟨x3, hx3, hj1⟩ := bind_some hj1
        refine g_draw 12 Try_mixed (by decide +kernel) ?_
        refine gd_p rfl rfl rfl (o_fieldAddr fi_74_0 rfl rfl rfl) ?_
        refine gd_p rfl rfl rfl (o_load Try.isAgg72 rfl rfl) ?_
        refine gd_p rfl rfl rfl (o_move rfl) ?_
        refine gd_p rfl rfl rfl (o_indexAddr_m Try.runUnderlying72 Try.sizeOf132 rfl rfl hx1) ?_
        refine gd_p rfl rfl rfl (o_load_agg Try.isAgg132 Try.sizeOf132 rfl rfl) ?_
        refine gd_p rfl rfl rfl (o_fieldAddr fi_74_0 rfl rfl rfl) ?_
        refine gd_p rfl rfl rfl (o_load Try.isAgg72 rfl rfl) ?_
        refine gd_p rfl rfl rfl (o_move rfl) ?_
        refine gd_p rfl rfl rfl (o_indexAddr_m Try.runUnderlying72 Try.sizeOf132 rfl rfl hx2) ?_
        refine gd_p rfl rfl rfl (o_load_agg Try.isAgg132 Try.sizeOf132 rfl rfl) ?_
        refine gd_p rfl rfl rfl (o_call0 Try.call100 rfl (w_syntagmaref24_SameState hx3)) ?_
        refine gd_p rfl rfl rfl (o_not rfl) ?_
        refine gd_nil ?_
        refine go_nil ?_
        refine g_cond rfl (fun hc3 => ?_) (fun hc3 => ?_)
        · replace hj1 := cond_t hc3 hj1
          refine g_seq ?_
          refine g_region ?_
          refine go_p rfl rfl rfl (o_assign rfl) ?_
          refine go_nil ?_
          refine g_ret ?_
          obtain rfl := some_eq hj1
          replace hm1 := on_ret hm1
          exact retK (ret_one' rfl (ret_tmp rfl) (perm_drop _)) (congrArg (fun (p : Bool) => (.bool p : D)) (some_eq hm1))
        · replace hj1 := cond_f hc3 hj1
          refine g_skip ?_
          refine g_region ?_
          refine go_p rfl rfl rfl (o_move rfl) ?_
          obtain ⟨hg4, hj1⟩ := grd_some hj1
          refine go_p rfl rfl rfl (o_add rfl rfl (i64_id hg4)) ?_
          refine go_p rfl rfl rfl (o_assign rfl) ?_
          refine go_nil ?_
          exact ⟨_, (), hj1, ⟨rfl, trivial⟩, ⟨rfl, rfl, trivial⟩, [], rfl⟩
      · replace hj1 := cond_f hc2 hj1
        refine g_exit ?_
        exact ⟨_, (), some_eq hj1, trivial, trivial, [], rfl⟩
    · rintro _ _ hst
      subst hst
      replace hm1 := on_go hm1
      refine k_norm (L' := []) (ms' := []) rfl rfl ?_
      refine g_seq ?_
      refine g_region ?_
      refine go_p rfl rfl rfl (o_assign rfl) ?_
      refine go_nil ?_
      refine g_ret ?_
      exact retK (ret_one' rfl (ret_tmp rfl) (perm_drop _)) (congrArg (fun (p : Bool) => (.bool p : D)) (some_eq hm1))
def m_syntagmaref28_With_l3 (from1 : (List Int)) (to1 : (List Int)) (x1 : AutoState) (k1 : Int) : Nat → (Int × (List Int)) → Option (List Int)
  | 0, _ => none
  | n + 1, (j1, l6) =>
    bif (decide (j1 < (from1.length : Int))) then
      (idx from1 j1).bind fun x2 =>
      (idx x1.vars k1).bind fun x3 =>
      bif (decide (x2 = x3)) then ((idx to1 j1).bind fun x4 =>
      bif (decide (0 ≤ x4)) then
        (idx to1 j1).bind fun x5 =>
        grd ((l6.length + ([x5] : List _).length) * 8 ≤ 140737488355328) <|
        grd (InR (j1 + 1)) <|
        m_syntagmaref28_With_l3 from1 to1 x1 k1 n ((j1 + 1), (l6 ++ [x5]))
      else
        grd (InR (j1 + 1)) <|
        m_syntagmaref28_With_l3 from1 to1 x1 k1 n ((j1 + 1), l6)) else (grd (InR (j1 + 1)) <|
      m_syntagmaref28_With_l3 from1 to1 x1 k1 n ((j1 + 1), l6))
    else
      some l6
def m_syntagmaref28_With_l2 (from1 : (List Int)) (to1 : (List Int)) (x1 : AutoState) : Nat → (Int × (List Int)) → Option (List Int)
  | 0, _ => none
  | n + 1, (k1, l4) =>
    bif (decide (k1 < (x1.vars.length : Int))) then
      (m_syntagmaref28_With_l3 from1 to1 x1 k1 FU (0, l4) : Option (List Int)).bind fun l5 =>
      grd (InR (k1 + 1)) <|
      m_syntagmaref28_With_l2 from1 to1 x1 n ((k1 + 1), l5)
    else
      some l4
def m_syntagmaref28_With_l1 (a1 : AutoAuto) (from1 : (List Int)) (to1 : (List Int)) : Nat → (Int × (List AutoState) × Int) → Option ((List AutoState) × Int)
  | 0, _ => none
  | n + 1, (i1, l2, z2) =>
    bif (decide (i1 < (a1.l.length : Int))) then
      (idx a1.l i1).bind fun x1 =>
      (m_syntagmaref28_With_l2 from1 to1 x1 FU (0, []) : Option (List Int)).bind fun l3 =>
      (m_syntagmaref15_Set l3).bind fun x6 =>
      grd ((l2.length + ([(⟨x1.plus, x1.all, x1.int, x1.bool, x1.str, x1.arrow, x1.rec_, x1.tag, x6, x1.dom, x1.cod, x1.fields, x1.tags⟩ : AutoState)] : List _).length) * 96 ≤ 140737488355328) <|
      grd (InR (i1 + 1)) <|
      m_syntagmaref28_With_l1 a1 from1 to1 n ((i1 + 1), (l2 ++ [(⟨x1.plus, x1.all, x1.int, x1.bool, x1.str, x1.arrow, x1.rec_, x1.tag, x6, x1.dom, x1.cod, x1.fields, x1.tags⟩ : AutoState)]), z2)
    else
      some (l2, z2)
def m_syntagmaref28_With (a1 : AutoAuto) (from1 : (List Int)) (to1 : (List Int)) : Option AutoAuto :=
  (m_syntagmaref28_With_l1 a1 from1 to1 FU (0, ([] : List AutoState), a1.start) : Option ((List AutoState) × Int)).bind fun (l1, z1) =>
  some (⟨l1, z1⟩ : AutoAuto)
theorem w_syntagmaref28_With {a1 : AutoAuto} {from1 : (List Int)} {to1 : (List Int)} {r_1 : AutoAuto} (hm : m_syntagmaref28_With a1 from1 to1 = some r_1) : Fn0 Try.prog 101 [AutoAuto.d a1, .list 1 D.i64 from1, .list 1 D.i64 to1] (AutoAuto.d r_1) := by
  unfold m_syntagmaref28_With at hm
  refine fn_intro Try.func101 rfl Try.ntmps101 rfl fun H0 fr w0 => ?_
  refine g_seq ?_
  refine g_region ?_
  refine go_p rfl rfl rfl (o_box rfl rfl) ?_
  refine go_op rfl rfl rfl (o_alloc_own Try.zeroValue74 (cs := [.list 13 AutoState.d [], .i64 0]) rfl) ?_
  rintro _ _ ⟨b1, rfl, rfl⟩
  refine go_nil ?_
  refine g_seq ?_
  refine g_region ?_
  refine go_p rfl rfl rfl (o_fieldAddr fi_74_1 rfl rfl rfl) ?_
  refine go_p rfl rfl rfl (o_load Try.isAgg3 rfl rfl) ?_
  refine go_p rfl rfl rfl (o_build (zs := [.v (.slice none 0 0), .v (.int .i64 0)]) Try.runUnderlying74 Try.zeroValue74 (pl_74 _ Try.runUnderlying74) rfl rfl rfl rfl) ?_
  refine go_op rfl rfl rfl (o_alloc_own Try.zeroValue74 (cs := [.list 13 AutoState.d [], .i64 0]) rfl) ?_
  rintro _ _ ⟨b2, rfl, rfl⟩
  refine go_u rfl rfl (o_store_box 0 Try.sizeOf74 rfl rfl rfl rfl rfl rfl rfl rfl (Nat.le_of_ble_eq_true rfl)) ?_
  rintro _ _ rfl
  refine go_conv (refines_newrow (T := 132) (sz := 13) (f := AutoState.d)) ?_
  refine go_ms (ms' := [_, box b2 74 [_, _], box b1 74 [_, _]]) rfl ?_
  refine go_nil ?_
  refine g_seq ?_
  refine g_seq ?_
  refine g_region ?_
  refine go_p rfl rfl rfl (o_assign rfl) ?_
  refine go_nil ?_
  obtain ⟨o_1, hj1, hm1⟩ := bind_some hm
  refine g_cut_m [(6, _), (7, _)] [(2, _)] (fun (st : ((List AutoState) × Int)) (hid : (Option Addr × Nat)) => match st, hid with | (l1, z1), (a_r1, cap_r1) => []) (fun F (st : ((List AutoState) × Int)) (hid : (Option Addr × Nat)) => match st, hid with | (l1, z1), (a_r1, cap_r1) => [row a_r1 cap_r1 132 13 AutoState.d l1, box b2 74 [.v (.slice a_r1 l1.length cap_r1), .i64 z1], (nthF F 0)]) (fun st => st = o_1) ⟨rfl, rfl, trivial⟩ ⟨rfl, trivial⟩ ?_ ?_
  · skip
    refine g_block ?_
    refine g_loop_m [(1, _), (2, _), (3, _), (6, _), (7, _)] [(2, _)] (fun (st : (Int × (List AutoState) × Int)) (hid : (Option Addr × Nat)) => match st, hid with | (i1, l2, z2), (a_r1, cap_r1) => [(8, .i64 i1)]) (fun F (st : (Int × (List AutoState) × Int)) (hid : (Option Addr × Nat)) => match st, hid with | (i1, l2, z2), (a_r1, cap_r1) => [row a_r1 cap_r1 132 13 AutoState.d l2, box b2 74 [.v (.slice a_r1 l2.length cap_r1), .i64 z2], (nthF F 0)]) (_, _) hj1 (fun _ => rfl) ⟨rfl, rfl, rfl, rfl, rfl, trivial⟩ ⟨rfl, trivial⟩ ⟨rfl, trivial⟩ rfl ?_
    rintro n ⟨i1, l2, z2⟩ ⟨a_r1, cap_r1⟩ hj1
    rw [m_syntagmaref28_With_l1] at hj1
    refine g_norm (L' := [(8, .i64 i1), (1, _), (2, _), (3, _), (6, _), (7, _)]) (ms' := [row a_r1 cap_r1 132 13 AutoState.d l2, box b2 74 [.v (.slice a_r1 l2.length cap_r1), .i64 z2], _]) rfl rfl ?_
    refine g_seq ?_
    refine g_seq ?_
    refine g_region ?_
    refine go_p rfl rfl rfl (o_move rfl) ?_
    refine go_p rfl rfl rfl (o_fieldAddr fi_74_0 rfl rfl rfl) ?_
    refine go_p rfl rfl rfl (o_load Try.isAgg72 rfl rfl) ?_
    refine go_p rfl rfl rfl (o_len Try.runUnderlying72 rfl) ?_
    refine go_p rfl rfl rfl (o_cmp rfl rfl rfl) ?_
    refine go_nil ?_
    refine g_cond rfl (fun hc1 => ?_) (fun hc1 => ?_)
    · replace hj1 := cond_t hc1 hj1
      refine g_skip ?_
      refine g_seq ?_
      refine g_block ?_
      refine g_seq ?_
      refine g_region ?_
      refine go_p rfl rfl rfl (o_fieldAddr fi_74_0 rfl rfl rfl) ?_
      refine go_p rfl rfl rfl (o_load Try.isAgg72 rfl rfl) ?_
      refine go_p rfl rfl rfl (o_move rfl) ?_
      obtain ⟨x1, hx1, hj1⟩ := bind_some hj1
      refine go_p rfl rfl rfl (o_indexAddr_m Try.runUnderlying72 Try.sizeOf132 rfl rfl hx1) ?_
      refine go_p rfl rfl rfl (o_load_agg Try.isAgg132 Try.sizeOf132 rfl rfl) ?_
      refine go_op rfl rfl rfl (o_buildSlice_row (xs := []) (f := D.i64) (l := []) Try.runUnderlying28 Try.sizeOf3 Try.zeroValue3 rfl rfl rfl (fun _ => ⟨rfl, rfl, rfl⟩) rfl (by simp [maxLen])) ?_
      rintro _ _ ⟨a_r2, rfl, rfl⟩
      refine go_op rfl rfl rfl (o_alloc_own Try.zeroValue132 (cs := [.bool false, .bool false, .bool false, .bool false, .bool false, .bool false, .bool false, .bool false, .list 1 D.i64 [], .i64 0, .i64 0, .list 2 AutoEdge.d [], .list 2 AutoEdge.d []]) rfl) ?_
      rintro _ _ ⟨b3, rfl, rfl⟩
      refine go_u rfl rfl (o_store_box 0 Try.sizeOf132 rfl rfl rfl rfl rfl rfl rfl rfl (Nat.le_of_ble_eq_true rfl)) ?_
      rintro _ _ rfl
      refine go_ms (ms' := [box b3 132 [_, _, _, _, _, _, _, _, _, _, _, _, _], _, _, box b2 74 [_, _], box b1 74 [_, _]]) rfl ?_
      refine go_p rfl rfl rfl (o_assign rfl) ?_
      refine go_nil ?_
      refine g_seq ?_
      refine g_seq ?_
      refine g_region ?_
      refine go_p rfl rfl rfl (o_assign rfl) ?_
      refine go_nil ?_
      obtain ⟨o_2, hj2, hm2⟩ := bind_some hj1
      refine g_cut_m [(1, _), (2, _), (3, _), (6, _), (7, _), (8, _), (9, _)] [(0, _), (2, _), (3, _), (4, _)] (fun (st : (List Int)) (hid : (Option Addr × Nat)) => match st, hid with | l3, (a_r2, cap_r2) => [(10, .v (.slice a_r2 l3.length cap_r2))]) (fun F (st : (List Int)) (hid : (Option Addr × Nat)) => match st, hid with | l3, (a_r2, cap_r2) => [(nthF F 0), row a_r2 cap_r2 3 1 D.i64 l3, (nthF F 1), (nthF F 2), (nthF F 3)]) (fun st => st = o_2) ⟨rfl, rfl, rfl, rfl, rfl, rfl, rfl, trivial⟩ ⟨rfl, rfl, rfl, rfl, trivial⟩ ?_ ?_
      · skip
        refine g_block ?_
        refine g_loop_m [(1, _), (2, _), (3, _), (6, _), (7, _), (8, _), (9, _)] [(0, _), (2, _), (3, _), (4, _)] (fun (st : (Int × (List Int))) (hid : (Option Addr × Nat)) => match st, hid with | (k1, l4), (a_r2, cap_r2) => [(10, .v (.slice a_r2 l4.length cap_r2)), (11, .i64 k1)]) (fun F (st : (Int × (List Int))) (hid : (Option Addr × Nat)) => match st, hid with | (k1, l4), (a_r2, cap_r2) => [(nthF F 0), row a_r2 cap_r2 3 1 D.i64 l4, (nthF F 1), (nthF F 2), (nthF F 3)]) (_, _) hj2 (fun _ => rfl) ⟨rfl, rfl, rfl, rfl, rfl, rfl, rfl, trivial⟩ ⟨rfl, rfl, rfl, rfl, trivial⟩ ⟨rfl, rfl, trivial⟩ rfl ?_
        rintro n ⟨k1, l4⟩ ⟨a_r2, cap_r2⟩ hj2
        rw [m_syntagmaref28_With_l2] at hj2
        refine g_norm (L' := [(10, .v (.slice a_r2 l4.length cap_r2)), (11, .i64 k1), (1, _), (2, _), (3, _), (6, _), (7, _), (8, _), (9, _)]) (ms' := [_, row a_r2 cap_r2 3 1 D.i64 l4, _, _, _]) rfl rfl ?_
        refine g_seq ?_
        refine g_seq ?_
        refine g_region ?_
        refine go_p rfl rfl rfl (o_move rfl) ?_
        refine go_p rfl rfl rfl (o_fieldAddr_box fi_132_8 rfl) ?_
        refine go_p rfl rfl rfl (o_load_box 0 Try.isAgg28 rfl rfl rfl rfl) ?_
        refine go_p rfl rfl rfl (o_len Try.runUnderlying28 rfl) ?_
        refine go_p rfl rfl rfl (o_cmp rfl rfl rfl) ?_
        refine go_nil ?_
        refine g_cond rfl (fun hc2 => ?_) (fun hc2 => ?_)
        · replace hj2 := cond_t hc2 hj2
          refine g_skip ?_
          refine g_seq ?_
          refine g_block ?_
          refine g_seq ?_
          refine g_region ?_
          refine go_p rfl rfl rfl (o_assign rfl) ?_
          refine go_nil ?_
          obtain ⟨o_3, hj3, hm3⟩ := bind_some hj2
          refine g_cut_m [(1, _), (2, _), (3, _), (6, _), (7, _), (8, _), (9, _), (11, _)] [(0, _), (2, _), (3, _), (4, _)] (fun (st : (List Int)) (hid : (Option Addr × Nat)) => match st, hid with | l5, (a_r2, cap_r2) => [(10, .v (.slice a_r2 l5.length cap_r2))]) (fun F (st : (List Int)) (hid : (Option Addr × Nat)) => match st, hid with | l5, (a_r2, cap_r2) => [(nthF F 0), row a_r2 cap_r2 3 1 D.i64 l5, (nthF F 1), (nthF F 2), (nthF F 3)]) (fun st => st = o_3) ⟨rfl, rfl, rfl, rfl, rfl, rfl, rfl, rfl, trivial⟩ ⟨rfl, rfl, rfl, rfl, trivial⟩ ?_ ?_
          · skip
            refine g_block ?_
            refine g_loop_m [(1, _), (2, _), (3, _), (6, _), (7, _), (8, _), (9, _), (11, _)] [(0, _), (2, _), (3, _), (4, _)] (fun (st : (Int × (List Int))) (hid : (Option Addr × Nat)) => match st, hid with | (j1, l6), (a_r2, cap_r2) => [(10, .v (.slice a_r2 l6.length cap_r2)), (12, .i64 j1)]) (fun F (st : (Int × (List Int))) (hid : (Option Addr × Nat)) => match st, hid with | (j1, l6), (a_r2, cap_r2) => [(nthF F 0), row a_r2 cap_r2 3 1 D.i64 l6, (nthF F 1), (nthF F 2), (nthF F 3)]) (_, _) hj3 (fun _ => rfl) ⟨rfl, rfl, rfl, rfl, rfl, rfl, rfl, rfl, trivial⟩ ⟨rfl, rfl, rfl, rfl, trivial⟩ ⟨rfl, rfl, trivial⟩ rfl ?_
            rintro n ⟨j1, l6⟩ ⟨a_r2, cap_r2⟩ hj3
            rw [m_syntagmaref28_With_l3] at hj3
            refine g_norm (L' := [(10, .v (.slice a_r2 l6.length cap_r2)), (12, .i64 j1), (1, _), (2, _), (3, _), (6, _), (7, _), (8, _), (9, _), (11, _)]) (ms' := [_, row a_r2 cap_r2 3 1 D.i64 l6, _, _, _]) rfl rfl ?_
            refine g_seq ?_
            refine g_seq ?_
            refine g_region ?_
            refine go_p rfl rfl rfl (o_move rfl) ?_
            refine go_p rfl rfl rfl (o_move rfl) ?_
            refine go_p rfl rfl rfl (o_len Try.runUnderlying28 rfl) ?_
            refine go_p rfl rfl rfl (o_cmp rfl rfl rfl) ?_
            refine go_nil ?_
            refine g_cond rfl (fun hc3 => ?_) (fun hc3 => ?_)
            · replace hj3 := cond_t hc3 hj3
              refine g_skip ?_
              refine g_seq ?_
              refine g_block ?_
              refine g_seq ?_
              obtain ⟨x2, hx2, hj3⟩ := bind_some hj3
              obtain ⟨x3, hx3, hj3⟩ := bind_some hj3
              rcases cond_split hj3 with ⟨hg_1, hj3⟩ | ⟨hg_1, hj3⟩
              ·
                skip
                obtain ⟨x4, hx4, hj3⟩ := bind_some hj3
                refine g_draw 17 Try_mixed (by decide +kernel) ?_
                refine gd_p rfl rfl rfl (o_move rfl) ?_
                refine gd_p rfl rfl rfl (o_move rfl) ?_
                refine gd_p rfl rfl rfl (o_indexAddr_m Try.runUnderlying28 Try.sizeOf3 rfl rfl hx2) ?_
                refine gd_p rfl rfl rfl (o_load Try.isAgg3 rfl rfl) ?_
                refine gd_p rfl rfl rfl (o_fieldAddr_box fi_132_8 rfl) ?_
                refine gd_p rfl rfl rfl (o_load_box 0 Try.isAgg28 rfl rfl rfl rfl) ?_
                refine gd_p rfl rfl rfl (o_move rfl) ?_
                refine gd_p rfl rfl rfl (o_indexAddr_m Try.runUnderlying28 Try.sizeOf3 rfl rfl hx3) ?_
                refine gd_p rfl rfl rfl (o_load Try.isAgg3 rfl rfl) ?_
                refine gd_p rfl rfl rfl (o_cmp rfl rfl rfl) ?_
                refine gd_p rfl rfl rfl (o_move rfl) ?_
                refine gd_want rfl rfl rfl hg_1 rfl rfl (o_move rfl) ?_
                refine gd_want rfl rfl rfl hg_1 rfl rfl (o_move rfl) ?_
                refine gd_want rfl rfl rfl hg_1 rfl rfl (o_indexAddr_m Try.runUnderlying28 Try.sizeOf3 rfl rfl hx4) ?_
                refine gd_want rfl rfl rfl hg_1 rfl rfl (o_load Try.isAgg3 rfl rfl) ?_
                refine gd_want rfl rfl rfl hg_1 rfl rfl (o_cmp rfl rfl rfl) ?_
                refine gd_p rfl rfl rfl (o_pickT rfl hg_1 rfl) ?_
                refine gd_nil ?_
                refine go_nil ?_
                refine g_cond rfl (fun hc4 => ?_) (fun hc4 => ?_)
                · replace hj3 := cond_t hc4 hj3
                  refine g_region ?_
                  refine go_p rfl rfl rfl (o_move rfl) ?_
                  refine go_p rfl rfl rfl (o_move rfl) ?_
                  refine go_p rfl rfl rfl (o_move rfl) ?_
                  obtain ⟨x5, hx5, hj3⟩ := bind_some hj3
                  refine go_p rfl rfl rfl (o_indexAddr_m Try.runUnderlying28 Try.sizeOf3 rfl rfl hx5) ?_
                  refine go_p rfl rfl rfl (o_load Try.isAgg3 rfl rfl) ?_
                  refine go_p rfl rfl rfl (o_buildSlice (xs := [_]) (f := D.i64) (l := [_]) Try.runUnderlying28 Try.sizeOf3 Try.zeroValue3 rfl rfl rfl (fun _ => ⟨rfl, rfl, rfl⟩) rfl) ?_
                  obtain ⟨hg6, hj3⟩ := grd_some hj3
                  refine go_op rfl rfl rfl (o_append (a := _) 1 Try.underlying28 Try.type3 rfl rfl rfl rfl rfl rfl rfl (fun _ => rfl) (fun _ => rfl) hg6 (app_len hg6 rfl)) ?_
                  rintro _ _ ⟨a_r2, cap_r2, rfl, rfl⟩
                  refine go_ms (ms' := [box b3 132 [_, _, _, _, _, _, _, _, _, _, _, _, _], _, _, box b2 74 [_, _], box b1 74 [_, _]]) rfl ?_
                  refine go_p rfl rfl rfl (o_assign rfl) ?_
                  refine go_nil ?_
                  refine g_region ?_
                  refine go_p rfl rfl rfl (o_move rfl) ?_
                  obtain ⟨hg7, hj3⟩ := grd_some hj3
                  refine go_p rfl rfl rfl (o_add rfl rfl (i64_id hg7)) ?_
                  refine go_p rfl rfl rfl (o_assign rfl) ?_
                  refine go_nil ?_
                  exact ⟨_, (_, _), hj3, ⟨rfl, rfl, trivial⟩, ⟨rfl, rfl, rfl, rfl, rfl, rfl, rfl, rfl, trivial⟩, [], rfl⟩
                · replace hj3 := cond_f hc4 hj3
                  refine g_skip ?_
                  refine g_region ?_
                  refine go_p rfl rfl rfl (o_move rfl) ?_
                  obtain ⟨hg8, hj3⟩ := grd_some hj3
                  refine go_p rfl rfl rfl (o_add rfl rfl (i64_id hg8)) ?_
                  refine go_p rfl rfl rfl (o_assign rfl) ?_
                  refine go_nil ?_
                  exact ⟨_, (_, _), hj3, ⟨rfl, rfl, trivial⟩, ⟨rfl, rfl, rfl, rfl, rfl, rfl, rfl, rfl, trivial⟩, [], rfl⟩
              ·
                skip
                refine g_draw 17 Try_mixed (by decide +kernel) ?_
                refine gd_p rfl rfl rfl (o_move rfl) ?_
                refine gd_p rfl rfl rfl (o_move rfl) ?_
                refine gd_p rfl rfl rfl (o_indexAddr_m Try.runUnderlying28 Try.sizeOf3 rfl rfl hx2) ?_
                refine gd_p rfl rfl rfl (o_load Try.isAgg3 rfl rfl) ?_
                refine gd_p rfl rfl rfl (o_fieldAddr_box fi_132_8 rfl) ?_
                refine gd_p rfl rfl rfl (o_load_box 0 Try.isAgg28 rfl rfl rfl rfl) ?_
                refine gd_p rfl rfl rfl (o_move rfl) ?_
                refine gd_p rfl rfl rfl (o_indexAddr_m Try.runUnderlying28 Try.sizeOf3 rfl rfl hx3) ?_
                refine gd_p rfl rfl rfl (o_load Try.isAgg3 rfl rfl) ?_
                refine gd_p rfl rfl rfl (o_cmp rfl rfl rfl) ?_
                refine gd_p rfl rfl rfl (o_move rfl) ?_
                refine gd_skip rfl rfl rfl hg_1 rfl rfl ?_
                refine gd_skip rfl rfl rfl hg_1 rfl rfl ?_
                refine gd_skip rfl rfl rfl hg_1 rfl rfl ?_
                refine gd_skip rfl rfl rfl hg_1 rfl rfl ?_
                refine gd_skip rfl rfl rfl hg_1 rfl rfl ?_
                refine gd_p rfl rfl rfl (o_pickF rfl hg_1 rfl) ?_
                refine gd_nil ?_
                refine go_nil ?_
                refine g_cond_false rfl rfl ?_
                refine g_skip ?_
                refine g_region ?_
                refine go_p rfl rfl rfl (o_move rfl) ?_
                obtain ⟨hg9, hj3⟩ := grd_some hj3
                refine go_p rfl rfl rfl (o_add rfl rfl (i64_id hg9)) ?_
                refine go_p rfl rfl rfl (o_assign rfl) ?_
                refine go_nil ?_
                exact ⟨_, (_, _), hj3, ⟨rfl, rfl, trivial⟩, ⟨rfl, rfl, rfl, rfl, rfl, rfl, rfl, rfl, trivial⟩, [], rfl⟩
            · replace hj3 := cond_f hc3 hj3
              refine g_exit ?_
              exact ⟨_, (_, _), some_eq hj3, ⟨rfl, trivial⟩, ⟨rfl, rfl, rfl, rfl, rfl, rfl, rfl, rfl, trivial⟩, [], rfl⟩
          · rintro l5 ⟨a_r2, cap_r2⟩ hst
            subst hst
            refine k_norm (L' := [(10, .v (.slice a_r2 l5.length cap_r2)), (1, _), (2, _), (3, _), (6, _), (7, _), (8, _), (9, _), (11, _)]) (ms' := [_, row a_r2 cap_r2 3 1 D.i64 l5, _, _, _]) rfl rfl ?_
            refine g_region ?_
            refine go_p rfl rfl rfl (o_move rfl) ?_
            obtain ⟨hg10, hm3⟩ := grd_some hm3
            refine go_p rfl rfl rfl (o_add rfl rfl (i64_id hg10)) ?_
            refine go_p rfl rfl rfl (o_assign rfl) ?_
            refine go_nil ?_
            exact ⟨_, (_, _), hm3, ⟨rfl, rfl, trivial⟩, ⟨rfl, rfl, rfl, rfl, rfl, rfl, rfl, trivial⟩, [], rfl⟩
        · replace hj2 := cond_f hc2 hj2
          refine g_exit ?_
          exact ⟨_, (_, _), some_eq hj2, ⟨rfl, trivial⟩, ⟨rfl, rfl, rfl, rfl, rfl, rfl, rfl, trivial⟩, [], rfl⟩
      · rintro l3 ⟨a_r2, cap_r2⟩ hst
        subst hst
        refine k_norm (L' := [(10, .v (.slice a_r2 l3.length cap_r2)), (1, _), (2, _), (3, _), (6, _), (7, _), (8, _), (9, _)]) (ms' := [_, row a_r2 cap_r2 3 1 D.i64 l3, _, _, _]) rfl rfl ?_
        refine g_seq ?_
        refine g_region ?_
        refine go_p rfl rfl rfl (o_move rfl) ?_
        obtain ⟨x6, hx11, hm2⟩ := bind_some hm2
        refine go_p rfl rfl rfl (.view (peekE (i := 66) 1 rfl rfl rfl) (o_call0 Try.call99 rfl (w_syntagmaref15_Set hx11))) ?_
        refine go_p rfl rfl rfl (o_fieldAddr_box fi_132_8 rfl) ?_
        refine go_u rfl rfl (o_store_box 0 Try.sizeOf28 rfl rfl rfl rfl rfl rfl rfl rfl (Nat.le_of_ble_eq_true rfl)) ?_
        rintro _ _ rfl
        refine go_ms (ms' := [box b3 132 [_, _, _, _, _, _, _, _, _, _, _, _, _], _, _, box b2 74 [_, _], box b1 74 [_, _]]) rfl ?_
        refine go_nil ?_
        refine g_region ?_
        refine go_p rfl rfl rfl (o_fieldAddr_box fi_74_0 rfl) ?_
        refine go_p rfl rfl rfl (o_load_box 3 Try.isAgg72 rfl rfl rfl rfl) ?_
        refine go_p rfl rfl rfl (o_load_box_agg 0 Try.isAgg132 Try.sizeOf132 rfl rfl rfl rfl (Nat.le_of_ble_eq_true rfl)) ?_
        refine go_p rfl rfl rfl (o_buildSlice (xs := [_]) (f := AutoState.d) (l := [(⟨x1.plus, x1.all, x1.int, x1.bool, x1.str, x1.arrow, x1.rec_, x1.tag, x6, x1.dom, x1.cod, x1.fields, x1.tags⟩ : AutoState)]) Try.runUnderlying72 Try.sizeOf132 Try.zeroValue132 rfl rfl rfl (fun _ => ⟨rfl, rfl, rfl⟩) rfl) ?_
        obtain ⟨hg12, hm2⟩ := grd_some hm2
        refine go_op rfl rfl rfl (o_append (a := _) 2 Try.underlying72 Try.type132 rfl rfl rfl rfl rfl rfl rfl (fun _ => rfl) (fun _ => rfl) hg12 (app_len hg12 rfl)) ?_
        rintro _ _ ⟨a_r1, cap_r1, rfl, rfl⟩
        refine go_ms (ms' := [box b3 132 [_, _, _, _, _, _, _, _, _, _, _, _, _], _, _, box b2 74 [_, _], box b1 74 [_, _]]) rfl ?_
        refine go_p rfl rfl rfl (o_fieldAddr_box fi_74_0 rfl) ?_
        refine go_u rfl rfl (o_store_box 3 Try.sizeOf72 rfl rfl rfl rfl rfl rfl rfl rfl (Nat.le_of_ble_eq_true rfl)) ?_
        rintro _ _ rfl
        refine go_ms (ms' := [box b3 132 [_, _, _, _, _, _, _, _, _, _, _, _, _], _, _, box b2 74 [_, _], box b1 74 [_, _]]) rfl ?_
        refine go_nil ?_
        refine g_region ?_
        refine go_p rfl rfl rfl (o_move rfl) ?_
        obtain ⟨hg13, hm2⟩ := grd_some hm2
        refine go_p rfl rfl rfl (o_add rfl rfl (i64_id hg13)) ?_
        refine go_p rfl rfl rfl (o_assign rfl) ?_
        refine go_nil ?_
        exact ⟨_, (_, _), hm2, ⟨rfl, trivial⟩, ⟨rfl, rfl, rfl, rfl, rfl, trivial⟩, [_, _], rfl⟩
    · replace hj1 := cond_f hc1 hj1
      refine g_exit ?_
      exact ⟨_, (_, _), some_eq hj1, trivial, ⟨rfl, rfl, trivial⟩, [], rfl⟩
  · rintro ⟨l1, z1⟩ ⟨a_r1, cap_r1⟩ hst
    subst hst
    refine k_norm (L' := [(6, _), (7, _)]) (ms' := [row a_r1 cap_r1 132 13 AutoState.d l1, box b2 74 [.v (.slice a_r1 l1.length cap_r1), .i64 z1], _]) rfl rfl ?_
    refine g_seq ?_
    refine g_region ?_
    refine go_p rfl rfl rfl (o_load_box_agg 1 Try.isAgg74 Try.sizeOf74 rfl rfl rfl rfl (Nat.le_of_ble_eq_true rfl)) ?_
    refine go_conv (peekAggE (i := 75) (q := 0) 0 rfl rfl rfl rfl rfl).refines ?_
    refine go_u rfl rfl (o_store_box 2 Try.sizeOf74 rfl rfl rfl rfl rfl rfl rfl rfl (Nat.le_of_ble_eq_true rfl)) ?_
    rintro _ _ rfl
    refine go_ms (ms' := [_, box b2 74 [_, _], box b1 74 [_, _]]) rfl ?_
    refine go_nil ?_
    refine g_ret ?_
    exact retK (ret_one' rfl (ret_cell 2 rfl rfl rfl Try.isAgg74 Try.sizeOf74 rfl) (perm_drop _)) (congrArg (fun (p : AutoAuto) => (AutoAuto.d p : D)) (some_eq hm1))
def m_syntagmaref28_Drop_l1 (x1 : AutoAuto) (x2 : (List Int)) : Nat → (Int × (List Int)) → Option (List Int)
  | 0, _ => none
  | n + 1, (i1, l2) =>
    bif (decide (i1 < (x2.length : Int))) then
      (idx x2 i1).bind fun x3 =>
      (m_syntagmaref28_On (⟨x1.l, x1.start⟩ : AutoAuto) x3 true).bind fun x4 =>
      bif x4 then ((idx x2 i1).bind fun x5 =>
      (m_syntagmaref28_On (⟨x1.l, x1.start⟩ : AutoAuto) x5 false).bind fun x6 =>
      bif x6 then
        (idx x2 i1).bind fun x7 =>
        grd ((l2.length + ([x7] : List _).length) * 8 ≤ 140737488355328) <|
        grd (InR (i1 + 1)) <|
        m_syntagmaref28_Drop_l1 x1 x2 n ((i1 + 1), (l2 ++ [x7]))
      else
        grd ((l2.length + ([(-1)] : List _).length) * 8 ≤ 140737488355328) <|
        grd (InR (i1 + 1)) <|
        m_syntagmaref28_Drop_l1 x1 x2 n ((i1 + 1), (l2 ++ [(-1)]))) else (grd ((l2.length + ([(-1)] : List _).length) * 8 ≤ 140737488355328) <|
      grd (InR (i1 + 1)) <|
      m_syntagmaref28_Drop_l1 x1 x2 n ((i1 + 1), (l2 ++ [(-1)])))
    else
      some l2
def m_syntagmaref28_Drop (a1 : AutoAuto) : Option AutoAuto :=
  (m_syntagmaref24_Norm a1).bind fun x1 =>
  (m_syntagmaref28_All (⟨x1.l, x1.start⟩ : AutoAuto)).bind fun x2 =>
  (m_syntagmaref28_Drop_l1 x1 x2 FU (0, []) : Option (List Int)).bind fun l1 =>
  (m_syntagmaref28_With (⟨x1.l, x1.start⟩ : AutoAuto) x2 l1).bind fun x8 =>
  some (⟨x8.l, x8.start⟩ : AutoAuto)
theorem w_syntagmaref28_Drop {a1 : AutoAuto} {r_1 : AutoAuto} (hm : m_syntagmaref28_Drop a1 = some r_1) : Fn0 Try.prog 57 [AutoAuto.d a1] (AutoAuto.d r_1) := by
  unfold m_syntagmaref28_Drop at hm
  refine fn_intro Try.func57 rfl Try.ntmps57 rfl fun H0 fr w0 => ?_
  refine g_seq ?_
  refine g_region ?_
  refine go_p rfl rfl rfl (o_box rfl rfl) ?_
  refine go_op rfl rfl rfl (o_alloc_own Try.zeroValue74 (cs := [.list 13 AutoState.d [], .i64 0]) rfl) ?_
  rintro _ _ ⟨b1, rfl, rfl⟩
  refine go_nil ?_
  refine g_seq ?_
  refine g_region ?_
  refine go_p rfl rfl rfl (o_load_agg Try.isAgg74 Try.sizeOf74 rfl rfl) ?_
  obtain ⟨x1, hx1, hm⟩ := bind_some hm
  refine go_p rfl rfl rfl (o_call0 Try.call53 rfl (w_syntagmaref24_Norm hx1)) ?_
  refine go_op rfl rfl rfl (o_alloc_own Try.zeroValue74 (cs := [.list 13 AutoState.d [], .i64 0]) rfl) ?_
  rintro _ _ ⟨b2, rfl, rfl⟩
  refine go_u rfl rfl (o_store_box 0 Try.sizeOf74 rfl rfl rfl rfl rfl rfl rfl rfl (Nat.le_of_ble_eq_true rfl)) ?_
  rintro _ _ rfl
  refine go_ms (ms' := [box b2 74 [_, _], box b1 74 [_, _]]) rfl ?_
  refine go_nil ?_
  refine g_seq ?_
  refine g_region ?_
  refine go_p rfl rfl rfl (o_load_box_agg 0 Try.isAgg74 Try.sizeOf74 rfl rfl rfl rfl (Nat.le_of_ble_eq_true rfl)) ?_
  obtain ⟨x2, hx2, hm⟩ := bind_some hm
  refine go_p rfl rfl rfl (o_call0 Try.call54 rfl (w_syntagmaref28_All hx2)) ?_
  refine go_op rfl rfl rfl (o_buildSlice_row (xs := []) (f := D.i64) (l := []) Try.runUnderlying28 Try.sizeOf3 Try.zeroValue3 rfl rfl rfl (fun _ => ⟨rfl, rfl, rfl⟩) rfl (by simp [maxLen])) ?_
  rintro _ _ ⟨a_r1, rfl, rfl⟩
  refine go_p rfl rfl rfl (o_assign rfl) ?_
  refine go_p rfl rfl rfl (o_assign rfl) ?_
  refine go_nil ?_
  refine g_seq ?_
  refine g_seq ?_
  refine g_region ?_
  refine go_p rfl rfl rfl (o_assign rfl) ?_
  refine go_nil ?_
  obtain ⟨o_1, hj1, hm1⟩ := bind_some hm
  refine g_cut_m [(2, _), (3, _), (4, _)] [(1, _), (2, _)] (fun (st : (List Int)) (hid : (Option Addr × Nat)) => match st, hid with | l1, (a_r1, cap_r1) => [(5, .v (.slice a_r1 l1.length cap_r1))]) (fun F (st : (List Int)) (hid : (Option Addr × Nat)) => match st, hid with | l1, (a_r1, cap_r1) => [row a_r1 cap_r1 3 1 D.i64 l1, (nthF F 0), (nthF F 1)]) (fun st => st = o_1) ⟨rfl, rfl, rfl, trivial⟩ ⟨rfl, rfl, trivial⟩ ?_ ?_
  · skip
    refine g_block ?_
    refine g_loop_m [(2, _), (3, _), (4, _)] [(1, _), (2, _)] (fun (st : (Int × (List Int))) (hid : (Option Addr × Nat)) => match st, hid with | (i1, l2), (a_r1, cap_r1) => [(5, .v (.slice a_r1 l2.length cap_r1)), (6, .i64 i1)]) (fun F (st : (Int × (List Int))) (hid : (Option Addr × Nat)) => match st, hid with | (i1, l2), (a_r1, cap_r1) => [row a_r1 cap_r1 3 1 D.i64 l2, (nthF F 0), (nthF F 1)]) (_, _) hj1 (fun _ => rfl) ⟨rfl, rfl, rfl, trivial⟩ ⟨rfl, rfl, trivial⟩ ⟨rfl, rfl, trivial⟩ rfl ?_
    rintro n ⟨i1, l2⟩ ⟨a_r1, cap_r1⟩ hj1
    rw [m_syntagmaref28_Drop_l1] at hj1
    refine g_norm (L' := [(5, .v (.slice a_r1 l2.length cap_r1)), (6, .i64 i1), (2, _), (3, _), (4, _)]) (ms' := [row a_r1 cap_r1 3 1 D.i64 l2, _, _]) rfl rfl ?_
    refine g_seq ?_
    refine g_seq ?_
    refine g_region ?_
    refine go_p rfl rfl rfl (o_move rfl) ?_
    refine go_p rfl rfl rfl (o_move rfl) ?_
    refine go_p rfl rfl rfl (o_len Try.runUnderlying28 rfl) ?_
    refine go_p rfl rfl rfl (o_cmp rfl rfl rfl) ?_
    refine go_nil ?_
    refine g_cond rfl (fun hc1 => ?_) (fun hc1 => ?_)
    · replace hj1 := cond_t hc1 hj1
      refine g_skip ?_
      refine g_seq ?_
      refine g_block ?_
      refine g_seq ?_
      obtain ⟨x3, hx3, hj1⟩ := bind_some hj1
      obtain ⟨x4, hx4, hj1⟩ := bind_some hj1
      rcases cond_split hj1 with ⟨hg_1, hj1⟩ | ⟨hg_1, hj1⟩
      ·
        skip
        obtain ⟨x5, hx5, hj1⟩ := bind_some hj1
        obtain ⟨x6, hx6, hj1⟩ := bind_some hj1
        refine g_draw 14 Try_mixed (by decide +kernel) ?_
        refine gd_p rfl rfl rfl (o_load_box_agg 1 Try.isAgg74 Try.sizeOf74 rfl rfl rfl rfl (Nat.le_of_ble_eq_true rfl)) ?_
        refine gd_p rfl rfl rfl (o_move rfl) ?_
        refine gd_p rfl rfl rfl (o_move rfl) ?_
        refine gd_p rfl rfl rfl (o_indexAddr_m Try.runUnderlying28 Try.sizeOf3 rfl rfl hx3) ?_
        refine gd_p rfl rfl rfl (o_load Try.isAgg3 rfl rfl) ?_
        refine gd_p rfl rfl rfl (o_call0 Try.call55 rfl (w_syntagmaref28_On hx4)) ?_
        refine gd_p rfl rfl rfl (o_move rfl) ?_
        refine gd_want rfl rfl rfl hg_1 rfl rfl (o_load_box_agg 1 Try.isAgg74 Try.sizeOf74 rfl rfl rfl rfl (Nat.le_of_ble_eq_true rfl)) ?_
        refine gd_want rfl rfl rfl hg_1 rfl rfl (o_move rfl) ?_
        refine gd_want rfl rfl rfl hg_1 rfl rfl (o_move rfl) ?_
        refine gd_want rfl rfl rfl hg_1 rfl rfl (o_indexAddr_m Try.runUnderlying28 Try.sizeOf3 rfl rfl hx5) ?_
        refine gd_want rfl rfl rfl hg_1 rfl rfl (o_load Try.isAgg3 rfl rfl) ?_
        refine gd_want rfl rfl rfl hg_1 rfl rfl (o_call0 Try.call55 rfl (w_syntagmaref28_On hx6)) ?_
        refine gd_p rfl rfl rfl (o_pickT rfl hg_1 rfl) ?_
        refine gd_nil ?_
        refine go_nil ?_
        refine g_cond rfl (fun hc2 => ?_) (fun hc2 => ?_)
        · replace hj1 := cond_t hc2 hj1
          refine g_region ?_
          refine go_p rfl rfl rfl (o_move rfl) ?_
          refine go_p rfl rfl rfl (o_move rfl) ?_
          refine go_p rfl rfl rfl (o_move rfl) ?_
          obtain ⟨x7, hx7, hj1⟩ := bind_some hj1
          refine go_p rfl rfl rfl (o_indexAddr_m Try.runUnderlying28 Try.sizeOf3 rfl rfl hx7) ?_
          refine go_p rfl rfl rfl (o_load Try.isAgg3 rfl rfl) ?_
          refine go_p rfl rfl rfl (o_buildSlice (xs := [_]) (f := D.i64) (l := [_]) Try.runUnderlying28 Try.sizeOf3 Try.zeroValue3 rfl rfl rfl (fun _ => ⟨rfl, rfl, rfl⟩) rfl) ?_
          obtain ⟨hg8, hj1⟩ := grd_some hj1
          refine go_op rfl rfl rfl (o_append (a := _) 0 Try.underlying28 Try.type3 rfl rfl rfl rfl rfl rfl rfl (fun _ => rfl) (fun _ => rfl) hg8 (app_len hg8 rfl)) ?_
          rintro _ _ ⟨a_r1, cap_r1, rfl, rfl⟩
          refine go_ms (ms' := [_, box b2 74 [_, _], box b1 74 [_, _]]) rfl ?_
          refine go_p rfl rfl rfl (o_assign rfl) ?_
          refine go_nil ?_
          refine g_region ?_
          refine go_p rfl rfl rfl (o_move rfl) ?_
          obtain ⟨hg9, hj1⟩ := grd_some hj1
          refine go_p rfl rfl rfl (o_add rfl rfl (i64_id hg9)) ?_
          refine go_p rfl rfl rfl (o_assign rfl) ?_
          refine go_nil ?_
          exact ⟨_, (_, _), hj1, ⟨rfl, rfl, trivial⟩, ⟨rfl, rfl, rfl, trivial⟩, [], rfl⟩
        · replace hj1 := cond_f hc2 hj1
          refine g_region ?_
          refine go_p rfl rfl rfl (o_move rfl) ?_
          refine go_p rfl rfl rfl (o_buildSlice (xs := [_]) (f := D.i64) (l := [_]) Try.runUnderlying28 Try.sizeOf3 Try.zeroValue3 rfl rfl rfl (fun _ => ⟨rfl, rfl, rfl⟩) rfl) ?_
          obtain ⟨hg10, hj1⟩ := grd_some hj1
          refine go_op rfl rfl rfl (o_append (a := _) 0 Try.underlying28 Try.type3 rfl rfl rfl rfl rfl rfl rfl (fun _ => rfl) (fun _ => rfl) hg10 (app_len hg10 rfl)) ?_
          rintro _ _ ⟨a_r1, cap_r1, rfl, rfl⟩
          refine go_ms (ms' := [_, box b2 74 [_, _], box b1 74 [_, _]]) rfl ?_
          refine go_p rfl rfl rfl (o_assign rfl) ?_
          refine go_nil ?_
          refine g_region ?_
          refine go_p rfl rfl rfl (o_move rfl) ?_
          obtain ⟨hg11, hj1⟩ := grd_some hj1
          refine go_p rfl rfl rfl (o_add rfl rfl (i64_id hg11)) ?_
          refine go_p rfl rfl rfl (o_assign rfl) ?_
          refine go_nil ?_
          exact ⟨_, (_, _), hj1, ⟨rfl, rfl, trivial⟩, ⟨rfl, rfl, rfl, trivial⟩, [], rfl⟩
      ·
        skip
        refine g_draw 14 Try_mixed (by decide +kernel) ?_
        refine gd_p rfl rfl rfl (o_load_box_agg 1 Try.isAgg74 Try.sizeOf74 rfl rfl rfl rfl (Nat.le_of_ble_eq_true rfl)) ?_
        refine gd_p rfl rfl rfl (o_move rfl) ?_
        refine gd_p rfl rfl rfl (o_move rfl) ?_
        refine gd_p rfl rfl rfl (o_indexAddr_m Try.runUnderlying28 Try.sizeOf3 rfl rfl hx3) ?_
        refine gd_p rfl rfl rfl (o_load Try.isAgg3 rfl rfl) ?_
        refine gd_p rfl rfl rfl (o_call0 Try.call55 rfl (w_syntagmaref28_On hx4)) ?_
        refine gd_p rfl rfl rfl (o_move rfl) ?_
        refine gd_skip rfl rfl rfl hg_1 rfl rfl ?_
        refine gd_skip rfl rfl rfl hg_1 rfl rfl ?_
        refine gd_skip rfl rfl rfl hg_1 rfl rfl ?_
        refine gd_skip rfl rfl rfl hg_1 rfl rfl ?_
        refine gd_skip rfl rfl rfl hg_1 rfl rfl ?_
        refine gd_skip rfl rfl rfl hg_1 rfl rfl ?_
        refine gd_p rfl rfl rfl (o_pickF rfl hg_1 rfl) ?_
        refine gd_nil ?_
        refine go_nil ?_
        refine g_cond_false rfl rfl ?_
        refine g_region ?_
        refine go_p rfl rfl rfl (o_move rfl) ?_
        refine go_p rfl rfl rfl (o_buildSlice (xs := [_]) (f := D.i64) (l := [_]) Try.runUnderlying28 Try.sizeOf3 Try.zeroValue3 rfl rfl rfl (fun _ => ⟨rfl, rfl, rfl⟩) rfl) ?_
        obtain ⟨hg12, hj1⟩ := grd_some hj1
        refine go_op rfl rfl rfl (o_append (a := _) 0 Try.underlying28 Try.type3 rfl rfl rfl rfl rfl rfl rfl (fun _ => rfl) (fun _ => rfl) hg12 (app_len hg12 rfl)) ?_
        rintro _ _ ⟨a_r1, cap_r1, rfl, rfl⟩
        refine go_ms (ms' := [_, box b2 74 [_, _], box b1 74 [_, _]]) rfl ?_
        refine go_p rfl rfl rfl (o_assign rfl) ?_
        refine go_nil ?_
        refine g_region ?_
        refine go_p rfl rfl rfl (o_move rfl) ?_
        obtain ⟨hg13, hj1⟩ := grd_some hj1
        refine go_p rfl rfl rfl (o_add rfl rfl (i64_id hg13)) ?_
        refine go_p rfl rfl rfl (o_assign rfl) ?_
        refine go_nil ?_
        exact ⟨_, (_, _), hj1, ⟨rfl, rfl, trivial⟩, ⟨rfl, rfl, rfl, trivial⟩, [], rfl⟩
    · replace hj1 := cond_f hc1 hj1
      refine g_exit ?_
      exact ⟨_, (_, _), some_eq hj1, ⟨rfl, trivial⟩, ⟨rfl, rfl, rfl, trivial⟩, [], rfl⟩
  · rintro l1 ⟨a_r1, cap_r1⟩ hst
    subst hst
    refine k_norm (L' := [(5, .v (.slice a_r1 l1.length cap_r1)), (2, _), (3, _), (4, _)]) (ms' := [row a_r1 cap_r1 3 1 D.i64 l1, _, _]) rfl rfl ?_
    refine g_seq ?_
    refine g_region ?_
    refine go_p rfl rfl rfl (o_load_box_agg 1 Try.isAgg74 Try.sizeOf74 rfl rfl rfl rfl (Nat.le_of_ble_eq_true rfl)) ?_
    refine go_p rfl rfl rfl (o_move rfl) ?_
    refine go_p rfl rfl rfl (o_move rfl) ?_
    obtain ⟨x8, hx14, hm1⟩ := bind_some hm1
    refine go_p rfl rfl rfl (.view (peekE (i := 44) 0 rfl rfl rfl) (o_call0 Try.call101 rfl (w_syntagmaref28_With hx14))) ?_
    refine go_u rfl rfl (o_store_box 2 Try.sizeOf74 rfl rfl rfl rfl rfl rfl rfl rfl (Nat.le_of_ble_eq_true rfl)) ?_
    rintro _ _ rfl
    refine go_ms (ms' := [_, box b2 74 [_, _], box b1 74 [_, _]]) rfl ?_
    refine go_nil ?_
    refine g_ret ?_
    exact retK (ret_one' rfl (ret_cell 2 rfl rfl rfl Try.isAgg74 Try.sizeOf74 rfl) (perm_drop _)) (congrArg (fun (p : AutoAuto) => (AutoAuto.d p : D)) (some_eq hm1))
def m_syntagmaref28_Rename_l2 (x1 : AutoAuto) (i1 : Int) : Nat → (Int × (List Int) × (List Int)) → Option ((List Int) × (List Int))
  | 0, _ => none
  | n + 1, (k1, l7, l8) =>
    (idx x1.l i1).bind fun x2 =>
    bif (decide (k1 < (x2.vars.length : Int))) then
      (idx x1.l i1).bind fun x3 =>
      (idx x3.vars k1).bind fun x4 =>
      (m_syntagmabase_HasInt l8 x4).bind fun x5 =>
      bif (!x5) then
        (idx x1.l i1).bind fun x6 =>
        (idx x6.vars k1).bind fun x7 =>
        grd ((l8.length + ([x7] : List _).length) * 8 ≤ 140737488355328) <|
        grd ((l7.length + ([(l7.length : Int)] : List _).length) * 8 ≤ 140737488355328) <|
        grd (InR (k1 + 1)) <|
        m_syntagmaref28_Rename_l2 x1 i1 n ((k1 + 1), (l7 ++ [(l7.length : Int)]), (l8 ++ [x7]))
      else
        grd (InR (k1 + 1)) <|
        m_syntagmaref28_Rename_l2 x1 i1 n ((k1 + 1), l7, l8)
    else
      some (l7, l8)
def m_syntagmaref28_Rename_l1 (x1 : AutoAuto) : Nat → (Int × (List Int) × (List Int)) → Option ((List Int) × (List Int))
  | 0, _ => none
  | n + 1, (i1, l3, l4) =>
    bif (decide (i1 < (x1.l.length : Int))) then
      (m_syntagmaref28_Rename_l2 x1 i1 FU (0, l3, l4) : Option ((List Int) × (List Int))).bind fun (l5, l6) =>
      grd (InR (i1 + 1)) <|
      m_syntagmaref28_Rename_l1 x1 n ((i1 + 1), l5, l6)
    else
      some (l3, l4)
def m_syntagmaref28_Rename (a1 : AutoAuto) : Option AutoAuto :=
  (m_syntagmaref24_Norm a1).bind fun x1 =>
  (m_syntagmaref28_Rename_l1 x1 FU (0, [], []) : Option ((List Int) × (List Int))).bind fun (l1, l2) =>
  (m_syntagmaref28_With (⟨x1.l, x1.start⟩ : AutoAuto) l2 l1).bind fun x8 =>
  some (⟨x8.l, x8.start⟩ : AutoAuto)
theorem w_syntagmaref28_Rename {a1 : AutoAuto} {r_1 : AutoAuto} (hm : m_syntagmaref28_Rename a1 = some r_1) : Fn0 Try.prog 58 [AutoAuto.d a1] (AutoAuto.d r_1) := by
  unfold m_syntagmaref28_Rename at hm
  refine fn_intro Try.func58 rfl Try.ntmps58 rfl fun H0 fr w0 => ?_
  refine g_seq ?_
  refine g_region ?_
  refine go_p rfl rfl rfl (o_box rfl rfl) ?_
  refine go_op rfl rfl rfl (o_alloc_own Try.zeroValue74 (cs := [.list 13 AutoState.d [], .i64 0]) rfl) ?_
  rintro _ _ ⟨b1, rfl, rfl⟩
  refine go_nil ?_
  refine g_seq ?_
  refine g_region ?_
  refine go_p rfl rfl rfl (o_load_agg Try.isAgg74 Try.sizeOf74 rfl rfl) ?_
  obtain ⟨x1, hx1, hm⟩ := bind_some hm
  refine go_p rfl rfl rfl (o_call0 Try.call53 rfl (w_syntagmaref24_Norm hx1)) ?_
  refine go_op rfl rfl rfl (o_alloc_own Try.zeroValue74 (cs := [.list 13 AutoState.d [], .i64 0]) rfl) ?_
  rintro _ _ ⟨b2, rfl, rfl⟩
  refine go_u rfl rfl (o_store_box 0 Try.sizeOf74 rfl rfl rfl rfl rfl rfl rfl rfl (Nat.le_of_ble_eq_true rfl)) ?_
  rintro _ _ rfl
  refine go_ms (ms' := [box b2 74 [_, _], box b1 74 [_, _]]) rfl ?_
  refine go_nil ?_
  refine g_seq ?_
  refine g_region ?_
  refine go_op rfl rfl rfl (o_buildSlice_row (xs := []) (f := D.i64) (l := []) Try.runUnderlying28 Try.sizeOf3 Try.zeroValue3 rfl rfl rfl (fun _ => ⟨rfl, rfl, rfl⟩) rfl (by simp [maxLen])) ?_
  rintro _ _ ⟨a_r1, rfl, rfl⟩
  refine go_op rfl rfl rfl (o_buildSlice_row (xs := []) (f := D.i64) (l := []) Try.runUnderlying28 Try.sizeOf3 Try.zeroValue3 rfl rfl rfl (fun _ => ⟨rfl, rfl, rfl⟩) rfl (by simp [maxLen])) ?_
  rintro _ _ ⟨a_r2, rfl, rfl⟩
  refine go_p rfl rfl rfl (o_assign rfl) ?_
  refine go_p rfl rfl rfl (o_assign rfl) ?_
  refine go_nil ?_
  refine g_seq ?_
  refine g_seq ?_
  refine g_region ?_
  refine go_p rfl rfl rfl (o_assign rfl) ?_
  refine go_nil ?_
  obtain ⟨o_1, hj1, hm1⟩ := bind_some hm
  refine g_cut_m [(2, _), (3, _)] [(2, _), (3, _)] (fun (st : ((List Int) × (List Int))) (hid : (Option Addr × Nat) × (Option Addr × Nat)) => match st, hid with | (l1, l2), ((a_r2, cap_r2), (a_r1, cap_r1)) => [(4, .v (.slice a_r1 l2.length cap_r1)), (5, .v (.slice a_r2 l1.length cap_r2))]) (fun F (st : ((List Int) × (List Int))) (hid : (Option Addr × Nat) × (Option Addr × Nat)) => match st, hid with | (l1, l2), ((a_r2, cap_r2), (a_r1, cap_r1)) => [row a_r2 cap_r2 3 1 D.i64 l1, row a_r1 cap_r1 3 1 D.i64 l2, (nthF F 0), (nthF F 1)]) (fun st => st = o_1) ⟨rfl, rfl, trivial⟩ ⟨rfl, rfl, trivial⟩ ?_ ?_
  · skip
    refine g_block ?_
    refine g_loop_m [(2, _), (3, _)] [(2, _), (3, _)] (fun (st : (Int × (List Int) × (List Int))) (hid : (Option Addr × Nat) × (Option Addr × Nat)) => match st, hid with | (i1, l3, l4), ((a_r2, cap_r2), (a_r1, cap_r1)) => [(4, .v (.slice a_r1 l4.length cap_r1)), (5, .v (.slice a_r2 l3.length cap_r2)), (6, .i64 i1)]) (fun F (st : (Int × (List Int) × (List Int))) (hid : (Option Addr × Nat) × (Option Addr × Nat)) => match st, hid with | (i1, l3, l4), ((a_r2, cap_r2), (a_r1, cap_r1)) => [row a_r2 cap_r2 3 1 D.i64 l3, row a_r1 cap_r1 3 1 D.i64 l4, (nthF F 0), (nthF F 1)]) ((_, _), (_, _)) hj1 (fun _ => rfl) ⟨rfl, rfl, trivial⟩ ⟨rfl, rfl, trivial⟩ ⟨rfl, rfl, rfl, trivial⟩ rfl ?_
    rintro n ⟨i1, l3, l4⟩ ⟨⟨a_r2, cap_r2⟩, ⟨a_r1, cap_r1⟩⟩ hj1
    rw [m_syntagmaref28_Rename_l1] at hj1
    refine g_norm (L' := [(4, .v (.slice a_r1 l4.length cap_r1)), (5, .v (.slice a_r2 l3.length cap_r2)), (6, .i64 i1), (2, _), (3, _)]) (ms' := [row a_r2 cap_r2 3 1 D.i64 l3, row a_r1 cap_r1 3 1 D.i64 l4, _, _]) rfl rfl ?_
    refine g_seq ?_
    refine g_seq ?_
    refine g_region ?_
    refine go_p rfl rfl rfl (o_move rfl) ?_
    refine go_p rfl rfl rfl (o_fieldAddr_box fi_74_0 rfl) ?_
    refine go_p rfl rfl rfl (o_load_box 2 Try.isAgg72 rfl rfl rfl rfl) ?_
    refine go_p rfl rfl rfl (o_len Try.runUnderlying72 rfl) ?_
    refine go_p rfl rfl rfl (o_cmp rfl rfl rfl) ?_
    refine go_nil ?_
    refine g_cond rfl (fun hc1 => ?_) (fun hc1 => ?_)
    · replace hj1 := cond_t hc1 hj1
      refine g_skip ?_
      refine g_seq ?_
      refine g_block ?_
      refine g_seq ?_
      refine g_region ?_
      refine go_p rfl rfl rfl (o_assign rfl) ?_
      refine go_nil ?_
      obtain ⟨o_2, hj2, hm2⟩ := bind_some hj1
      refine g_cut_m [(2, _), (3, _), (6, _)] [(2, _), (3, _)] (fun (st : ((List Int) × (List Int))) (hid : (Option Addr × Nat) × (Option Addr × Nat)) => match st, hid with | (l5, l6), ((a_r2, cap_r2), (a_r1, cap_r1)) => [(4, .v (.slice a_r1 l6.length cap_r1)), (5, .v (.slice a_r2 l5.length cap_r2))]) (fun F (st : ((List Int) × (List Int))) (hid : (Option Addr × Nat) × (Option Addr × Nat)) => match st, hid with | (l5, l6), ((a_r2, cap_r2), (a_r1, cap_r1)) => [row a_r2 cap_r2 3 1 D.i64 l5, row a_r1 cap_r1 3 1 D.i64 l6, (nthF F 0), (nthF F 1)]) (fun st => st = o_2) ⟨rfl, rfl, rfl, trivial⟩ ⟨rfl, rfl, trivial⟩ ?_ ?_
      · skip
        refine g_block ?_
        refine g_loop_m [(2, _), (3, _), (6, _)] [(2, _), (3, _)] (fun (st : (Int × (List Int) × (List Int))) (hid : (Option Addr × Nat) × (Option Addr × Nat)) => match st, hid with | (k1, l7, l8), ((a_r2, cap_r2), (a_r1, cap_r1)) => [(4, .v (.slice a_r1 l8.length cap_r1)), (5, .v (.slice a_r2 l7.length cap_r2)), (7, .i64 k1)]) (fun F (st : (Int × (List Int) × (List Int))) (hid : (Option Addr × Nat) × (Option Addr × Nat)) => match st, hid with | (k1, l7, l8), ((a_r2, cap_r2), (a_r1, cap_r1)) => [row a_r2 cap_r2 3 1 D.i64 l7, row a_r1 cap_r1 3 1 D.i64 l8, (nthF F 0), (nthF F 1)]) ((_, _), (_, _)) hj2 (fun _ => rfl) ⟨rfl, rfl, rfl, trivial⟩ ⟨rfl, rfl, trivial⟩ ⟨rfl, rfl, rfl, trivial⟩ rfl ?_
        rintro n ⟨k1, l7, l8⟩ ⟨⟨a_r2, cap_r2⟩, ⟨a_r1, cap_r1⟩⟩ hj2
        rw [m_syntagmaref28_Rename_l2] at hj2
        refine g_norm (L' := [(4, .v (.slice a_r1 l8.length cap_r1)), (5, .v (.slice a_r2 l7.length cap_r2)), (7, .i64 k1), (2, _), (3, _), (6, _)]) (ms' := [row a_r2 cap_r2 3 1 D.i64 l7, row a_r1 cap_r1 3 1 D.i64 l8, _, _]) rfl rfl ?_
        refine g_seq ?_
        refine g_seq ?_
        refine g_region ?_
        refine go_p rfl rfl rfl (o_move rfl) ?_
        refine go_p rfl rfl rfl (o_fieldAddr_box fi_74_0 rfl) ?_
        refine go_p rfl rfl rfl (o_load_box 2 Try.isAgg72 rfl rfl rfl rfl) ?_
        refine go_p rfl rfl rfl (o_move rfl) ?_
        obtain ⟨x2, hx2, hj2⟩ := bind_some hj2
        refine go_p rfl rfl rfl (o_indexAddr_m Try.runUnderlying72 Try.sizeOf132 rfl rfl hx2) ?_
        refine go_p rfl rfl rfl (o_fieldAddr fi_132_8 rfl rfl rfl) ?_
        refine go_p rfl rfl rfl (o_load Try.isAgg28 rfl rfl) ?_
        refine go_p rfl rfl rfl (o_len Try.runUnderlying28 rfl) ?_
        refine go_p rfl rfl rfl (o_cmp rfl rfl rfl) ?_
        refine go_nil ?_
        refine g_cond rfl (fun hc2 => ?_) (fun hc2 => ?_)
        · replace hj2 := cond_t hc2 hj2
          refine g_skip ?_
          refine g_seq ?_
          refine g_block ?_
          refine g_seq ?_
          refine g_region ?_
          refine go_p rfl rfl rfl (o_move rfl) ?_
          refine go_p rfl rfl rfl (o_fieldAddr_box fi_74_0 rfl) ?_
          refine go_p rfl rfl rfl (o_load_box 2 Try.isAgg72 rfl rfl rfl rfl) ?_
          refine go_p rfl rfl rfl (o_move rfl) ?_
          obtain ⟨x3, hx3, hj2⟩ := bind_some hj2
          refine go_p rfl rfl rfl (o_indexAddr_m Try.runUnderlying72 Try.sizeOf132 rfl rfl hx3) ?_
          refine go_p rfl rfl rfl (o_fieldAddr fi_132_8 rfl rfl rfl) ?_
          refine go_p rfl rfl rfl (o_load Try.isAgg28 rfl rfl) ?_
          refine go_p rfl rfl rfl (o_move rfl) ?_
          obtain ⟨x4, hx4, hj2⟩ := bind_some hj2
          refine go_p rfl rfl rfl (o_indexAddr_m Try.runUnderlying28 Try.sizeOf3 rfl rfl hx4) ?_
          refine go_p rfl rfl rfl (o_load Try.isAgg3 rfl rfl) ?_
          obtain ⟨x5, hx5, hj2⟩ := bind_some hj2
          refine go_p rfl rfl rfl (.view (peekE (i := 30) 1 rfl rfl rfl) (o_call0 Try.call97 rfl (w_syntagmabase_HasInt hx5))) ?_
          refine go_p rfl rfl rfl (o_not rfl) ?_
          refine go_nil ?_
          refine g_cond rfl (fun hc3 => ?_) (fun hc3 => ?_)
          · replace hj2 := cond_t hc3 hj2
            refine g_seq ?_
            refine g_region ?_
            refine go_p rfl rfl rfl (o_move rfl) ?_
            refine go_p rfl rfl rfl (o_fieldAddr_box fi_74_0 rfl) ?_
            refine go_p rfl rfl rfl (o_load_box 2 Try.isAgg72 rfl rfl rfl rfl) ?_
            refine go_p rfl rfl rfl (o_move rfl) ?_
            obtain ⟨x6, hx6, hj2⟩ := bind_some hj2
            refine go_p rfl rfl rfl (o_indexAddr_m Try.runUnderlying72 Try.sizeOf132 rfl rfl hx6) ?_
            refine go_p rfl rfl rfl (o_fieldAddr fi_132_8 rfl rfl rfl) ?_
            refine go_p rfl rfl rfl (o_load Try.isAgg28 rfl rfl) ?_
            refine go_p rfl rfl rfl (o_move rfl) ?_
            obtain ⟨x7, hx7, hj2⟩ := bind_some hj2
            refine go_p rfl rfl rfl (o_indexAddr_m Try.runUnderlying28 Try.sizeOf3 rfl rfl hx7) ?_
            refine go_p rfl rfl rfl (o_load Try.isAgg3 rfl rfl) ?_
            refine go_p rfl rfl rfl (o_buildSlice (xs := [_]) (f := D.i64) (l := [_]) Try.runUnderlying28 Try.sizeOf3 Try.zeroValue3 rfl rfl rfl (fun _ => ⟨rfl, rfl, rfl⟩) rfl) ?_
            obtain ⟨hg8, hj2⟩ := grd_some hj2
            refine go_op rfl rfl rfl (o_append (a := _) 1 Try.underlying28 Try.type3 rfl rfl rfl rfl rfl rfl rfl (fun _ => rfl) (fun _ => rfl) hg8 (app_len hg8 rfl)) ?_
            rintro _ _ ⟨a_r1, cap_r1, rfl, rfl⟩
            refine go_ms (ms' := [_, _, box b2 74 [_, _], box b1 74 [_, _]]) rfl ?_
            refine go_p rfl rfl rfl (o_assign rfl) ?_
            refine go_nil ?_
            refine g_region ?_
            refine go_p rfl rfl rfl (o_move rfl) ?_
            refine go_p rfl rfl rfl (o_move rfl) ?_
            refine go_p rfl rfl rfl (.view (peekE (i := 55) 0 rfl rfl rfl) (o_len Try.runUnderlying28 rfl)) ?_
            refine go_p rfl rfl rfl (o_buildSlice (xs := [_]) (f := D.i64) (l := [_]) Try.runUnderlying28 Try.sizeOf3 Try.zeroValue3 rfl rfl rfl (fun _ => ⟨rfl, rfl, rfl⟩) rfl) ?_
            obtain ⟨hg9, hj2⟩ := grd_some hj2
            refine go_op rfl rfl rfl (o_append (a := _) 0 Try.underlying28 Try.type3 rfl rfl rfl rfl rfl rfl rfl (fun _ => rfl) (fun _ => rfl) hg9 (app_len hg9 rfl)) ?_
            rintro _ _ ⟨a_r2, cap_r2, rfl, rfl⟩
            refine go_ms (ms' := [_, _, box b2 74 [_, _], box b1 74 [_, _]]) rfl ?_
            refine go_p rfl rfl rfl (o_assign rfl) ?_
            refine go_nil ?_
            refine g_region ?_
            refine go_p rfl rfl rfl (o_move rfl) ?_
            obtain ⟨hg10, hj2⟩ := grd_some hj2
            refine go_p rfl rfl rfl (o_add rfl rfl (i64_id hg10)) ?_
            refine go_p rfl rfl rfl (o_assign rfl) ?_
            refine go_nil ?_
            exact ⟨_, ((_, _), (_, _)), hj2, ⟨rfl, rfl, rfl, trivial⟩, ⟨rfl, rfl, rfl, trivial⟩, [], rfl⟩
          · replace hj2 := cond_f hc3 hj2
            refine g_skip ?_
            refine g_region ?_
            refine go_p rfl rfl rfl (o_move rfl) ?_
            obtain ⟨hg11, hj2⟩ := grd_some hj2
            refine go_p rfl rfl rfl (o_add rfl rfl (i64_id hg11)) ?_
            refine go_p rfl rfl rfl (o_assign rfl) ?_
            refine go_nil ?_
            exact ⟨_, ((_, _), (_, _)), hj2, ⟨rfl, rfl, rfl, trivial⟩, ⟨rfl, rfl, rfl, trivial⟩, [], rfl⟩
        · replace hj2 := cond_f hc2 hj2
          refine g_exit ?_
          exact ⟨_, ((_, _), (_, _)), some_eq hj2, ⟨rfl, rfl, trivial⟩, ⟨rfl, rfl, rfl, trivial⟩, [], rfl⟩
      · rintro ⟨l5, l6⟩ ⟨⟨a_r2, cap_r2⟩, ⟨a_r1, cap_r1⟩⟩ hst
        subst hst
        refine k_norm (L' := [(4, .v (.slice a_r1 l6.length cap_r1)), (5, .v (.slice a_r2 l5.length cap_r2)), (2, _), (3, _), (6, _)]) (ms' := [row a_r2 cap_r2 3 1 D.i64 l5, row a_r1 cap_r1 3 1 D.i64 l6, _, _]) rfl rfl ?_
        refine g_region ?_
        refine go_p rfl rfl rfl (o_move rfl) ?_
        obtain ⟨hg12, hm2⟩ := grd_some hm2
        refine go_p rfl rfl rfl (o_add rfl rfl (i64_id hg12)) ?_
        refine go_p rfl rfl rfl (o_assign rfl) ?_
        refine go_nil ?_
        exact ⟨_, ((_, _), (_, _)), hm2, ⟨rfl, rfl, rfl, trivial⟩, ⟨rfl, rfl, trivial⟩, [], rfl⟩
    · replace hj1 := cond_f hc1 hj1
      refine g_exit ?_
      exact ⟨_, ((_, _), (_, _)), some_eq hj1, ⟨rfl, rfl, trivial⟩, ⟨rfl, rfl, trivial⟩, [], rfl⟩
  · rintro ⟨l1, l2⟩ ⟨⟨a_r2, cap_r2⟩, ⟨a_r1, cap_r1⟩⟩ hst
    subst hst
    refine k_norm (L' := [(4, .v (.slice a_r1 l2.length cap_r1)), (5, .v (.slice a_r2 l1.length cap_r2)), (2, _), (3, _)]) (ms' := [row a_r2 cap_r2 3 1 D.i64 l1, row a_r1 cap_r1 3 1 D.i64 l2, _, _]) rfl rfl ?_
    refine g_seq ?_
    refine g_region ?_
    refine go_p rfl rfl rfl (o_load_box_agg 2 Try.isAgg74 Try.sizeOf74 rfl rfl rfl rfl (Nat.le_of_ble_eq_true rfl)) ?_
    refine go_p rfl rfl rfl (o_move rfl) ?_
    refine go_p rfl rfl rfl (o_move rfl) ?_
    obtain ⟨x8, hx13, hm1⟩ := bind_some hm1
    refine go_p rfl rfl rfl (.view (peekE (i := 60) 1 rfl rfl rfl) (.view (peekE (i := 61) 0 rfl rfl rfl) (o_call0 Try.call101 rfl (w_syntagmaref28_With hx13)))) ?_
    refine go_u rfl rfl (o_store_box 3 Try.sizeOf74 rfl rfl rfl rfl rfl rfl rfl rfl (Nat.le_of_ble_eq_true rfl)) ?_
    rintro _ _ rfl
    refine go_ms (ms' := [_, _, box b2 74 [_, _], box b1 74 [_, _]]) rfl ?_
    refine go_nil ?_
    refine g_ret ?_
    exact retK (ret_one' rfl (ret_cell 3 rfl rfl rfl Try.isAgg74 Try.sizeOf74 rfl) (perm_drop _)) (congrArg (fun (p : AutoAuto) => (AutoAuto.d p : D)) (some_eq hm1))
theorem fi_90_0 : FieldIs Try.prog 90 0 0 1 false := ⟨⟨_, _, Try.runUnderlying90, rfl, rfl, Try.sizeOf3, by decide, Try.isAgg3⟩⟩
theorem fi_90_1 : FieldIs Try.prog 90 1 1 1 false := ⟨⟨_, _, Try.runUnderlying90, rfl, rfl, Try.sizeOf3, by decide, Try.isAgg3⟩⟩
noncomputable def m_syntagmalaw28_VarsTells_l1 (x2 : (List VarsUse)) (x13 : AutoAuto) (x14 : (List Int)) : Nat → Int → Option (Out Bool Unit)
  | 0, _ => none
  | n + 1, i1 =>
    bif (decide (i1 < (x14.length : Int))) then
      (idx x14 i1).bind fun x15 =>
      (m_syntagmaref28_On (⟨x13.l, x13.start⟩ : AutoAuto) x15 true).bind fun x16 =>
      (bif x16 then
        some 1
      else
        some 0 : Option Int).bind fun side1 =>
      (idx x14 i1).bind fun x17 =>
      (m_syntagmaref28_On (⟨x13.l, x13.start⟩ : AutoAuto) x17 false).bind fun x18 =>
      (bif x18 then
        grd (InR (side1 + 2)) <|
        some (side1 + 2)
      else
        some side1 : Option Int).bind fun side2 =>
      (idx x2 i1).bind fun x19 =>
      (idx x14 i1).bind fun x20 =>
      bif (!decide (x19.var = x20)) then (some (Out.ret false)) else ((idx x2 i1).bind fun x21 =>
      bif (!decide (x21.side = side2)) then
        some (Out.ret false)
      else
        grd (InR (i1 + 1)) <|
        m_syntagmalaw28_VarsTells_l1 x2 x13 x14 n (i1 + 1))
    else
      some (Out.go (()))
noncomputable def m_syntagmalaw28_VarsTells (a1 : AutoAuto) : Option Bool :=
  (m_syntagmalaw24_Give a1 14).bind fun x1 =>
  (m_vars_Sides (⟨x1.l, x1.start⟩ : AutoAuto)).bind fun (x2, x3) =>
  (m_syntagmalaw24_Give a1 14).bind fun x4 =>
  (m_vars_Drop x4).bind fun (x5, x6) =>
  (m_syntagmalaw24_Give a1 14).bind fun x7 =>
  (m_vars_Rename x7).bind fun (x8, x9) =>
  (m_syntagmalaw24_Of (⟨x1.l, x1.start⟩ : AutoAuto)).bind fun x10 =>
  (m_syntagmaref24_May (⟨x10.l, x10.start⟩ : AutoAuto)).bind fun x11 =>
  bif (!decide (x11 = 0)) then
    (bif (((decide (x3 = x11)) && (decide (x6 = x11))) && (decide (x9 = x11))) then (grd (InR ((x2.length : Int) + (x5.l.length : Int))) <|
    grd (InR (((x2.length : Int) + (x5.l.length : Int)) + (x8.l.length : Int))) <|
    some (decide ((((x2.length : Int) + (x5.l.length : Int)) + (x8.l.length : Int)) = 0))) else (some false)).bind fun p1 =>
    (bif p1 then ((m_syntagmalaw28_works).bind fun x12 =>
    some x12) else (some false)).bind fun p2 =>
    some p2
  else
    (m_syntagmaref24_Norm (⟨x10.l, x10.start⟩ : AutoAuto)).bind fun x13 =>
    (m_syntagmaref28_All (⟨x13.l, x13.start⟩ : AutoAuto)).bind fun x14 =>
    bif ((((!decide (x3 = 0)) || (!decide (x6 = 0))) || (!decide (x9 = 0))) || (!decide ((x2.length : Int) = (x14.length : Int)))) then
      some false
    else
      ((m_syntagmalaw28_VarsTells_l1 x2 x13 x14 FU 0 : Option (Out Bool Unit))).bind (fun oo => oo.on (fun r1 => some r1) (fun _ =>
      (m_syntagmalaw24_Of (⟨x5.l, x5.start⟩ : AutoAuto)).bind fun x22 =>
      (m_syntagmaref28_Drop (⟨x10.l, x10.start⟩ : AutoAuto)).bind fun x23 =>
      (m_syntagmaref24_SameList x22 x23).bind fun x24 =>
      bif x24 then ((m_syntagmalaw24_Of (⟨x8.l, x8.start⟩ : AutoAuto)).bind fun x25 =>
      (m_syntagmaref28_Rename (⟨x10.l, x10.start⟩ : AutoAuto)).bind fun x26 =>
      (m_syntagmaref24_SameList x25 x26).bind fun x27 =>
      bif x27 then ((m_syntagmalaw28_works).bind fun x28 =>
      some x28) else (some false)) else (some false)))
theorem w_syntagmalaw28_VarsTells {a1 : AutoAuto} {r_1 : Bool} (hm : m_syntagmalaw28_VarsTells a1 = some r_1) : Fn0 Try.prog 10 [AutoAuto.d a1] (.bool r_1) := by
  unfold m_syntagmalaw28_VarsTells at hm
  refine fn_intro Try.func10 rfl Try.ntmps10 rfl fun H0 fr w0 => ?_
  refine g_seq ?_
  refine g_region ?_
  refine go_p rfl rfl rfl (o_box rfl rfl) ?_
  refine go_p rfl rfl rfl (o_assign rfl) ?_
  refine go_nil ?_
  refine g_seq ?_
  refine g_region ?_
  refine go_p rfl rfl rfl (o_load_agg Try.isAgg74 Try.sizeOf74 rfl rfl) ?_
  obtain ⟨x1, hx1, hm⟩ := bind_some hm
  refine go_p rfl rfl rfl (o_call0 Try.call46 rfl (w_syntagmalaw24_Give hx1)) ?_
  refine go_op rfl rfl rfl (o_alloc_own Try.zeroValue77 (cs := [.list 13 AutoState.d [], .i64 0]) rfl) ?_
  rintro _ _ ⟨b1, rfl, rfl⟩
  refine go_u rfl rfl (o_store_box 0 Try.sizeOf77 rfl rfl rfl rfl rfl rfl rfl rfl (Nat.le_of_ble_eq_true rfl)) ?_
  rintro _ _ rfl
  refine go_ms (ms' := [box b1 77 [_, _]]) rfl ?_
  refine go_nil ?_
  refine g_seq ?_
  refine g_region ?_
  refine go_p rfl rfl rfl (o_load_box_agg 0 Try.isAgg77 Try.sizeOf77 rfl rfl rfl rfl (Nat.le_of_ble_eq_true rfl)) ?_
  obtain ⟨⟨x2, x3⟩, hx2, hm⟩ := bind_some hm
  refine go_p rfl rfl rfl (o_call0 Try.call47 rfl (w_vars_Sides hx2)) ?_
  refine go_p rfl rfl rfl (o_move rfl) ?_
  refine go_p rfl rfl rfl (o_extract rfl rfl) ?_
  refine go_p rfl rfl rfl (o_extract rfl rfl) ?_
  refine go_p rfl rfl rfl (o_assign rfl) ?_
  refine go_p rfl rfl rfl (o_assign rfl) ?_
  refine go_nil ?_
  refine g_seq ?_
  refine g_region ?_
  refine go_p rfl rfl rfl (o_load_agg Try.isAgg74 Try.sizeOf74 rfl rfl) ?_
  obtain ⟨x4, hx3, hm⟩ := bind_some hm
  refine go_p rfl rfl rfl (o_call0 Try.call46 rfl (w_syntagmalaw24_Give hx3)) ?_
  obtain ⟨⟨x5, x6⟩, hx4, hm⟩ := bind_some hm
  refine go_p rfl rfl rfl (o_call0 Try.call48 rfl (w_vars_Drop hx4)) ?_
  refine go_p rfl rfl rfl (o_move rfl) ?_
  refine go_p rfl rfl rfl (o_extract rfl rfl) ?_
  refine go_p rfl rfl rfl (o_extract rfl rfl) ?_
  refine go_op rfl rfl rfl (o_alloc_own Try.zeroValue77 (cs := [.list 13 AutoState.d [], .i64 0]) rfl) ?_
  rintro _ _ ⟨b2, rfl, rfl⟩
  refine go_u rfl rfl (o_store_box 0 Try.sizeOf77 rfl rfl rfl rfl rfl rfl rfl rfl (Nat.le_of_ble_eq_true rfl)) ?_
  rintro _ _ rfl
  refine go_ms (ms' := [box b2 77 [_, _], box b1 77 [_, _]]) rfl ?_
  refine go_p rfl rfl rfl (o_assign rfl) ?_
  refine go_nil ?_
  refine g_seq ?_
  refine g_region ?_
  refine go_p rfl rfl rfl (o_load_agg Try.isAgg74 Try.sizeOf74 rfl rfl) ?_
  obtain ⟨x7, hx5, hm⟩ := bind_some hm
  refine go_p rfl rfl rfl (o_call0 Try.call46 rfl (w_syntagmalaw24_Give hx5)) ?_
  obtain ⟨⟨x8, x9⟩, hx6, hm⟩ := bind_some hm
  refine go_p rfl rfl rfl (o_call0 Try.call49 rfl (w_vars_Rename hx6)) ?_
  refine go_p rfl rfl rfl (o_move rfl) ?_
  refine go_p rfl rfl rfl (o_extract rfl rfl) ?_
  refine go_p rfl rfl rfl (o_extract rfl rfl) ?_
  refine go_op rfl rfl rfl (o_alloc_own Try.zeroValue77 (cs := [.list 13 AutoState.d [], .i64 0]) rfl) ?_
  rintro _ _ ⟨b3, rfl, rfl⟩
  refine go_u rfl rfl (o_store_box 0 Try.sizeOf77 rfl rfl rfl rfl rfl rfl rfl rfl (Nat.le_of_ble_eq_true rfl)) ?_
  rintro _ _ rfl
  refine go_ms (ms' := [box b3 77 [_, _], box b2 77 [_, _], box b1 77 [_, _]]) rfl ?_
  refine go_p rfl rfl rfl (o_assign rfl) ?_
  refine go_nil ?_
  refine g_seq ?_
  refine g_region ?_
  refine go_p rfl rfl rfl (o_load_box_agg 2 Try.isAgg77 Try.sizeOf77 rfl rfl rfl rfl (Nat.le_of_ble_eq_true rfl)) ?_
  obtain ⟨x10, hx7, hm⟩ := bind_some hm
  refine go_p rfl rfl rfl (o_call0 Try.call50 rfl (w_syntagmalaw24_Of hx7)) ?_
  refine go_op rfl rfl rfl (o_alloc_own Try.zeroValue74 (cs := [.list 13 AutoState.d [], .i64 0]) rfl) ?_
  rintro _ _ ⟨b4, rfl, rfl⟩
  refine go_u rfl rfl (o_store_box 0 Try.sizeOf74 rfl rfl rfl rfl rfl rfl rfl rfl (Nat.le_of_ble_eq_true rfl)) ?_
  rintro _ _ rfl
  refine go_ms (ms' := [box b4 74 [_, _], box b3 77 [_, _], box b2 77 [_, _], box b1 77 [_, _]]) rfl ?_
  refine go_nil ?_
  refine g_seq ?_
  refine g_seq ?_
  refine g_region ?_
  refine go_p rfl rfl rfl (o_load_box_agg 0 Try.isAgg74 Try.sizeOf74 rfl rfl rfl rfl (Nat.le_of_ble_eq_true rfl)) ?_
  obtain ⟨x11, hx8, hm⟩ := bind_some hm
  refine go_p rfl rfl rfl (o_call0 Try.call51 rfl (w_syntagmaref24_May hx8)) ?_
  refine go_p rfl rfl rfl (o_assign rfl) ?_
  refine go_nil ?_
  refine g_seq ?_
  refine g_region ?_
  refine go_p rfl rfl rfl (o_move rfl) ?_
  refine go_p rfl rfl rfl (o_cmp rfl rfl rfl) ?_
  refine go_nil ?_
  refine g_cond rfl (fun hc1 => ?_) (fun hc1 => ?_)
  · replace hm := cond_t hc1 hm
    refine g_seq ?_
    refine g_region ?_
    refine go_p rfl rfl rfl (o_move rfl) ?_
    refine go_p rfl rfl rfl (o_move rfl) ?_
    refine go_p rfl rfl rfl (o_cmp rfl rfl rfl) ?_
    refine go_p rfl rfl rfl (o_move rfl) ?_
    apply go_and [(4, _), (6, _), (8, _), (9, _), (11, _)] 4 48 (t := 44) ⟨rfl, rfl, rfl, rfl, rfl, trivial⟩ rfl
    · intro hg_1 hk1
      refine go_wantp rfl rfl rfl hg_1 rfl rfl (o_move rfl) ?_
      refine go_wantp rfl rfl rfl hg_1 rfl rfl (o_move rfl) ?_
      refine go_wantp rfl rfl rfl hg_1 rfl rfl (o_cmp rfl rfl rfl) ?_
      refine go_p rfl rfl rfl (o_pickT rfl hg_1 rfl) ?_
      exact go_meet hk1 (rfl) ⟨rfl, rfl, rfl, rfl, rfl, trivial⟩
    · intro hg_1 hk1
      refine go_skip rfl rfl rfl hg_1 rfl rfl ?_
      refine go_skip rfl rfl rfl hg_1 rfl rfl ?_
      refine go_skip rfl rfl rfl hg_1 rfl rfl ?_
      refine go_p rfl rfl rfl (o_pickF rfl hg_1 rfl) ?_
      exact go_meet hk1 (rfl) ⟨rfl, rfl, rfl, rfl, rfl, trivial⟩
    refine go_p rfl rfl rfl (o_move rfl) ?_
    apply go_and [(4, _), (6, _), (8, _)] 4 53 (t := 49) ⟨rfl, rfl, rfl, trivial⟩ rfl
    · intro hg_2 hk2
      refine go_wantp rfl rfl rfl hg_2 rfl rfl (o_move rfl) ?_
      refine go_wantp rfl rfl rfl hg_2 rfl rfl (o_move rfl) ?_
      refine go_wantp rfl rfl rfl hg_2 rfl rfl (o_cmp rfl rfl rfl) ?_
      refine go_p rfl rfl rfl (o_pickT rfl hg_2 rfl) ?_
      exact go_meet hk2 (rfl) ⟨rfl, rfl, rfl, trivial⟩
    · intro hg_2 hk2
      refine go_skip rfl rfl rfl hg_2 rfl rfl ?_
      refine go_skip rfl rfl rfl hg_2 rfl rfl ?_
      refine go_skip rfl rfl rfl hg_2 rfl rfl ?_
      refine go_p rfl rfl rfl (o_pickF rfl hg_2 rfl) ?_
      exact go_meet hk2 (rfl) ⟨rfl, rfl, rfl, trivial⟩
    refine go_p rfl rfl rfl (o_move rfl) ?_
    obtain ⟨p1, hp_3, hm⟩ := bind_some hm
    refine go_two [] 12 66 p1 (t := 54) trivial rfl (fun hg_3 hk3 => ?_) (fun hg_3 hk3 => ?_) ?_
    · replace hp_3 := cond_t hg_3 hp_3
      refine go_wantp rfl rfl rfl hg_3 rfl rfl (o_move rfl) ?_
      refine go_wantp rfl rfl rfl hg_3 rfl rfl (o_len Try.runUnderlying79 rfl) ?_
      refine go_wantp rfl rfl rfl hg_3 rfl rfl (o_fieldAddr_box fi_77_0 rfl) ?_
      refine go_wantp rfl rfl rfl hg_3 rfl rfl (o_load_box 2 Try.isAgg75 rfl rfl rfl rfl) ?_
      refine go_wantp rfl rfl rfl hg_3 rfl rfl (o_len Try.runUnderlying75 rfl) ?_
      obtain ⟨hg9, hp_3⟩ := grd_some hp_3
      refine go_wantp rfl rfl rfl hg_3 rfl rfl (o_add rfl rfl (i64_id hg9)) ?_
      refine go_wantp rfl rfl rfl hg_3 rfl rfl (o_fieldAddr_box fi_77_0 rfl) ?_
      refine go_wantp rfl rfl rfl hg_3 rfl rfl (o_load_box 1 Try.isAgg75 rfl rfl rfl rfl) ?_
      refine go_wantp rfl rfl rfl hg_3 rfl rfl (o_len Try.runUnderlying75 rfl) ?_
      obtain ⟨hg10, hp_3⟩ := grd_some hp_3
      refine go_wantp rfl rfl rfl hg_3 rfl rfl (o_add rfl rfl (i64_id hg10)) ?_
      refine go_wantp rfl rfl rfl hg_3 rfl rfl (o_cmp rfl rfl rfl) ?_
      refine go_p rfl rfl rfl (o_pickT rfl hg_3 rfl) ?_
      exact go_meet hk3 (congrArg (fun b => some (D.bool b)) (some_eq hp_3)) trivial
    · replace hp_3 := cond_f hg_3 hp_3
      refine go_skip rfl rfl rfl hg_3 rfl rfl ?_
      refine go_skip rfl rfl rfl hg_3 rfl rfl ?_
      refine go_skip rfl rfl rfl hg_3 rfl rfl ?_
      refine go_skip rfl rfl rfl hg_3 rfl rfl ?_
      refine go_skip rfl rfl rfl hg_3 rfl rfl ?_
      refine go_skip rfl rfl rfl hg_3 rfl rfl ?_
      refine go_skip rfl rfl rfl hg_3 rfl rfl ?_
      refine go_skip rfl rfl rfl hg_3 rfl rfl ?_
      refine go_skip rfl rfl rfl hg_3 rfl rfl ?_
      refine go_skip rfl rfl rfl hg_3 rfl rfl ?_
      refine go_skip rfl rfl rfl hg_3 rfl rfl ?_
      refine go_p rfl rfl rfl (o_pickF rfl hg_3 rfl) ?_
      exact go_meet hk3 (congrArg (fun b => some (D.bool b)) (some_eq hp_3)) trivial
    refine go_p rfl rfl rfl (o_move rfl) ?_
    obtain ⟨p2, hp_4, hm⟩ := bind_some hm
    refine go_two [] 2 69 p2 (t := 67) trivial rfl (fun hg_4 hk4 => ?_) (fun hg_4 hk4 => ?_) ?_
    · replace hp_4 := cond_t hg_4 hp_4
      obtain ⟨x12, hx11, hp_4⟩ := bind_some hp_4
      refine go_wantp rfl rfl rfl hg_4 rfl rfl (o_call0 Try.call52 rfl (w_syntagmalaw28_works hx11)) ?_
      refine go_p rfl rfl rfl (o_pickT rfl hg_4 rfl) ?_
      exact go_meet hk4 (congrArg (fun b => some (D.bool b)) (some_eq hp_4)) trivial
    · replace hp_4 := cond_f hg_4 hp_4
      refine go_skip rfl rfl rfl hg_4 rfl rfl ?_
      refine go_p rfl rfl rfl (o_pickF rfl hg_4 rfl) ?_
      exact go_meet hk4 (congrArg (fun b => some (D.bool b)) (some_eq hp_4)) trivial
    refine go_p rfl rfl rfl (o_assign rfl) ?_
    refine go_nil ?_
    refine g_ret ?_
    exact retK (ret_one' rfl (ret_tmp rfl) (perm_drop _)) (congrArg (fun (p : Bool) => (.bool p : D)) (some_eq hm))
  · replace hm := cond_f hc1 hm
    refine g_skip ?_
    refine g_seq ?_
    refine g_region ?_
    refine go_p rfl rfl rfl (o_load_box_agg 0 Try.isAgg74 Try.sizeOf74 rfl rfl rfl rfl (Nat.le_of_ble_eq_true rfl)) ?_
    obtain ⟨x13, hx12, hm⟩ := bind_some hm
    refine go_p rfl rfl rfl (o_call0 Try.call53 rfl (w_syntagmaref24_Norm hx12)) ?_
    refine go_op rfl rfl rfl (o_alloc_own Try.zeroValue74 (cs := [.list 13 AutoState.d [], .i64 0]) rfl) ?_
    rintro _ _ ⟨b5, rfl, rfl⟩
    refine go_u rfl rfl (o_store_box 0 Try.sizeOf74 rfl rfl rfl rfl rfl rfl rfl rfl (Nat.le_of_ble_eq_true rfl)) ?_
    rintro _ _ rfl
    refine go_ms (ms' := [box b5 74 [_, _], box b4 74 [_, _], box b3 77 [_, _], box b2 77 [_, _], box b1 77 [_, _]]) rfl ?_
    refine go_nil ?_
    refine g_seq ?_
    refine g_region ?_
    refine go_p rfl rfl rfl (o_load_box_agg 0 Try.isAgg74 Try.sizeOf74 rfl rfl rfl rfl (Nat.le_of_ble_eq_true rfl)) ?_
    obtain ⟨x14, hx13, hm⟩ := bind_some hm
    refine go_p rfl rfl rfl (o_call0 Try.call54 rfl (w_syntagmaref28_All hx13)) ?_
    refine go_p rfl rfl rfl (o_assign rfl) ?_
    refine go_nil ?_
    refine g_seq ?_
    refine g_seq ?_
    refine g_region ?_
    refine go_p rfl rfl rfl (o_move rfl) ?_
    refine go_p rfl rfl rfl (o_cmp rfl rfl rfl) ?_
    refine go_p rfl rfl rfl (o_move rfl) ?_
    apply go_or [(4, _), (6, _), (8, _), (9, _), (10, _), (12, _), (13, _)] 3 79 (t := 76) ⟨rfl, rfl, rfl, rfl, rfl, rfl, rfl, trivial⟩ rfl
    · intro hg_5 hk5
      refine go_wantp rfl rfl rfl hg_5 rfl rfl (o_move rfl) ?_
      refine go_wantp rfl rfl rfl hg_5 rfl rfl (o_cmp rfl rfl rfl) ?_
      refine go_p rfl rfl rfl (o_pickF rfl hg_5 rfl) ?_
      exact go_meet hk5 (rfl) ⟨rfl, rfl, rfl, rfl, rfl, rfl, rfl, trivial⟩
    · intro hg_5 hk5
      refine go_skip rfl rfl rfl hg_5 rfl rfl ?_
      refine go_skip rfl rfl rfl hg_5 rfl rfl ?_
      refine go_p rfl rfl rfl (o_pickT rfl hg_5 rfl) ?_
      exact go_meet hk5 (rfl) ⟨rfl, rfl, rfl, rfl, rfl, rfl, rfl, trivial⟩
    refine go_p rfl rfl rfl (o_move rfl) ?_
    apply go_or [(4, _), (6, _), (8, _), (10, _), (12, _), (13, _)] 3 83 (t := 80) ⟨rfl, rfl, rfl, rfl, rfl, rfl, trivial⟩ rfl
    · intro hg_6 hk6
      refine go_wantp rfl rfl rfl hg_6 rfl rfl (o_move rfl) ?_
      refine go_wantp rfl rfl rfl hg_6 rfl rfl (o_cmp rfl rfl rfl) ?_
      refine go_p rfl rfl rfl (o_pickF rfl hg_6 rfl) ?_
      exact go_meet hk6 (rfl) ⟨rfl, rfl, rfl, rfl, rfl, rfl, trivial⟩
    · intro hg_6 hk6
      refine go_skip rfl rfl rfl hg_6 rfl rfl ?_
      refine go_skip rfl rfl rfl hg_6 rfl rfl ?_
      refine go_p rfl rfl rfl (o_pickT rfl hg_6 rfl) ?_
      exact go_meet hk6 (rfl) ⟨rfl, rfl, rfl, rfl, rfl, rfl, trivial⟩
    refine go_p rfl rfl rfl (o_move rfl) ?_
    apply go_or [(4, _), (6, _), (8, _), (10, _), (12, _), (13, _)] 6 90 (t := 84) ⟨rfl, rfl, rfl, rfl, rfl, rfl, trivial⟩ rfl
    · intro hg_7 hk7
      refine go_wantp rfl rfl rfl hg_7 rfl rfl (o_move rfl) ?_
      refine go_wantp rfl rfl rfl hg_7 rfl rfl (o_len Try.runUnderlying79 rfl) ?_
      refine go_wantp rfl rfl rfl hg_7 rfl rfl (o_move rfl) ?_
      refine go_wantp rfl rfl rfl hg_7 rfl rfl (o_len Try.runUnderlying28 rfl) ?_
      refine go_wantp rfl rfl rfl hg_7 rfl rfl (o_cmp rfl rfl rfl) ?_
      refine go_p rfl rfl rfl (o_pickF rfl hg_7 rfl) ?_
      exact go_meet hk7 (rfl) ⟨rfl, rfl, rfl, rfl, rfl, rfl, trivial⟩
    · intro hg_7 hk7
      refine go_skip rfl rfl rfl hg_7 rfl rfl ?_
      refine go_skip rfl rfl rfl hg_7 rfl rfl ?_
      refine go_skip rfl rfl rfl hg_7 rfl rfl ?_
      refine go_skip rfl rfl rfl hg_7 rfl rfl ?_
      refine go_skip rfl rfl rfl hg_7 rfl rfl ?_
      refine go_p rfl rfl rfl (o_pickT rfl hg_7 rfl) ?_
      exact go_meet hk7 (rfl) ⟨rfl, rfl, rfl, rfl, rfl, rfl, trivial⟩
    refine go_nil ?_
    refine g_cond rfl (fun hc2 => ?_) (fun hc2 => ?_)
    · replace hm := cond_t hc2 hm
      refine g_seq ?_
      refine g_region ?_
      refine go_p rfl rfl rfl (o_assign rfl) ?_
      refine go_nil ?_
      refine g_ret ?_
      exact retK (ret_one' rfl (ret_tmp rfl) (perm_drop _)) (congrArg (fun (p : Bool) => (.bool p : D)) (some_eq hm))
    · replace hm := cond_f hc2 hm
      refine g_skip ?_
      refine g_seq ?_
      refine g_seq ?_
      refine g_region ?_
      refine go_p rfl rfl rfl (o_assign rfl) ?_
      refine go_nil ?_
      obtain ⟨o_1, hj1, hm1⟩ := bind_some hm
      refine g_cut_m [(6, _), (8, _), (10, _)] [(0, _), (1, _), (2, _), (3, _), (4, _)] (fun (st : Unit) (hid : Unit) => match st, hid with | _, _ => []) (fun F (st : Unit) (hid : Unit) => match st, hid with | _, _ => [(nthF F 0), (nthF F 1), (nthF F 2), (nthF F 3), (nthF F 4)]) (fun st => Out.go (st) = o_1) ⟨rfl, rfl, rfl, trivial⟩ ⟨rfl, rfl, rfl, rfl, rfl, trivial⟩ ?_ ?_
      · skip
        refine g_block ?_
        refine g_loop_m [(4, _), (6, _), (8, _), (10, _), (12, _), (13, _)] [(0, _), (1, _), (2, _), (3, _), (4, _)] (fun (st : Int) (hid : Unit) => match st, hid with | i1, _ => [(14, .i64 i1)]) (fun F (st : Int) (hid : Unit) => match st, hid with | i1, _ => [(nthF F 0), (nthF F 1), (nthF F 2), (nthF F 3), (nthF F 4)]) () hj1 (fun _ => rfl) ⟨rfl, rfl, rfl, rfl, rfl, rfl, trivial⟩ ⟨rfl, rfl, rfl, rfl, rfl, trivial⟩ ⟨rfl, trivial⟩ rfl ?_
        rintro n i1 _ hj1
        rw [m_syntagmalaw28_VarsTells_l1] at hj1
        refine g_norm (L' := [(14, .i64 i1), (4, _), (6, _), (8, _), (10, _), (12, _), (13, _)]) (ms' := [_, _, _, _, _]) rfl rfl ?_
        refine g_seq ?_
        refine g_seq ?_
        refine g_region ?_
        refine go_p rfl rfl rfl (o_move rfl) ?_
        refine go_p rfl rfl rfl (o_move rfl) ?_
        refine go_p rfl rfl rfl (o_len Try.runUnderlying28 rfl) ?_
        refine go_p rfl rfl rfl (o_cmp rfl rfl rfl) ?_
        refine go_nil ?_
        refine g_cond rfl (fun hc3 => ?_) (fun hc3 => ?_)
        · replace hj1 := cond_t hc3 hj1
          refine g_skip ?_
          refine g_seq ?_
          refine g_block ?_
          refine g_seq ?_
          refine g_region ?_
          refine go_p rfl rfl rfl (o_assign rfl) ?_
          refine go_nil ?_
          refine g_seq ?_
          refine g_seq ?_
          obtain ⟨x15, hx14, hj1⟩ := bind_some hj1
          obtain ⟨x16, hx15, hj1⟩ := bind_some hj1
          refine g_draw 6 Try_mixed (by decide +kernel) ?_
          refine gd_p rfl rfl rfl (o_load_box_agg 0 Try.isAgg74 Try.sizeOf74 rfl rfl rfl rfl (Nat.le_of_ble_eq_true rfl)) ?_
          refine gd_p rfl rfl rfl (o_move rfl) ?_
          refine gd_p rfl rfl rfl (o_move rfl) ?_
          refine gd_p rfl rfl rfl (o_indexAddr_m Try.runUnderlying28 Try.sizeOf3 rfl rfl hx14) ?_
          refine gd_p rfl rfl rfl (o_load Try.isAgg3 rfl rfl) ?_
          refine gd_p rfl rfl rfl (o_call0 Try.call55 rfl (w_syntagmaref28_On hx15)) ?_
          refine gd_nil ?_
          refine go_nil ?_
          obtain ⟨o_2, hj2, hm2⟩ := bind_some hj1
          refine g_cut_m [(4, _), (6, _), (8, _), (10, _), (12, _), (13, _), (14, _)] [(0, _), (1, _), (2, _), (3, _), (4, _)] (fun (st : Int) (hid : Unit) => match st, hid with | side1, _ => [(15, .i64 side1)]) (fun F (st : Int) (hid : Unit) => match st, hid with | side1, _ => [(nthF F 0), (nthF F 1), (nthF F 2), (nthF F 3), (nthF F 4)]) (fun st => st = o_2) ⟨rfl, rfl, rfl, rfl, rfl, rfl, rfl, trivial⟩ ⟨rfl, rfl, rfl, rfl, rfl, trivial⟩ ?_ ?_
          · skip
            refine g_cond rfl (fun hc4 => ?_) (fun hc4 => ?_)
            · replace hj2 := cond_t hc4 hj2
              refine g_region ?_
              refine go_p rfl rfl rfl (o_assign rfl) ?_
              refine go_nil ?_
              exact ⟨_, (), some_eq hj2, ⟨rfl, trivial⟩, ⟨rfl, rfl, rfl, rfl, rfl, rfl, rfl, trivial⟩, [], rfl⟩
            · replace hj2 := cond_f hc4 hj2
              refine g_skip ?_
              exact ⟨_, (), some_eq hj2, ⟨rfl, trivial⟩, ⟨rfl, rfl, rfl, rfl, rfl, rfl, rfl, trivial⟩, [], rfl⟩
          · rintro side1 _ hst
            subst hst
            refine k_norm (L' := [(15, .i64 side1), (4, _), (6, _), (8, _), (10, _), (12, _), (13, _), (14, _)]) (ms' := [_, _, _, _, _]) rfl rfl ?_
            refine g_seq ?_
            refine g_seq ?_
            obtain ⟨x17, hx16, hm2⟩ := bind_some hm2
            obtain ⟨x18, hx17, hm2⟩ := bind_some hm2
            refine g_draw 6 Try_mixed (by decide +kernel) ?_
            refine gd_p rfl rfl rfl (o_load_box_agg 0 Try.isAgg74 Try.sizeOf74 rfl rfl rfl rfl (Nat.le_of_ble_eq_true rfl)) ?_
            refine gd_p rfl rfl rfl (o_move rfl) ?_
            refine gd_p rfl rfl rfl (o_move rfl) ?_
            refine gd_p rfl rfl rfl (o_indexAddr_m Try.runUnderlying28 Try.sizeOf3 rfl rfl hx16) ?_
            refine gd_p rfl rfl rfl (o_load Try.isAgg3 rfl rfl) ?_
            refine gd_p rfl rfl rfl (o_call0 Try.call55 rfl (w_syntagmaref28_On hx17)) ?_
            refine gd_nil ?_
            refine go_nil ?_
            obtain ⟨o_3, hj3, hm3⟩ := bind_some hm2
            refine g_cut_m [(4, _), (6, _), (8, _), (10, _), (12, _), (13, _), (14, _)] [(0, _), (1, _), (2, _), (3, _), (4, _)] (fun (st : Int) (hid : Unit) => match st, hid with | side2, _ => [(15, .i64 side2)]) (fun F (st : Int) (hid : Unit) => match st, hid with | side2, _ => [(nthF F 0), (nthF F 1), (nthF F 2), (nthF F 3), (nthF F 4)]) (fun st => st = o_3) ⟨rfl, rfl, rfl, rfl, rfl, rfl, rfl, trivial⟩ ⟨rfl, rfl, rfl, rfl, rfl, trivial⟩ ?_ ?_
            · skip
              refine g_cond rfl (fun hc5 => ?_) (fun hc5 => ?_)
              · replace hj3 := cond_t hc5 hj3
                refine g_region ?_
                refine go_p rfl rfl rfl (o_move rfl) ?_
                obtain ⟨hg18, hj3⟩ := grd_some hj3
                refine go_p rfl rfl rfl (o_add rfl rfl (i64_id hg18)) ?_
                refine go_p rfl rfl rfl (o_assign rfl) ?_
                refine go_nil ?_
                exact ⟨_, (), some_eq hj3, ⟨rfl, trivial⟩, ⟨rfl, rfl, rfl, rfl, rfl, rfl, rfl, trivial⟩, [], rfl⟩
              · replace hj3 := cond_f hc5 hj3
                refine g_skip ?_
                exact ⟨_, (), some_eq hj3, ⟨rfl, trivial⟩, ⟨rfl, rfl, rfl, rfl, rfl, rfl, rfl, trivial⟩, [], rfl⟩
            · rintro side2 _ hst
              subst hst
              refine k_norm (L' := [(15, .i64 side2), (4, _), (6, _), (8, _), (10, _), (12, _), (13, _), (14, _)]) (ms' := [_, _, _, _, _]) rfl rfl ?_
              refine g_seq ?_
              obtain ⟨x19, hx19, hm3⟩ := bind_some hm3
              obtain ⟨x20, hx20, hm3⟩ := bind_some hm3
              rcases cond_split hm3 with ⟨hg_8, hm3⟩ | ⟨hg_8, hm3⟩
              ·
                skip
                refine g_draw 19 Try_mixed (by decide +kernel) ?_
                refine gd_p rfl rfl rfl (o_move rfl) ?_
                refine gd_p rfl rfl rfl (o_move rfl) ?_
                refine gd_p rfl rfl rfl (o_indexAddr_m Try.runUnderlying79 Try.sizeOf90 rfl rfl hx19) ?_
                refine gd_p rfl rfl rfl (o_fieldAddr fi_90_0 rfl rfl rfl) ?_
                refine gd_p rfl rfl rfl (o_load Try.isAgg3 rfl rfl) ?_
                refine gd_p rfl rfl rfl (o_move rfl) ?_
                refine gd_p rfl rfl rfl (o_move rfl) ?_
                refine gd_p rfl rfl rfl (o_indexAddr_m Try.runUnderlying28 Try.sizeOf3 rfl rfl hx20) ?_
                refine gd_p rfl rfl rfl (o_load Try.isAgg3 rfl rfl) ?_
                refine gd_p rfl rfl rfl (o_cmp rfl rfl rfl) ?_
                refine gd_p rfl rfl rfl (o_move rfl) ?_
                refine gd_skip rfl rfl rfl hg_8 rfl rfl ?_
                refine gd_skip rfl rfl rfl hg_8 rfl rfl ?_
                refine gd_skip rfl rfl rfl hg_8 rfl rfl ?_
                refine gd_skip rfl rfl rfl hg_8 rfl rfl ?_
                refine gd_skip rfl rfl rfl hg_8 rfl rfl ?_
                refine gd_skip rfl rfl rfl hg_8 rfl rfl ?_
                refine gd_skip rfl rfl rfl hg_8 rfl rfl ?_
                refine gd_p rfl rfl rfl (o_pickT rfl hg_8 rfl) ?_
                refine gd_nil ?_
                refine go_nil ?_
                refine g_cond_true rfl rfl ?_
                refine g_seq ?_
                refine g_region ?_
                refine go_p rfl rfl rfl (o_assign rfl) ?_
                refine go_nil ?_
                refine g_ret ?_
                obtain rfl := some_eq hm3
                replace hm1 := on_ret hm1
                exact retK (ret_one' rfl (ret_tmp rfl) (perm_drop _)) (congrArg (fun (p : Bool) => (.bool p : D)) (some_eq hm1))
              ·
                skip
                obtain ⟨x21, hx21, hm3⟩ := bind_some hm3
                refine g_draw 19 Try_mixed (by decide +kernel) ?_
                refine gd_p rfl rfl rfl (o_move rfl) ?_
                refine gd_p rfl rfl rfl (o_move rfl) ?_
                refine gd_p rfl rfl rfl (o_indexAddr_m Try.runUnderlying79 Try.sizeOf90 rfl rfl hx19) ?_
                refine gd_p rfl rfl rfl (o_fieldAddr fi_90_0 rfl rfl rfl) ?_
                refine gd_p rfl rfl rfl (o_load Try.isAgg3 rfl rfl) ?_
                refine gd_p rfl rfl rfl (o_move rfl) ?_
                refine gd_p rfl rfl rfl (o_move rfl) ?_
                refine gd_p rfl rfl rfl (o_indexAddr_m Try.runUnderlying28 Try.sizeOf3 rfl rfl hx20) ?_
                refine gd_p rfl rfl rfl (o_load Try.isAgg3 rfl rfl) ?_
                refine gd_p rfl rfl rfl (o_cmp rfl rfl rfl) ?_
                refine gd_p rfl rfl rfl (o_move rfl) ?_
                refine gd_want rfl rfl rfl hg_8 rfl rfl (o_move rfl) ?_
                refine gd_want rfl rfl rfl hg_8 rfl rfl (o_move rfl) ?_
                refine gd_want rfl rfl rfl hg_8 rfl rfl (o_indexAddr_m Try.runUnderlying79 Try.sizeOf90 rfl rfl hx21) ?_
                refine gd_want rfl rfl rfl hg_8 rfl rfl (o_fieldAddr fi_90_1 rfl rfl rfl) ?_
                refine gd_want rfl rfl rfl hg_8 rfl rfl (o_load Try.isAgg3 rfl rfl) ?_
                refine gd_want rfl rfl rfl hg_8 rfl rfl (o_move rfl) ?_
                refine gd_want rfl rfl rfl hg_8 rfl rfl (o_cmp rfl rfl rfl) ?_
                refine gd_p rfl rfl rfl (o_pickF rfl hg_8 rfl) ?_
                refine gd_nil ?_
                refine go_nil ?_
                refine g_cond rfl (fun hc6 => ?_) (fun hc6 => ?_)
                · replace hm3 := cond_t hc6 hm3
                  refine g_seq ?_
                  refine g_region ?_
                  refine go_p rfl rfl rfl (o_assign rfl) ?_
                  refine go_nil ?_
                  refine g_ret ?_
                  obtain rfl := some_eq hm3
                  replace hm1 := on_ret hm1
                  exact retK (ret_one' rfl (ret_tmp rfl) (perm_drop _)) (congrArg (fun (p : Bool) => (.bool p : D)) (some_eq hm1))
                · replace hm3 := cond_f hc6 hm3
                  refine g_skip ?_
                  refine g_region ?_
                  refine go_p rfl rfl rfl (o_move rfl) ?_
                  obtain ⟨hg22, hm3⟩ := grd_some hm3
                  refine go_p rfl rfl rfl (o_add rfl rfl (i64_id hg22)) ?_
                  refine go_p rfl rfl rfl (o_assign rfl) ?_
                  refine go_nil ?_
                  exact ⟨_, (), hm3, ⟨rfl, trivial⟩, ⟨rfl, rfl, rfl, rfl, rfl, rfl, trivial⟩, [], rfl⟩
        · replace hj1 := cond_f hc3 hj1
          refine g_exit ?_
          exact ⟨_, (), some_eq hj1, trivial, ⟨rfl, rfl, rfl, trivial⟩, [], rfl⟩
      · rintro _ _ hst
        subst hst
        replace hm1 := on_go hm1
        refine k_norm (L' := [(6, _), (8, _), (10, _)]) (ms' := [_, _, _, _, _]) rfl rfl ?_
        refine g_seq ?_
        obtain ⟨x22, hx23, hm1⟩ := bind_some hm1
        obtain ⟨x23, hx24, hm1⟩ := bind_some hm1
        obtain ⟨x24, hx25, hm1⟩ := bind_some hm1
        rcases cond_split hm1 with ⟨hg_9, hm1⟩ | ⟨hg_9, hm1⟩
        ·
          skip
          obtain ⟨x25, hx26, hm1⟩ := bind_some hm1
          obtain ⟨x26, hx27, hm1⟩ := bind_some hm1
          obtain ⟨x27, hx28, hm1⟩ := bind_some hm1
          rcases cond_split hm1 with ⟨hg_10, hm1⟩ | ⟨hg_10, hm1⟩
          ·
            skip
            obtain ⟨x28, hx29, hm1⟩ := bind_some hm1
            refine g_draw 16 Try_mixed (by decide +kernel) ?_
            refine gd_p rfl rfl rfl (o_load_box_agg 3 Try.isAgg77 Try.sizeOf77 rfl rfl rfl rfl (Nat.le_of_ble_eq_true rfl)) ?_
            refine gd_p rfl rfl rfl (o_call0 Try.call50 rfl (w_syntagmalaw24_Of hx23)) ?_
            refine gd_p rfl rfl rfl (o_load_box_agg 1 Try.isAgg74 Try.sizeOf74 rfl rfl rfl rfl (Nat.le_of_ble_eq_true rfl)) ?_
            refine gd_p rfl rfl rfl (o_call0 Try.call57 rfl (w_syntagmaref28_Drop hx24)) ?_
            refine gd_p rfl rfl rfl (o_call0 Try.call56 rfl (w_syntagmaref24_SameList hx25)) ?_
            refine gd_p rfl rfl rfl (o_move rfl) ?_
            refine gd_want rfl rfl rfl hg_9 rfl rfl (o_load_box_agg 2 Try.isAgg77 Try.sizeOf77 rfl rfl rfl rfl (Nat.le_of_ble_eq_true rfl)) ?_
            refine gd_want rfl rfl rfl hg_9 rfl rfl (o_call0 Try.call50 rfl (w_syntagmalaw24_Of hx26)) ?_
            refine gd_want rfl rfl rfl hg_9 rfl rfl (o_load_box_agg 1 Try.isAgg74 Try.sizeOf74 rfl rfl rfl rfl (Nat.le_of_ble_eq_true rfl)) ?_
            refine gd_want rfl rfl rfl hg_9 rfl rfl (o_call0 Try.call58 rfl (w_syntagmaref28_Rename hx27)) ?_
            refine gd_want rfl rfl rfl hg_9 rfl rfl (o_call0 Try.call56 rfl (w_syntagmaref24_SameList hx28)) ?_
            refine gd_p rfl rfl rfl (o_pickT rfl hg_9 rfl) ?_
            refine gd_p rfl rfl rfl (o_move rfl) ?_
            refine gd_want rfl rfl rfl hg_10 rfl rfl (o_call0 Try.call52 rfl (w_syntagmalaw28_works hx29)) ?_
            refine gd_p rfl rfl rfl (o_pickT rfl hg_10 rfl) ?_
            refine gd_p rfl rfl rfl (o_assign rfl) ?_
            refine gd_nil ?_
            refine go_nil ?_
            refine g_ret ?_
            exact retK (ret_one' rfl (ret_tmp rfl) (perm_drop _)) (congrArg (fun (p : Bool) => (.bool p : D)) (some_eq hm1))
          ·
            skip
            refine g_draw 16 Try_mixed (by decide +kernel) ?_
            refine gd_p rfl rfl rfl (o_load_box_agg 3 Try.isAgg77 Try.sizeOf77 rfl rfl rfl rfl (Nat.le_of_ble_eq_true rfl)) ?_
            refine gd_p rfl rfl rfl (o_call0 Try.call50 rfl (w_syntagmalaw24_Of hx23)) ?_
            refine gd_p rfl rfl rfl (o_load_box_agg 1 Try.isAgg74 Try.sizeOf74 rfl rfl rfl rfl (Nat.le_of_ble_eq_true rfl)) ?_
            refine gd_p rfl rfl rfl (o_call0 Try.call57 rfl (w_syntagmaref28_Drop hx24)) ?_
            refine gd_p rfl rfl rfl (o_call0 Try.call56 rfl (w_syntagmaref24_SameList hx25)) ?_
            refine gd_p rfl rfl rfl (o_move rfl) ?_
            refine gd_want rfl rfl rfl hg_9 rfl rfl (o_load_box_agg 2 Try.isAgg77 Try.sizeOf77 rfl rfl rfl rfl (Nat.le_of_ble_eq_true rfl)) ?_
            refine gd_want rfl rfl rfl hg_9 rfl rfl (o_call0 Try.call50 rfl (w_syntagmalaw24_Of hx26)) ?_
            refine gd_want rfl rfl rfl hg_9 rfl rfl (o_load_box_agg 1 Try.isAgg74 Try.sizeOf74 rfl rfl rfl rfl (Nat.le_of_ble_eq_true rfl)) ?_
            refine gd_want rfl rfl rfl hg_9 rfl rfl (o_call0 Try.call58 rfl (w_syntagmaref28_Rename hx27)) ?_
            refine gd_want rfl rfl rfl hg_9 rfl rfl (o_call0 Try.call56 rfl (w_syntagmaref24_SameList hx28)) ?_
            refine gd_p rfl rfl rfl (o_pickT rfl hg_9 rfl) ?_
            refine gd_p rfl rfl rfl (o_move rfl) ?_
            refine gd_skip rfl rfl rfl hg_10 rfl rfl ?_
            refine gd_p rfl rfl rfl (o_pickF rfl hg_10 rfl) ?_
            refine gd_p rfl rfl rfl (o_assign rfl) ?_
            refine gd_nil ?_
            refine go_nil ?_
            refine g_ret ?_
            exact retK (ret_one' rfl (ret_tmp rfl) (perm_drop _)) (congrArg (fun (p : Bool) => (.bool p : D)) (some_eq hm1))
        ·
          skip
          refine g_draw 16 Try_mixed (by decide +kernel) ?_
          refine gd_p rfl rfl rfl (o_load_box_agg 3 Try.isAgg77 Try.sizeOf77 rfl rfl rfl rfl (Nat.le_of_ble_eq_true rfl)) ?_
          refine gd_p rfl rfl rfl (o_call0 Try.call50 rfl (w_syntagmalaw24_Of hx23)) ?_
          refine gd_p rfl rfl rfl (o_load_box_agg 1 Try.isAgg74 Try.sizeOf74 rfl rfl rfl rfl (Nat.le_of_ble_eq_true rfl)) ?_
          refine gd_p rfl rfl rfl (o_call0 Try.call57 rfl (w_syntagmaref28_Drop hx24)) ?_
          refine gd_p rfl rfl rfl (o_call0 Try.call56 rfl (w_syntagmaref24_SameList hx25)) ?_
          refine gd_p rfl rfl rfl (o_move rfl) ?_
          refine gd_skip rfl rfl rfl hg_9 rfl rfl ?_
          refine gd_skip rfl rfl rfl hg_9 rfl rfl ?_
          refine gd_skip rfl rfl rfl hg_9 rfl rfl ?_
          refine gd_skip rfl rfl rfl hg_9 rfl rfl ?_
          refine gd_skip rfl rfl rfl hg_9 rfl rfl ?_
          refine gd_p rfl rfl rfl (o_pickF rfl hg_9 rfl) ?_
          refine gd_p rfl rfl rfl (o_move rfl) ?_
          refine gd_skip rfl rfl rfl rfl rfl rfl ?_
          refine gd_p rfl rfl rfl (o_pickF rfl rfl rfl) ?_
          refine gd_p rfl rfl rfl (o_assign rfl) ?_
          refine gd_nil ?_
          refine go_nil ?_
          refine g_ret ?_
          exact retK (ret_one' rfl (ret_tmp rfl) (perm_drop _)) (congrArg (fun (p : Bool) => (.bool p : D)) (some_eq hm1))
end Go.Proofs.Ytafphfokopkhdaa
set_option linter.unusedVariables false
set_option linter.unusedSimpArgs false
set_option maxRecDepth 100000
namespace Go.Proofs.Ytafphfokopkhdaa
open Go.V
open Classical
/-- Small enough: a state. -/
def SB (s : AutoState) : Prop := s.vars.length ≤ 40 ∧ s.fields.length ≤ 40 ∧ s.tags.length ≤ 40
/-- Small enough: an automaton. -/
def AB (a : AutoAuto) : Prop := a.l.length ≤ 2001 ∧ ∀ s ∈ a.l, SB s
theorem FUv : FU = 18446744073709551616 := rfl
def nextP (s : AutoState) : List Int := (if s.arrow = true then [s.dom, s.cod] else []) ++ s.fields.map (·.to_) ++ s.tags.map (·.to_)
theorem nextP_len (s : AutoState) (h : SB s) : (nextP s).length ≤ 82 := by
  obtain ⟨h1, h2, h3⟩ := h
  unfold nextP
  split <;> simp <;> omega
theorem tos_eq (l : List AutoEdge) (h : l.length ≤ 40) : m_auto_tos l = some (l.map (·.to_)) := by
  unfold m_auto_tos
  refine bnd (loop_map (φ := fun n i s => m_auto_tos_l1 l n (i, s)) (l := l) (fun x => x.to_) id 0 ?_ ?_ (by rw [FUv]; omega) [] rfl) rfl
  · intro n i x s hx hi hs
    simp only [m_auto_tos_l1]
    rw [decide_eq_true (by omega), cond_true, getI hx, Option.bind_some, grd_pos (by simp; omega), grd_pos (by omega)]
  · intro n s hs
    simp only [m_auto_tos_l1]
    rw [decide_eq_false (by omega), cond_false]; rfl
theorem concat_eq (ls : List (List Int)) (h : ls.length ≤ 3) (h2 : ∀ l ∈ ls, l.length ≤ 40) : m_slices_Concat_int_int ls = some ls.flatten := by
  have hm : ∀ {i : Nat} {x : List Int}, ls[i]? = some x → x.length ≤ 40 := fun hx => h2 _ (List.mem_of_getElem? hx)
  unfold m_slices_Concat_int_int
  have e1 := loop_fold (φ := fun n i s => m_slices_Concat_int_int_l1 ls n (s, i)) (l := ls) (fun i s => 0 ≤ s ∧ s ≤ 40 * i) (fun _ s x => s + (x.length : Int)) id (by
    intro n i x s hx hi hI
    have hm := hm hx
    simp only [m_slices_Concat_int_int_l1]
    rw [decide_eq_true (by omega), cond_true, getI hx, Option.bind_some, grd_pos (by omega), decide_eq_false (by omega), cond_false, grd_pos (by omega)]
    exact ⟨rfl, by omega⟩) (by
    intro n s hI
    simp only [m_slices_Concat_int_int_l1]
    rw [decide_eq_false (by omega), cond_false]; rfl) (by rw [FUv]; omega) (fun _ t s => t.foldl (fun s x => s + (x.length : Int)) s) (fun _ _ => rfl) (fun _ _ _ _ => rfl) 0 (by omega)
  have e2 := loop_fold (φ := fun n i s => m_slices_Concat_int_int_l2 ls n (i, s)) (l := ls) (fun i s => s.length ≤ 40 * i) (fun _ s x => s ++ x) id (by
    intro n i x s hx hi hI
    have hm := hm hx
    simp only [m_slices_Concat_int_int_l2]
    rw [decide_eq_true (by omega), cond_true, getI hx, Option.bind_some, grd_pos (by omega), grd_pos (by omega)]
    exact ⟨rfl, by simp; omega⟩) (by
    intro n s hI
    simp only [m_slices_Concat_int_int_l2]
    rw [decide_eq_false (by omega), cond_false]; rfl) (by rw [FUv]; omega) (fun _ t s => s ++ t.flatten) (by simp) (by simp) [] (by simp)
  refine bnd e1.1 ?_
  have e3 := e1.2
  rw [id, grd_pos (by omega), grd_pos (by omega)]
  exact bnd e2.1 rfl
theorem next_eq (s : AutoState) (h : SB s) : m_auto_Next s = some (nextP s) := by
  obtain ⟨h1, h2, h3⟩ := h
  unfold m_auto_Next
  refine bnd (x := if s.arrow = true then [s.dom, s.cod] else []) ?_ ?_
  · cases s.arrow with
    | true => rw [cond_true, grd_pos (by simp)]; rfl
    | false => rfl
  rw [tos_eq _ h2, Option.bind_some, tos_eq _ h3, Option.bind_some, concat_eq]
  · simp [nextP]
  · simp
  · intro l hl
    simp only [List.mem_cons, List.not_mem_nil, or_false] at hl
    rcases hl with rfl | rfl | rfl
    · split <;> simp
    · simpa using h2
    · simpa using h3
theorem rnext_eq (s : AutoState) (h : SB s) : m_syntagmaref24_Next s = some (nextP s) := by
  obtain ⟨h1, h2, h3⟩ := h
  unfold m_syntagmaref24_Next
  have hl : (if s.arrow = true then [s.dom, s.cod] else []).length ≤ 2 := by split <;> simp
  refine bnd (x := if s.arrow = true then [s.dom, s.cod] else []) ?_ ?_
  · cases s.arrow <;> rfl
  refine bnd (loop_map (φ := fun n i s2 => m_syntagmaref24_Next_l1 s n (i, s2)) (l := s.fields) (fun x => x.to_) id _ ?_ ?_ (by rw [FUv]; omega) _ rfl) ?_
  · intro n i x s2 hx hi hs
    simp only [m_syntagmaref24_Next_l1]
    rw [decide_eq_true (by omega), cond_true, getI hx, Option.bind_some, grd_pos (by simp; omega), grd_pos (by omega)]
  · intro n s2 hs
    simp only [m_syntagmaref24_Next_l1]
    rw [decide_eq_false (by omega), cond_false]; rfl
  refine bnd (loop_map (φ := fun n i s2 => m_syntagmaref24_Next_l2 s n (i, s2)) (l := s.tags) (fun x => x.to_) id _ ?_ ?_ (by rw [FUv]; omega) _ rfl) ?_
  · intro n i x s2 hx hi hs
    simp only [id, List.length_append, List.length_map] at hs
    simp only [m_syntagmaref24_Next_l2]
    rw [decide_eq_true (by omega), cond_true, getI hx, Option.bind_some, grd_pos (by simp; omega), grd_pos (by omega)]
  · intro n s2 hs
    simp only [m_syntagmaref24_Next_l2]
    rw [decide_eq_false (by omega), cond_false]; rfl
  · rfl
theorem ints_eq (l : List Int) (h : l.length ≤ 100) : m_syntagmabase_Ints l = some l := by
  unfold m_syntagmabase_Ints
  rw [grd_pos (by omega)]; rfl
theorem sameInts_eq (a b : List Int) (h : a.length ≤ 3000) : m_syntagmabase_SameInts a b = some (decide (a = b)) := by
  unfold m_syntagmabase_SameInts
  simp only [Bool.cond_eq_ite, Bool.not_eq_true', decide_eq_false_iff_not]
  by_cases hl : a.length = b.length
  · rw [if_neg (by omega)]
    refine bnd (loop_all (φ := m_syntagmabase_SameInts_l1 a b) (l := a) false (fun i x => b[i]? = some x) ?_ ?_ (by rw [FUv]; omega)) ?_
    · intro n i x hx hi
      simp only [m_syntagmabase_SameInts_l1]
      have hy : b[i]? = some b[i] := List.getElem?_eq_getElem (by omega)
      rw [decide_eq_true (by omega), cond_true, getI hx, Option.bind_some, getI hy, Option.bind_some, hy]
      simp only [Bool.cond_eq_ite, Bool.not_eq_true', decide_eq_false_iff_not]
      constructor
      · intro h; rw [if_neg (by simpa using (Option.some.inj h).symm), grd_pos (by omega)]
      · intro h; rw [if_pos (by intro h2; exact h (by rw [h2]))]
    · intro n
      simp only [m_syntagmabase_SameInts_l1]
      rw [decide_eq_false (by omega), cond_false]
    · by_cases h3 : a = b
      · subst h3
        rw [if_pos (fun i x h => h), decide_eq_true rfl]; rfl
      · rw [if_neg, decide_eq_false h3]; rfl
        intro h4
        refine h3 (List.ext_getElem? fun i => ?_)
        by_cases hi : i < a.length
        · rw [h4 i a[i] (List.getElem?_eq_getElem hi), List.getElem?_eq_getElem hi]
        · rw [List.getElem?_eq_none (by omega), List.getElem?_eq_none (by omega)]
  · rw [if_pos (by omega), decide_eq_false (fun h => hl (by rw [h]))]
def smallB (c : UInt8) : Bool := (decide (97 ≤ (c.toNat : Int)) && decide ((c.toNat : Int) ≤ 122)) || decide ((c.toNat : Int) = 95)
def greatB (c : UInt8) : Bool := decide (65 ≤ (c.toNat : Int)) && decide ((c.toNat : Int) ≤ 90)
def moreB (c : UInt8) : Bool := (smallB c || greatB c) || (decide (48 ≤ (c.toNat : Int)) && decide ((c.toNat : Int) ≤ 57))
def wordP : List UInt8 → Nat
  | [] => 0
  | c :: r => if smallB c = true ∨ greatB c = true then 1 + (r.takeWhile moreB).length else 0
theorem word_c (c : UInt8) (r : List UInt8) : wordP (c :: r) = if smallB c = true ∨ greatB c = true then 1 + (r.takeWhile moreB).length else 0 := rfl
theorem bt (b c : Bool) : (bif b then some true else some c : Option Bool) = some (b || c) := by cases b <;> rfl
theorem bf (b c : Bool) : (bif b then some c else some false : Option Bool) = some (b && c) := by cases b <;> rfl
theorem tw_le {α : Type} (p : α → Bool) (l : List α) : (l.takeWhile p).length ≤ l.length := (List.takeWhile_prefix p).length_le
theorem word_eq (s : List UInt8) (h : s.length ≤ 1000000000000) : m_name_Word s = some (wordP s : Int) := by
  unfold m_name_Word
  rcases s with _ | ⟨c, r⟩
  · rfl
  · rw [decide_eq_false (by simp), cond_false, idx_c0, Option.bind_some]
    simp only [m_name_small, m_name_great, Option.bind_some, bf]
    rw [show (((decide (97 ≤ (c.toNat : Int))) && (decide ((c.toNat : Int) ≤ 122))) || (decide ((c.toNat : Int) = 95))) = smallB c from rfl, show ((decide (65 ≤ (c.toNat : Int))) && (decide ((c.toNat : Int) ≤ 90))) = greatB c from rfl]
    rw [word_c]
    cases h1 : smallB c || greatB c with
    | false =>
      simp only [Bool.or_eq_false_iff] at h1
      rw [h1.1, h1.2]; simp
    | true =>
      rw [if_pos (by simpa using h1)]
      have : (!smallB c && !greatB c) = false := by cases hs : smallB c <;> cases hg : greatB c <;> simp_all
      rw [this, cond_false]
      simp only [List.length_cons] at h
      refine bnd (loop_while (φ := m_name_Word_l1 (c :: r)) (l := c :: r) moreB (fun i => (i : Int)) ?_ ?_ FU 1 (by simp) (by rw [FUv]; simp; omega)) rfl
      · intro n i x hx hi
        simp only [List.length_cons] at hi
        simp only [m_name_Word_l1]
        rw [decide_eq_true (by simp only [List.length_cons]; omega), cond_true, getI hx, Option.bind_some]
        simp only [m_name_more, m_name_small, m_name_great, Option.bind_some, bt]
        constructor
        · intro hq
          simp only [moreB, smallB, greatB] at hq
          rw [hq, cond_true, grd_pos (by omega)]
        · intro hq
          simp only [moreB, smallB, greatB] at hq
          rw [hq, cond_false]
      · intro n
        simp only [m_name_Word_l1]
        rw [decide_eq_false (by omega), cond_false, Option.bind_some, cond_false]
theorem rword_eq (s : List UInt8) (h : s.length ≤ 1000000000000) : m_syntagmaref03_Word s = some (wordP s : Int) := by
  unfold m_syntagmaref03_Word
  rcases s with _ | ⟨c, r⟩
  · rfl
  · rw [decide_eq_false (by simp; omega), cond_false, idx_c0, Option.bind_some]
    simp only [m_syntagmaref03_small, m_syntagmaref03_great, Option.bind_some, bf]
    rw [show (((decide (97 ≤ (c.toNat : Int))) && (decide ((c.toNat : Int) ≤ 122))) || (decide ((c.toNat : Int) = 95))) = smallB c from rfl, show ((decide (65 ≤ (c.toNat : Int))) && (decide ((c.toNat : Int) ≤ 90))) = greatB c from rfl]
    rw [word_c]
    cases h1 : smallB c || greatB c with
    | false =>
      simp only [Bool.or_eq_false_iff] at h1
      rw [h1.1, h1.2]; simp
    | true =>
      rw [if_pos (by simpa using h1)]
      have : (!smallB c && !greatB c) = false := by cases hs : smallB c <;> cases hg : greatB c <;> simp_all
      rw [this, cond_false]
      simp only [List.length_cons] at h
      refine bnd (loop_while (φ := m_syntagmaref03_Word_l1 (c :: r)) (l := c :: r) moreB (fun i => (i : Int)) ?_ ?_ FU 1 (by simp) (by rw [FUv]; simp; omega)) rfl
      · intro n i x hx hi
        simp only [List.length_cons] at hi
        simp only [m_syntagmaref03_Word_l1]
        rw [decide_eq_true (by simp only [List.length_cons]; omega), cond_true, getI hx, Option.bind_some]
        simp only [m_syntagmaref03_small, m_syntagmaref03_great, Option.bind_some, bt, bf]
        constructor
        · intro hq
          simp only [moreB, smallB, greatB] at hq
          rw [hq, cond_true, grd_pos (by omega)]
        · intro hq
          simp only [moreB, smallB, greatB] at hq
          rw [hq, cond_false]
      · intro n
        simp only [m_syntagmaref03_Word_l1]
        rw [decide_eq_false (by omega), cond_false, Option.bind_some, cond_false]
def keysL : List (List UInt8) := match m_name_Keywords with | some l => l | none => []
theorem keys_eq : m_name_Keywords = some keysL := rfl
theorem rkeys_eq : m_syntagmaref03_Keywords = some keysL := rfl
theorem isKey_eq (l : List (List UInt8)) (s : List UInt8) (h : l.length ≤ 1000) : m_slices_Contains_string_string l s = some (decide (s ∈ l)) := by
  unfold m_slices_Contains_string_string m_slices_Index_string_string
  have e := loop_find (φ := m_slices_Index_string_string_l1 l s) (l := l) (fun i => (i : Int)) (fun x => decide (s = x)) (by
    intro n i x hx hi
    simp only [m_slices_Index_string_string_l1]
    rw [decide_eq_true (show (i : Int) < l.length by omega), cond_true, getI hx, Option.bind_some]
    constructor
    · intro hq; rw [show decide (s = x) = false from by simpa using hq, cond_false, grd_pos (by omega)]
    · intro hq; rw [show decide (s = x) = true from by simpa using hq, cond_true]) (by
    intro n
    simp only [m_slices_Index_string_string_l1]
    rw [decide_eq_false (by omega), cond_false]) (by rw [FUv]; omega)
  rw [bind_of e]
  cases hf : l.findIdx? (fun x => decide (s = x)) with
  | none =>
    rw [List.findIdx?_eq_none_iff] at hf
    show some (decide _) = _
    congr 1
    rw [decide_eq_false (by omega), decide_eq_false]
    intro hs
    have := hf s hs
    simp at this
  | some k =>
    rw [List.findIdx?_eq_some_iff_getElem] at hf
    obtain ⟨hk, h1, _⟩ := hf
    show some (decide _) = _
    congr 1
    rw [decide_eq_true (by omega), decide_eq_true]
    simp only [decide_eq_true_eq] at h1
    rw [h1]
    exact List.getElem_mem hk
theorem rIsKey_eq (l : List (List UInt8)) (s : List UInt8) (h : l.length ≤ 1000) : m_syntagmaref03_In s l = some (decide (s ∈ l)) := by
  unfold m_syntagmaref03_In
  refine bnd (loop_any (φ := m_syntagmaref03_In_l1 s l) (l := l) true (fun _ x => x = s) ?_ ?_ (by rw [FUv]; omega)) ?_
  · intro n i x hx hi
    simp only [m_syntagmaref03_In_l1]
    rw [decide_eq_true (by omega), cond_true, getI hx, Option.bind_some]
    constructor
    · intro hq; rw [decide_eq_false hq, cond_false, grd_pos (by omega)]
    · intro hq; rw [decide_eq_true hq, cond_true]
  · intro n
    simp only [m_syntagmaref03_In_l1]
    rw [decide_eq_false (by omega), cond_false]
  · by_cases hs : s ∈ l
    · obtain ⟨i, hi, h2⟩ := List.getElem_of_mem hs
      rw [if_pos ⟨i, s, by rw [← h2]; exact List.getElem?_eq_getElem hi, rfl⟩, decide_eq_true hs]; rfl
    · rw [if_neg, decide_eq_false hs]; rfl
      rintro ⟨i, x, h1, rfl⟩
      exact hs (List.mem_of_getElem? h1)
def wholeP (s : List UInt8) : Bool := decide (s ≠ []) && decide (s.length ≤ 20) && decide (wordP s = s.length)
def headP (p : UInt8 → Bool) : List UInt8 → Bool
  | [] => false
  | c :: _ => p c
def nameP (s : List UInt8) : Bool := wholeP s && headP smallB s && !decide (s ∈ keysL)
def tagP (s : List UInt8) : Bool := wholeP s && headP greatB s
theorem whole_eq (s : List UInt8) : m_name_whole s = some (wholeP s) := by
  unfold m_name_whole wholeP
  by_cases h1 : s = []
  · subst h1; rfl
  by_cases h2 : s.length ≤ 20
  · rw [decide_eq_false h1, decide_eq_true (show (s.length : Int) ≤ 20 by omega), word_eq s (by omega)]
    simp only [Bool.not_false, Bool.true_and, cond_true, Option.bind_some, decide_eq_true (show s ≠ [] from h1), decide_eq_true h2]
    congr 1
    exact decide_eq_decide.2 (by omega)
  · rw [decide_eq_false (show ¬ (s.length : Int) ≤ 20 by omega), decide_eq_false h2]; simp
theorem name_eq (s : List UInt8) : m_name_Name s = some (nameP s) := by
  unfold m_name_Name nameP
  rw [whole_eq, Option.bind_some]
  cases hw : wholeP s with
  | false => rfl
  | true =>
    rcases s with _ | ⟨c, r⟩
    · simp [wholeP] at hw
    · rw [cond_true, idx_c0, Option.bind_some]
      simp only [m_name_small, Option.bind_some, m_name_Keyword, keys_eq, Bool.true_and]
      rw [isKey_eq _ _ (by decide), Option.bind_some, Option.bind_some, bf, Option.bind_some]; rfl
theorem tag_eq (s : List UInt8) : m_name_Tag s = some (tagP s) := by
  unfold m_name_Tag tagP
  rw [whole_eq, Option.bind_some]
  cases hw : wholeP s with
  | false => rfl
  | true =>
    rcases s with _ | ⟨c, r⟩
    · simp [wholeP] at hw
    · rw [cond_true, idx_c0, Option.bind_some]; rfl
theorem rwhole_eq (s : List UInt8) : (bif ((decide (0 < (s.length : Int))) && (decide ((s.length : Int) ≤ 20))) then ((m_syntagmaref03_Word s).bind fun x1 => some (decide (x1 = (s.length : Int)))) else (some false)) = some (wholeP s) := by
  unfold wholeP
  by_cases h1 : s = []
  · subst h1; rfl
  have h0 : 0 < s.length := List.length_pos_iff.2 h1
  by_cases h2 : s.length ≤ 20
  · rw [decide_eq_true (show 0 < (s.length : Int) by omega), decide_eq_true (show (s.length : Int) ≤ 20 by omega), rword_eq s (by omega)]
    simp only [Bool.true_and, cond_true, Option.bind_some, decide_eq_true (show s ≠ [] from h1), decide_eq_true h2]
    congr 1
    exact decide_eq_decide.2 (by omega)
  · rw [decide_eq_false (show ¬ (s.length : Int) ≤ 20 by omega), decide_eq_false h2]; simp
theorem rname_eq (s : List UInt8) : m_syntagmaref03_Name s = some (nameP s) := by
  unfold m_syntagmaref03_Name nameP
  refine bnd (rwhole_eq s) ?_
  cases hw : wholeP s with
  | false => rfl
  | true =>
    rcases s with _ | ⟨c, r⟩
    · simp [wholeP] at hw
    · rw [cond_true, idx_c0, Option.bind_some]
      simp only [m_syntagmaref03_small, Option.bind_some, m_syntagmaref03_Keyword, rkeys_eq, Bool.true_and]
      rw [rIsKey_eq _ _ (by decide), Option.bind_some, Option.bind_some, bf, Option.bind_some]; rfl
theorem rtag_eq (s : List UInt8) : m_syntagmaref03_Tag s = some (tagP s) := by
  unfold m_syntagmaref03_Tag tagP
  refine bnd (rwhole_eq s) ?_
  cases hw : wholeP s with
  | false => rfl
  | true =>
    rcases s with _ | ⟨c, r⟩
    · simp [wholeP] at hw
    · rw [cond_true, idx_c0, Option.bind_some]; rfl
end Go.Proofs.Ytafphfokopkhdaa
set_option linter.unusedVariables false
set_option linter.unusedSimpArgs false
set_option maxRecDepth 100000
namespace Go.Proofs.Ytafphfokopkhdaa
open Go.V
open Classical
def onP (a : AutoAuto) (k : Int) (p : Bool) : Bool := match idx a.l k with | some s => s.plus == p | none => false
theorem on_eq (a : AutoAuto) (k : Int) (p : Bool) : m_auto_Auto_on a k p = some (onP a k p) := by
  unfold m_auto_Auto_on onP
  by_cases h : 0 ≤ k ∧ k < (a.l.length : Int)
  · rw [decide_eq_true h.1, decide_eq_true h.2]
    have hx : idx a.l k = some a.l[k.toNat] := by
      unfold idx
      rw [if_pos h.1]
      exact List.getElem?_eq_getElem (by omega)
    rw [hx]; rfl
  · have hx : idx a.l k = none := by
      unfold idx
      split
      · exact List.getElem?_eq_none (by omega)
      · rfl
    rw [hx]
    have : (decide (0 ≤ k) && decide (k < (a.l.length : Int))) = false := by
      rw [Bool.and_eq_false_iff, decide_eq_false_iff_not, decide_eq_false_iff_not]; omega
    rw [this]; rfl
def bareP (s : AutoState) : Bool := !(s.all && ((((((s.int || s.bool) || s.str) || s.arrow) || s.rec_) || s.tag) || (decide (0 < (s.vars.length : Int))))) && !((!s.arrow) && ((!decide (s.dom = 0)) || (!decide (s.cod = 0)))) && ((s.rec_ || (decide ((s.fields.length : Int) = 0))) && (s.tag || (decide ((s.tags.length : Int) = 0))))
theorem bare_eq (s : AutoState) : m_auto_bare s = some (bareP s) := by
  unfold m_auto_bare bareP
  cases (s.all && ((((((s.int || s.bool) || s.str) || s.arrow) || s.rec_) || s.tag) || (decide (0 < (s.vars.length : Int))))) with
  | true => rfl
  | false =>
    cases ((!s.arrow) && ((!decide (s.dom = 0)) || (!decide (s.cod = 0)))) <;> rfl
theorem rbare_eq (s : AutoState) : ((((s.all && ((((((s.int || s.bool) || s.str) || s.arrow) || s.rec_) || s.tag) || (decide (0 < (s.vars.length : Int))))) || ((!s.arrow) && ((!decide (s.dom = 0)) || (!decide (s.cod = 0))))) || ((!s.rec_) && (decide (0 < (s.fields.length : Int))))) || ((!s.tag) && (decide (0 < (s.tags.length : Int))))) = !bareP s := by
  unfold bareP
  have e1 : decide (0 < (s.fields.length : Int)) = !decide ((s.fields.length : Int) = 0) := by
    by_cases h : (s.fields.length : Int) = 0
    · rw [decide_eq_true h, decide_eq_false (by omega)]; rfl
    · rw [decide_eq_false h, decide_eq_true (by omega)]; rfl
  have e2 : decide (0 < (s.tags.length : Int)) = !decide ((s.tags.length : Int) = 0) := by
    by_cases h : (s.tags.length : Int) = 0
    · rw [decide_eq_true h, decide_eq_false (by omega)]; rfl
    · rw [decide_eq_false h, decide_eq_true (by omega)]; rfl
  rw [e1, e2]
  cases (s.all && ((((((s.int || s.bool) || s.str) || s.arrow) || s.rec_) || s.tag) || (decide (0 < (s.vars.length : Int))))) <;> cases ((!s.arrow) && ((!decide (s.dom = 0)) || (!decide (s.cod = 0)))) <;> cases s.rec_ <;> cases s.tag <;> cases decide ((s.fields.length : Int) = 0) <;> cases decide ((s.tags.length : Int) = 0) <;> rfl
def numP (l : List Int) (i : Nat) (x : Int) : Prop := 0 ≤ x ∧ x ≤ 999 ∧ (0 < i → ∀ y, l[i - 1]? = some y → y < x)
theorem prev {α : Type} {l : List α} {i : Nat} {x : α} (hx : l[i]? = some x) (h0 : 0 < i) : ∃ y, l[i - 1]? = some y ∧ idx l ((i : Int) - 1) = some y := by
  have := getLt hx
  refine ⟨l[i - 1], List.getElem?_eq_getElem (by omega), ?_⟩
  rw [show (i : Int) - 1 = ((i - 1 : Nat) : Int) by omega, idx_nat]
  exact List.getElem?_eq_getElem (by omega)
theorem numbered_eq (l : List Int) (h : l.length ≤ 40) : m_auto_numbered l = some (decide (∀ i x, l[i]? = some x → numP l i x)) := by
  unfold m_auto_numbered
  refine bnd (loop_all (φ := m_auto_numbered_l1 l) (l := l) false (numP l) ?_ ?_ (by rw [FUv]; omega)) ?_
  · intro n i x hx hi
    simp only [m_auto_numbered_l1]
    rw [decide_eq_true (show (i : Int) < l.length by omega), cond_true, getI hx, Option.bind_some]
    by_cases h1 : x < 0 ∨ 999 < x
    · rw [show (decide (x < 0) || decide (999 < x)) = true by simpa using h1, cond_true, Option.bind_some, cond_true]
      exact ⟨fun hq => by obtain ⟨h2, h3, _⟩ := hq; omega, fun _ => rfl⟩
    · rw [show (decide (x < 0) || decide (999 < x)) = false by simpa using h1, cond_false]
      by_cases h0 : 0 < i
      · obtain ⟨y, hy, hy2⟩ := prev hx h0
        rw [decide_eq_true (show 0 < (i : Int) by omega), cond_true, grd_pos (by omega), hy2]
        simp only [Option.bind_some]
        by_cases h2 : x ≤ y
        · rw [decide_eq_true h2, cond_true]
          exact ⟨fun hq => by have := hq.2.2 h0 y hy; omega, fun _ => rfl⟩
        · rw [decide_eq_false h2, cond_false, grd_pos (by omega)]
          refine ⟨fun _ => rfl, fun hq => absurd ⟨by omega, by omega, fun _ z hz => ?_⟩ hq⟩
          rw [hy] at hz
          have := Option.some.inj hz
          omega
      · rw [decide_eq_false (show ¬ 0 < (i : Int) by omega), cond_false]
        rw [Option.bind_some, Option.bind_some, cond_false, grd_pos (by omega)]
        exact ⟨fun _ => rfl, fun hq => absurd ⟨by omega, by omega, fun h3 => absurd h3 h0⟩ hq⟩
  · intro n
    simp only [m_auto_numbered_l1]
    rw [decide_eq_false (by omega), cond_false]
  · by_cases hp : ∀ i x, l[i]? = some x → numP l i x
    · rw [if_pos hp, decide_eq_true hp]; rfl
    · rw [if_neg hp, decide_eq_false hp]; rfl
def edgeP (isN : List UInt8 → Bool) (l : List AutoEdge) (i : Nat) (x : AutoEdge) : Prop := isN x.name = true ∧ (0 < i → ∀ y, l[i - 1]? = some y → Op.bytesLess y.name x.name = true)
def edgesP (isN : List UInt8 → Bool) (l : List AutoEdge) : Prop := (∀ i x, l[i]? = some x → edgeP isN l i x) ∧ l.length ≤ 30
theorem named_eq (l : List AutoEdge) (f : List UInt8 → Option Bool) (isN : List UInt8 → Bool) (hf : ∀ s, f s = some (isN s)) (h : l.length ≤ 40) : m_auto_named l f = some (decide (edgesP isN l)) := by
  unfold m_auto_named
  refine bnd (loop_all (φ := m_auto_named_l1 l f) (l := l) false (edgeP isN l) ?_ ?_ (by rw [FUv]; omega)) ?_
  · intro n i x hx hi
    simp only [m_auto_named_l1]
    rw [decide_eq_true (show (i : Int) < l.length by omega), cond_true, getI hx, Option.bind_some, hf, Option.bind_some]
    cases h1 : isN x.name with
    | false => exact ⟨fun hq => absurd hq.1 (by rw [h1]; simp), fun _ => rfl⟩
    | true =>
      rw [Bool.not_true, cond_false]
      by_cases h0 : 0 < i
      · obtain ⟨y, hy, hy2⟩ := prev hx h0
        rw [decide_eq_true (show 0 < (i : Int) by omega), cond_true, grd_pos (by omega), hy2]
        simp only [Option.bind_some]
        cases h2 : Op.bytesLess y.name x.name with
        | false =>
          rw [Bool.not_false, cond_true]
          exact ⟨fun hq => absurd (hq.2 h0 y hy) (by rw [h2]; simp), fun _ => rfl⟩
        | true =>
          rw [Bool.not_true, cond_false, grd_pos (by omega)]
          refine ⟨fun _ => rfl, fun hq => absurd ⟨h1, fun _ z hz => ?_⟩ hq⟩
          rw [hy] at hz
          rw [← Option.some.inj hz]; exact h2
      · rw [decide_eq_false (show ¬ 0 < (i : Int) by omega), cond_false, grd_pos (by omega)]
        exact ⟨fun _ => rfl, fun hq => absurd ⟨h1, fun h3 => absurd h3 h0⟩ hq⟩
  · intro n
    simp only [m_auto_named_l1]
    rw [decide_eq_false (by omega), cond_false]
  · by_cases hp : ∀ i x, l[i]? = some x → edgeP isN l i x
    · rw [if_pos hp]
      show some (decide _) = _
      congr 1
      exact decide_eq_decide.2 ⟨fun h2 => ⟨hp, by omega⟩, fun h2 => by have := h2.2; omega⟩
    · rw [if_neg hp, decide_eq_false (p := edgesP isN l) (fun h2 => hp h2.1)]; rfl
def isNT (t : Bool) (s : List UInt8) : Bool := bif t then tagP s else nameP s
theorem redges_eq (l : List AutoEdge) (t : Bool) (h : l.length ≤ 40) : m_syntagmaref24_edges l t = some (decide (edgesP (isNT t) l)) := by
  unfold m_syntagmaref24_edges
  refine bnd (loop_all (φ := m_syntagmaref24_edges_l1 l t) (l := l) false (edgeP (isNT t) l) ?_ ?_ (by rw [FUv]; omega)) ?_
  · intro n i x hx hi
    simp only [m_syntagmaref24_edges_l1]
    rw [decide_eq_true (show (i : Int) < l.length by omega), cond_true, getI hx, Option.bind_some]
    have e1 : ((bif (!t) then ((m_syntagmaref03_Name x.name).bind fun x2 => some (!x2)) else (some false)).bind fun p1 => (bif p1 then (some true) else ((bif t then ((m_syntagmaref03_Tag x.name).bind fun x3 => some (!x3)) else (some false)).bind fun p3 => some p3))) = some (!isNT t x.name) := by
      rw [rname_eq, rtag_eq]
      unfold isNT
      cases t <;> cases nameP x.name <;> cases tagP x.name <;> rfl
    rw [← Option.bind_assoc, e1, Option.bind_some]
    cases h1 : isNT t x.name with
    | false => exact ⟨fun hq => absurd hq.1 (by rw [h1]; simp), fun _ => rfl⟩
    | true =>
      rw [Bool.not_true, cond_false]
      by_cases h0 : 0 < i
      · obtain ⟨y, hy, hy2⟩ := prev hx h0
        rw [decide_eq_true (show 0 < (i : Int) by omega), cond_true, grd_pos (by omega), hy2]
        simp only [Option.bind_some]
        cases h2 : Op.bytesLess y.name x.name with
        | false =>
          rw [Bool.not_false, cond_true]
          exact ⟨fun hq => absurd (hq.2 h0 y hy) (by rw [h2]; simp), fun _ => rfl⟩
        | true =>
          rw [Bool.not_true, cond_false, grd_pos (by omega)]
          refine ⟨fun _ => rfl, fun hq => absurd ⟨h1, fun _ z hz => ?_⟩ hq⟩
          rw [hy] at hz
          rw [← Option.some.inj hz]; exact h2
      · rw [decide_eq_false (show ¬ 0 < (i : Int) by omega), cond_false]
        rw [Option.bind_some, Option.bind_some, cond_false, grd_pos (by omega)]
        exact ⟨fun _ => rfl, fun hq => absurd ⟨h1, fun h3 => absurd h3 h0⟩ hq⟩
  · intro n
    simp only [m_syntagmaref24_edges_l1]
    rw [decide_eq_false (by omega), cond_false]
  · by_cases hp : ∀ i x, l[i]? = some x → edgeP (isNT t) l i x
    · rw [if_pos hp]
      show some (decide _) = _
      congr 1
      exact decide_eq_decide.2 ⟨fun h2 => ⟨hp, by omega⟩, fun h2 => by have := h2.2; omega⟩
    · rw [if_neg hp, decide_eq_false (p := edgesP (isNT t) l) (fun h2 => hp h2.1)]; rfl
end Go.Proofs.Ytafphfokopkhdaa
set_option linter.unusedVariables false
set_option linter.unusedSimpArgs false
set_option maxRecDepth 100000
namespace Go.Proofs.Ytafphfokopkhdaa
open Go.V
open Classical
theorem find_any {α : Type} (l : List α) (p : α → Bool) : (decide ((0 : Int) ≤ (match l.findIdx? p with | some i => (i : Int) | none => -1))) = l.any p := by
  cases hf : l.findIdx? p with
  | none =>
    rw [List.findIdx?_eq_none_iff] at hf
    rw [decide_eq_false (by simp)]
    symm
    rw [List.any_eq_false]
    intro x hx
    rw [hf x hx]; simp
  | some k =>
    rw [List.findIdx?_eq_some_iff_getElem] at hf
    obtain ⟨hk, h1, _⟩ := hf
    rw [decide_eq_true (by simp)]
    symm
    rw [List.any_eq_true]
    exact ⟨_, List.getElem_mem hk, h1⟩
theorem hasInt_eq (l : List Int) (f : Int → Option Bool) (p : Int → Bool) (hf : ∀ x, f x = some (p x)) (h : l.length ≤ 100000) : m_slices_ContainsFunc_int_int l f = some (l.any p) := by
  unfold m_slices_ContainsFunc_int_int m_slices_IndexFunc_int_int
  have e := loop_find (φ := m_slices_IndexFunc_int_int_l1 l f) (l := l) (fun i => (i : Int)) p (by
    intro n i x hx hi
    simp only [m_slices_IndexFunc_int_int_l1]
    rw [decide_eq_true (show (i : Int) < l.length by omega), cond_true, getI hx, Option.bind_some, hf, Option.bind_some]
    constructor
    · intro hq; rw [hq, cond_false, grd_pos (by omega)]
    · intro hq; rw [hq, cond_true]) (by
    intro n
    simp only [m_slices_IndexFunc_int_int_l1]
    rw [decide_eq_false (by omega), cond_false]) (by rw [FUv]; omega)
  rw [bind_of e, ← find_any]
  cases l.findIdx? p <;> rfl
theorem hasState_eq (l : List AutoState) (f : AutoState → Option Bool) (p : AutoState → Bool) (hf : ∀ x ∈ l, f x = some (p x)) (h : l.length ≤ 100000) : m_slices_ContainsFunc_auto_State_auto_State l f = some (l.any p) := by
  unfold m_slices_ContainsFunc_auto_State_auto_State m_slices_IndexFunc_auto_State_auto_State
  have e := loop_find (φ := m_slices_IndexFunc_auto_State_auto_State_l1 l f) (l := l) (fun i => (i : Int)) p (by
    intro n i x hx hi
    simp only [m_slices_IndexFunc_auto_State_auto_State_l1]
    rw [decide_eq_true (show (i : Int) < l.length by omega), cond_true, getI hx, Option.bind_some, hf x (List.mem_of_getElem? hx), Option.bind_some]
    constructor
    · intro hq; rw [hq, cond_false, grd_pos (by omega)]
    · intro hq; rw [hq, cond_true]) (by
    intro n
    simp only [m_slices_IndexFunc_auto_State_auto_State_l1]
    rw [decide_eq_false (by omega), cond_false]) (by rw [FUv]; omega)
  rw [bind_of e, ← find_any]
  cases l.findIdx? p <;> rfl
/-- Where the states that a state leads to stand. -/
def sideP (s : AutoState) (i : Nat) : Bool := bif s.arrow && decide (i = 0) then !s.plus else s.plus
def leadP (a : AutoAuto) (s : AutoState) : Prop := ∀ i x, (nextP s)[i]? = some x → onP a x (sideP s i) = true
def rightP (a : AutoAuto) (s : AutoState) : Prop := bareP s = true ∧ (∀ i x, s.vars[i]? = some x → numP s.vars i x) ∧ edgesP nameP s.fields ∧ edgesP tagP s.tags ∧ leadP a s
theorem leadP_arrow (a : AutoAuto) (s : AutoState) (h : s.arrow = true) : leadP a s ↔ onP a s.dom (!s.plus) = true ∧ onP a s.cod s.plus = true ∧ ∀ x ∈ s.fields.map (·.to_) ++ s.tags.map (·.to_), onP a x s.plus = true := by
  unfold leadP nextP sideP
  rw [if_pos h, h]
  simp only [List.cons_append, List.nil_append, Bool.true_and]
  constructor
  · intro hh
    refine ⟨by simpa using hh 0 s.dom rfl, by simpa using hh 1 s.cod rfl, fun x hx => ?_⟩
    obtain ⟨k, hk, hk2⟩ := List.getElem_of_mem hx
    have := hh (k + 2) x (by rw [← hk2]; exact List.getElem?_eq_getElem hk)
    simpa using this
  · rintro ⟨h1, h2, h3⟩ i x hx
    match i, hx with
    | 0, hx => rw [← Option.some.inj hx]; simpa using h1
    | 1, hx => rw [← Option.some.inj hx]; simpa using h2
    | k + 2, hx => simpa using h3 x (List.mem_of_getElem? (by simpa using hx))
theorem leadP_plain (a : AutoAuto) (s : AutoState) (h : s.arrow = false) : leadP a s ↔ ∀ x ∈ s.fields.map (·.to_) ++ s.tags.map (·.to_), onP a x s.plus = true := by
  unfold leadP nextP sideP
  rw [if_neg (by rw [h]; simp), h]
  simp only [List.nil_append, Bool.false_and, cond_false]
  constructor
  · intro hh x hx
    obtain ⟨k, hk, hk2⟩ := List.getElem_of_mem hx
    exact hh k x (by rw [← hk2]; exact List.getElem?_eq_getElem hk)
  · intro hh i x hx
    exact hh x (List.mem_of_getElem? hx)
theorem not_any {α : Type} (l : List α) (p : α → Bool) : (!l.any (fun x => !p x)) = decide (∀ x ∈ l, p x = true) := by
  rw [Bool.eq_iff_iff]
  simp
theorem right_eq (a : AutoAuto) (s : AutoState) (h : SB s) : m_auto_Auto_right a s = some (decide (rightP a s)) := by
  obtain ⟨h1, h2, h3⟩ := h
  unfold m_auto_Auto_right
  rw [bare_eq, Option.bind_some, numbered_eq _ h1, named_eq _ _ nameP name_eq h2, named_eq _ _ tagP tag_eq h3]
  by_cases c1 : bareP s = true
  rotate_left
  · rw [Bool.not_eq_true] at c1
    rw [c1, decide_eq_false (p := rightP a s) (fun h => by have := h.1; rw [c1] at this; simp at this)]; rfl
  by_cases c2 : ∀ i x, s.vars[i]? = some x → numP s.vars i x
  rotate_left
  · rw [c1, decide_eq_false c2, decide_eq_false (p := rightP a s) (fun h => c2 h.2.1)]; rfl
  by_cases c3 : edgesP nameP s.fields
  rotate_left
  · rw [c1, decide_eq_true c2, decide_eq_false c3, decide_eq_false (p := rightP a s) (fun h => c3 h.2.2.1)]; rfl
  by_cases c4 : edgesP tagP s.tags
  rotate_left
  · rw [c1, decide_eq_true c2, decide_eq_true c3, decide_eq_false c4, decide_eq_false (p := rightP a s) (fun h => c4 h.2.2.2.1)]; rfl
  rw [c1, decide_eq_true c2, decide_eq_true c3, decide_eq_true c4]
  simp only [Bool.not_true, cond_false, Option.bind_some]
  have e : decide (rightP a s) = decide (leadP a s) := decide_eq_decide.2 ⟨fun h => h.2.2.2.2, fun h => ⟨c1, c2, c3, c4, h⟩⟩
  rw [e]
  have e2 : ((m_auto_tos s.fields).bind fun x7 => (m_auto_tos s.tags).bind fun x8 => (m_slices_Concat_int_int [x7, x8]).bind fun x9 => (m_slices_ContainsFunc_int_int x9 (fun y0 => m_auto_Auto_right_1 y0 a s)).bind fun x10 => some (!x10)) = some (decide (∀ x ∈ s.fields.map (·.to_) ++ s.tags.map (·.to_), onP a x s.plus = true)) := by
    rw [tos_eq _ h2, Option.bind_some, tos_eq _ h3, Option.bind_some, concat_eq _ (by simp) (by
      intro l hl
      simp only [List.mem_cons, List.not_mem_nil, or_false] at hl
      rcases hl with rfl | rfl
      · simpa using h2
      · simpa using h3), Option.bind_some, hasInt_eq _ _ (fun x => !onP a x s.plus) (fun x => by rw [m_auto_Auto_right_1, on_eq]; rfl) (by simp; omega), Option.bind_some, not_any]
    simp
  cases ha : s.arrow with
  | false =>
    rw [cond_false, Option.bind_some, cond_false, e2]
    congr 1
    exact decide_eq_decide.2 (leadP_plain a s ha).symm
  | true =>
    rw [cond_true, on_eq, Option.bind_some, on_eq, decide_eq_decide.2 (leadP_arrow a s ha)]
    have e3 : decide (onP a s.dom (!s.plus) = true ∧ onP a s.cod s.plus = true ∧ ∀ x ∈ s.fields.map (·.to_) ++ s.tags.map (·.to_), onP a x s.plus = true) = (onP a s.dom (!s.plus) && (onP a s.cod s.plus && decide (∀ x ∈ s.fields.map (·.to_) ++ s.tags.map (·.to_), onP a x s.plus = true))) := by
      rw [Bool.eq_iff_iff, decide_eq_true_eq, Bool.and_eq_true, Bool.and_eq_true, decide_eq_true_eq]
    rw [e3]
    cases onP a s.dom (!s.plus) with
    | false => rfl
    | true =>
      cases onP a s.cod s.plus with
      | false => rfl
      | true => exact e2
theorem rright_eq (a : AutoAuto) (s : AutoState) (h : SB s) (ha : a.l.length ≤ 100000) : m_syntagmaref24_right a s = some (decide (rightP a s)) := by
  have hSB := h
  obtain ⟨h1, h2, h3⟩ := h
  unfold m_syntagmaref24_right
  rw [rbare_eq]
  by_cases c1 : bareP s = true
  rotate_left
  · rw [Bool.not_eq_true] at c1
    rw [c1, decide_eq_false (p := rightP a s) (fun h => by have := h.1; rw [c1] at this; simp at this)]; rfl
  rw [c1, Bool.not_true, cond_false]
  have e1 := loop_all (φ := m_syntagmaref24_right_l1 s) (l := s.vars) false (numP s.vars) (by
    intro n i x hx hi
    simp only [m_syntagmaref24_right_l1]
    rw [decide_eq_true (show (i : Int) < s.vars.length by omega), cond_true, getI hx, Option.bind_some, Option.bind_some]
    by_cases h1 : x < 0
    · rw [decide_eq_true h1, cond_true]
      exact ⟨fun hq => absurd hq.1 (by omega), fun _ => rfl⟩
    rw [decide_eq_false h1, cond_false]
    by_cases h2 : 999 < x
    · rw [decide_eq_true h2, cond_true]
      exact ⟨fun hq => absurd hq.2.1 (by omega), fun _ => rfl⟩
    rw [decide_eq_false h2, cond_false]
    by_cases h0 : 0 < i
    · obtain ⟨y, hy, hy2⟩ := prev hx h0
      rw [decide_eq_true (show 0 < (i : Int) by omega), cond_true, grd_pos (by omega), hy2, Option.bind_some, Option.bind_some]
      by_cases h2 : x ≤ y
      · rw [decide_eq_true h2, cond_true]
        exact ⟨fun hq => absurd (hq.2.2 h0 y hy) (by omega), fun _ => rfl⟩
      · rw [decide_eq_false h2, cond_false, grd_pos (by omega)]
        refine ⟨fun _ => rfl, fun hq => absurd ⟨by omega, by omega, fun _ z hz => ?_⟩ hq⟩
        rw [hy] at hz
        have := Option.some.inj hz
        omega
    · rw [decide_eq_false (show ¬ 0 < (i : Int) by omega), cond_false, grd_pos (by omega)]
      exact ⟨fun _ => rfl, fun hq => absurd ⟨by omega, by omega, fun h3 => absurd h3 h0⟩ hq⟩) (by
    intro n
    simp only [m_syntagmaref24_right_l1]
    rw [decide_eq_false (by omega), cond_false]) (by rw [FUv]; omega)
  refine bnd e1 ?_
  by_cases c2 : ∀ i x, s.vars[i]? = some x → numP s.vars i x
  rotate_left
  · rw [if_neg c2, decide_eq_false (p := rightP a s) (fun h => c2 h.2.1)]; rfl
  rw [if_pos c2, go_on, rnext_eq s hSB, Option.bind_some]
  have hn := nextP_len s hSB
  have e2 := loop_all (φ := m_syntagmaref24_right_l2 a s (nextP s)) (l := nextP s) false (fun i x => onP a x (sideP s i) = true) (by
    intro n i x hx hi
    simp only [m_syntagmaref24_right_l2]
    rw [decide_eq_true (show (i : Int) < (nextP s).length by omega), cond_true, getI hx, Option.bind_some, Option.bind_some, Option.bind_some]
    by_cases h1 : x < 0
    · rw [decide_eq_true h1, cond_true]
      have : onP a x (sideP s i) = false := by unfold onP idx; rw [if_neg (by omega)]
      rw [this]
      exact ⟨fun hq => absurd hq (by simp), fun _ => rfl⟩
    rw [decide_eq_false h1, cond_false]
    by_cases h2 : (a.l.length : Int) ≤ x
    · rw [decide_eq_true h2, cond_true]
      have : onP a x (sideP s i) = false := by unfold onP idx; rw [if_pos (by omega), List.getElem?_eq_none (by omega)]
      rw [this]
      exact ⟨fun hq => absurd hq (by simp), fun _ => rfl⟩
    rw [decide_eq_false h2, cond_false]
    have hx : idx a.l x = some a.l[x.toNat] := by
      unfold idx
      rw [if_pos (by omega)]
      exact List.getElem?_eq_getElem (by omega)
    have e : onP a x (sideP s i) = (a.l[x.toNat].plus == sideP s i) := by unfold onP; rw [hx]
    rw [e, hx, Option.bind_some, grd_pos (by omega)]
    have e3 : ((a.l[x.toNat].plus == s.plus) == (s.arrow && decide ((i : Int) = 0))) = !(a.l[x.toNat].plus == sideP s i) := by
      rw [show decide ((i : Int) = 0) = decide (i = 0) from decide_eq_decide.2 (by omega)]
      unfold sideP
      cases a.l[x.toNat].plus <;> cases s.plus <;> cases s.arrow && decide (i = 0) <;> rfl
    rw [e3]
    cases a.l[x.toNat].plus == sideP s i with
    | false => exact ⟨fun hq => absurd hq (by simp), fun _ => rfl⟩
    | true => exact ⟨fun _ => rfl, fun hq => absurd rfl hq⟩) (by
    intro n
    simp only [m_syntagmaref24_right_l2]
    rw [decide_eq_false (by omega), cond_false]) (by rw [FUv]; omega)
  refine bnd e2 ?_
  by_cases c3 : ∀ i x, (nextP s)[i]? = some x → onP a x (sideP s i) = true
  rotate_left
  · rw [if_neg c3, decide_eq_false (p := rightP a s) (fun h => c3 h.2.2.2.2)]; rfl
  rw [if_pos c3, go_on, redges_eq _ _ h2, redges_eq _ _ h3, Option.bind_some, Option.bind_some, bf, Option.bind_some]
  congr 1
  rw [Bool.eq_iff_iff, decide_eq_true_eq, Bool.and_eq_true, decide_eq_true_eq, decide_eq_true_eq]
  exact ⟨fun h => ⟨c1, c2, h.1, h.2, c3⟩, fun h => ⟨h.2.2.1, h.2.2.2.1⟩⟩
noncomputable def mayP (a : AutoAuto) : Int := if a.l.length = 0 ∨ 2000 < a.l.length then 8 else if (∀ s ∈ a.l, rightP a s) ∧ onP a a.start true = true then 0 else 4
theorem may_eq (a : AutoAuto) (h : AB a) : m_auto_May a = some (mayP a) := by
  obtain ⟨h1, h2⟩ := h
  unfold m_auto_May mayP
  by_cases c0 : a.l.length = 0 ∨ 2000 < a.l.length
  · rw [if_pos c0, show (decide ((a.l.length : Int) = 0) || decide (2000 < (a.l.length : Int))) = true by rw [Bool.or_eq_true, decide_eq_true_eq, decide_eq_true_eq]; omega, cond_true]
  rw [if_neg c0, show (decide ((a.l.length : Int) = 0) || decide (2000 < (a.l.length : Int))) = false by rw [Bool.or_eq_false_iff, decide_eq_false_iff_not, decide_eq_false_iff_not]; omega, cond_false, on_eq, Option.bind_some]
  have e := hasState_eq a.l (fun y0 => m_auto_May_1 y0 a) (fun s => !decide (rightP a s)) (by
    intro s hs
    rw [m_auto_May_1, right_eq _ _ (h2 s hs)]; rfl) (by omega)
  rw [e]
  have e2 : (a.l.any fun s => !decide (rightP a s)) = !decide (∀ s ∈ a.l, rightP a s) := by
    rw [← Bool.not_not (b := a.l.any _), not_any]
    congr 1
    exact decide_eq_decide.2 (by simp)
  rw [e2, Option.bind_some, bt, Option.bind_some]
  cases hb : onP a a.start true with
  | false => rw [if_neg (by simp)]; rfl
  | true =>
    by_cases hc : ∀ s ∈ a.l, rightP a s
    · rw [decide_eq_true hc, if_pos ⟨hc, rfl⟩]; rfl
    · rw [decide_eq_false hc, if_neg (fun h => hc h.1)]; rfl
theorem rmay_eq (a : AutoAuto) (h : AB a) : m_syntagmaref24_May a = some (mayP a) := by
  obtain ⟨h1, h2⟩ := h
  unfold m_syntagmaref24_May mayP
  by_cases c0 : a.l.length = 0 ∨ 2000 < a.l.length
  · rw [if_pos c0, show (decide ((a.l.length : Int) < 1) || decide (2000 < (a.l.length : Int))) = true by rw [Bool.or_eq_true, decide_eq_true_eq, decide_eq_true_eq]; omega, cond_true]
  rw [if_neg c0, show (decide ((a.l.length : Int) < 1) || decide (2000 < (a.l.length : Int))) = false by rw [Bool.or_eq_false_iff, decide_eq_false_iff_not, decide_eq_false_iff_not]; omega, cond_false]
  refine bnd (loop_all (φ := m_syntagmaref24_May_l1 a) (l := a.l) 4 (fun _ s => rightP a s) ?_ ?_ (by rw [FUv]; omega)) ?_
  · intro n i x hx hi
    simp only [m_syntagmaref24_May_l1]
    rw [decide_eq_true (show (i : Int) < a.l.length by omega), cond_true, getI hx, Option.bind_some, rright_eq a x (h2 x (List.mem_of_getElem? hx)) (by omega), Option.bind_some]
    constructor
    · intro hq; rw [decide_eq_true hq, Bool.not_true, cond_false, grd_pos (by omega)]
    · intro hq; rw [decide_eq_false hq, Bool.not_false, cond_true]
  · intro n
    simp only [m_syntagmaref24_May_l1]
    rw [decide_eq_false (by omega), cond_false]
  by_cases hc : ∀ s ∈ a.l, rightP a s
  rotate_left
  · rw [if_neg (fun h => hc (fun s hs => by obtain ⟨k, hk, hk2⟩ := List.getElem_of_mem hs; exact h k s (by rw [← hk2]; exact List.getElem?_eq_getElem hk))), if_neg (fun h => hc h.1)]; rfl
  rw [if_pos (fun i x hx => hc x (List.mem_of_getElem? hx)), go_on]
  have e : (bif ((decide (a.start < 0)) || (decide ((a.l.length : Int) ≤ a.start))) then (some true) else ((idx a.l a.start).bind fun x3 => some (!x3.plus))) = some (!onP a a.start true) := by
    unfold onP
    by_cases hs : a.start < 0 ∨ (a.l.length : Int) ≤ a.start
    · have : idx a.l a.start = none := by
        unfold idx
        split
        · exact List.getElem?_eq_none (by omega)
        · rfl
      rw [this, show (decide (a.start < 0) || decide ((a.l.length : Int) ≤ a.start)) = true by simpa using hs]; rfl
    · have hx : idx a.l a.start = some a.l[a.start.toNat] := by
        unfold idx
        rw [if_pos (by omega)]
        exact List.getElem?_eq_getElem (by omega)
      rw [hx, show (decide (a.start < 0) || decide ((a.l.length : Int) ≤ a.start)) = false by simpa using hs, cond_false, Option.bind_some]
      show some _ = some (!(_ == true))
      cases a.l[a.start.toNat].plus <;> rfl
  rw [bind_of e]
  cases hb : onP a a.start true with
  | false => rw [if_neg (by simp)]; rfl
  | true => rw [if_pos ⟨hc, rfl⟩]; rfl
end Go.Proofs.Ytafphfokopkhdaa
set_option linter.unusedVariables false
set_option linter.unusedSimpArgs false
set_option maxRecDepth 100000
namespace Go.Proofs.Ytafphfokopkhdaa
open Go.V
open Classical
theorem lenNe {α β : Type} (a : List α) (b : List β) : (!decide ((a.length : Int) = (b.length : Int))) = !decide (a.length = b.length) := by
  congr 1; exact decide_eq_decide.2 (by omega)
theorem edge_eqv (x y : AutoEdge) : AutoEdge.eqv x y = decide (x = y) := by
  unfold AutoEdge.eqv
  rw [Bool.eq_iff_iff]
  simp only [Bool.and_true, Bool.and_eq_true, beq_iff_eq, decide_eq_true_eq]
  cases x; cases y; simp
theorem rEdges_eq (a b : List AutoEdge) (h : a.length ≤ 3000) : m_syntagmaref24_sameEdges a b = some (decide (a = b)) := by
  unfold m_syntagmaref24_sameEdges
  rw [lenNe]
  by_cases hl : a.length = b.length
  · rw [decide_eq_true hl, Bool.not_true, cond_false]
    refine bnd (loop_same (φ := m_syntagmaref24_sameEdges_l1 a b) (l := a) (m := b) false hl ?_ ?_ (by rw [FUv]; omega)) ?_
    · intro n i x y hx hy hi
      simp only [m_syntagmaref24_sameEdges_l1]
      rw [decide_eq_true (show (i : Int) < a.length by omega), cond_true, getI hx, Option.bind_some, getI hy, Option.bind_some, edge_eqv]
      exact ⟨fun hq => by rw [decide_eq_true hq, Bool.not_true, cond_false, grd_pos (by omega)], fun hq => by rw [decide_eq_false hq, Bool.not_false, cond_true]⟩
    · intro n
      simp only [m_syntagmaref24_sameEdges_l1]
      rw [decide_eq_false (by omega), cond_false]
    · by_cases hab : a = b
      · rw [if_pos hab, decide_eq_true hab]; rfl
      · rw [if_neg hab, decide_eq_false hab]; rfl
  · rw [decide_eq_false hl, decide_eq_false (p := a = b) (fun h => hl (by rw [h]))]; rfl
theorem state_iff (a b : AutoState) : a = b ↔ a.plus = b.plus ∧ a.all = b.all ∧ a.int = b.int ∧ a.bool = b.bool ∧ a.str = b.str ∧ a.arrow = b.arrow ∧ a.rec_ = b.rec_ ∧ a.tag = b.tag ∧ a.vars = b.vars ∧ a.dom = b.dom ∧ a.cod = b.cod ∧ a.fields = b.fields ∧ a.tags = b.tags := by
  cases a; cases b; simp
theorem rsameState_eq (a b : AutoState) (h : SB a) : m_syntagmaref24_SameState a b = some (decide (a = b)) := by
  obtain ⟨h1, h2, h3⟩ := h
  unfold m_syntagmaref24_SameState
  rw [sameInts_eq _ _ (by omega), rEdges_eq _ _ (by omega), rEdges_eq _ _ (by omega)]
  simp only [Option.bind_some, bf]
  congr 1
  rw [Bool.eq_iff_iff, decide_eq_true_eq, state_iff]
  simp only [Bool.and_eq_true, beq_iff_eq, decide_eq_true_eq]
  constructor
  · rintro ⟨⟨⟨⟨⟨⟨⟨⟨⟨⟨⟨⟨h1, h2⟩, h3⟩, h4⟩, h5⟩, h6⟩, h7⟩, h8⟩, h9⟩, h10⟩, h11⟩, h12⟩, h13⟩
    exact ⟨h1, h2, h3, h4, h5, h6, h7, h8, h11, h9, h10, h12, h13⟩
  · rintro ⟨h1, h2, h3, h4, h5, h6, h7, h8, h11, h9, h10, h12, h13⟩
    exact ⟨⟨⟨⟨⟨⟨⟨⟨⟨⟨⟨⟨h1, h2⟩, h3⟩, h4⟩, h5⟩, h6⟩, h7⟩, h8⟩, h9⟩, h10⟩, h11⟩, h12⟩, h13⟩
theorem auto_iff (a b : AutoAuto) : a = b ↔ a.l = b.l ∧ a.start = b.start := by cases a; cases b; simp
theorem sameList_eq (a b : AutoAuto) (h : AB a) : m_syntagmaref24_SameList a b = some (decide (a = b)) := by
  obtain ⟨h, hs⟩ := h
  unfold m_syntagmaref24_SameList
  rw [lenNe]
  by_cases c1 : a.start = b.start
  rotate_left
  · rw [decide_eq_false c1, decide_eq_false (p := a = b) (fun h => c1 (by rw [h]))]; cases decide (a.l.length = b.l.length) <;> rfl
  rw [decide_eq_true c1, Bool.not_true, Bool.or_false]
  by_cases hl : a.l.length = b.l.length
  · rw [decide_eq_true hl, Bool.not_true, cond_false]
    refine bnd (loop_same (φ := m_syntagmaref24_SameList_l1 a b) (l := a.l) (m := b.l) false hl ?_ ?_ (by rw [FUv]; omega)) ?_
    · intro n i x y hx hy hi
      simp only [m_syntagmaref24_SameList_l1]
      rw [decide_eq_true (show (i : Int) < a.l.length by omega), cond_true, getI hx, Option.bind_some, getI hy, Option.bind_some, rsameState_eq _ _ (hs x (List.mem_of_getElem? hx)), Option.bind_some]
      exact ⟨fun hq => by rw [decide_eq_true hq, Bool.not_true, cond_false, grd_pos (by omega)], fun hq => by rw [decide_eq_false hq, Bool.not_false, cond_true]⟩
    · intro n
      simp only [m_syntagmaref24_SameList_l1]
      rw [decide_eq_false (by omega), cond_false]
    · by_cases hab : a.l = b.l
      · rw [if_pos hab, decide_eq_true (show a = b from (auto_iff a b).2 ⟨hab, c1⟩)]; rfl
      · rw [if_neg hab, decide_eq_false (p := a = b) (fun h => hab (by rw [h]))]; rfl
  · rw [decide_eq_false hl, decide_eq_false (p := a = b) (fun h => hl (by rw [h]))]; rfl
def st0 : AutoState := ⟨false, false, false, false, false, false, false, false, [], 0, 0, [], []⟩
def stA (a : AutoAuto) (k : Int) : AutoState := (idx a.l k).getD st0
def nxA (a : AutoAuto) (k : Int) : List Int := nextP (stA a k)
def tm (to : List Int) (k : Int) : Int := (idx to k).getD 0
def edgeM (to : List Int) (x : AutoEdge) : AutoEdge := ⟨x.name, tm to x.to_⟩
def stateM (to : List Int) (s : AutoState) : AutoState := ⟨s.plus, s.all, s.int, s.bool, s.str, s.arrow, s.rec_, s.tag, s.vars, if s.arrow = true then tm to s.dom else s.dom, if s.arrow = true then tm to s.cod else s.cod, s.fields.map (edgeM to), s.tags.map (edgeM to)⟩
def orderP (a : AutoAuto) : List Int := bfs (nxA a) a.l.length 0 [a.start]
def toP (a : AutoAuto) : List Int := setAll 0 (orderP a) (List.replicate a.l.length 0)
def normP (a : AutoAuto) : AutoAuto := ⟨(orderP a).map (fun k => stateM (toP a) (stA a k)), 0⟩
/-- In order as to where all lead. -/
structure Led (a : AutoAuto) : Prop where
  ab : AB a
  led : ∀ k s, idx a.l k = some s → inN a.l.length (nextP s)
  st : 0 ≤ a.start ∧ a.start < (a.l.length : Int)
theorem idx_in {α : Type} {l : List α} {k : Int} (h0 : 0 ≤ k) (h : k < (l.length : Int)) : ∃ x, idx l k = some x ∧ x ∈ l := by
  unfold idx
  rw [if_pos h0]
  exact ⟨l[k.toNat], List.getElem?_eq_getElem (by omega), List.getElem_mem (by omega)⟩
theorem idx_bd {α : Type} {l : List α} {k : Int} {x : α} (h : idx l k = some x) : 0 ≤ k ∧ k < (l.length : Int) := by
  obtain ⟨h0, h1⟩ := idx_some h
  have := getLt h1
  omega
theorem tm_get {to : List Int} {k : Int} (h0 : 0 ≤ k) (h : k < (to.length : Int)) : idx to k = some (tm to k) := by
  obtain ⟨x, hx, _⟩ := idx_in h0 h
  rw [tm, hx]; rfl
theorem stA_get {a : AutoAuto} {k : Int} (h0 : 0 ≤ k) (h : k < (a.l.length : Int)) : idx a.l k = some (stA a k) := by
  obtain ⟨x, hx, _⟩ := idx_in h0 h
  rw [stA, hx]; rfl
theorem stA_mem {a : AutoAuto} {k : Int} (h0 : 0 ≤ k) (h : k < (a.l.length : Int)) : stA a k ∈ a.l := by
  obtain ⟨x, hx, h2⟩ := idx_in h0 h
  rw [stA, hx]; exact h2
section
variable {a : AutoAuto} (ha : Led a)
include ha
theorem nxA_in (x : Int) (h0 : 0 ≤ x) (h : x < (a.l.length : Int)) : inN a.l.length (nxA a x) := ha.led x _ (stA_get h0 h)
theorem start_in : inN a.l.length [a.start] := by
  intro x hx
  simp only [List.mem_singleton] at hx
  subst hx
  exact ha.st
theorem order_ok : (orderP a).Nodup ∧ inN a.l.length (orderP a) ∧ (∃ e, orderP a = [a.start] ++ e) ∧ (∀ (j : Nat) x, 0 ≤ j → (orderP a)[j]? = some x → ∀ y ∈ nxA a x, y ∈ orderP a) :=
  bfs_ok (nxA_in ha) a.l.length 0 [a.start] (by omega) (by simp) (by simp) (start_in ha)
theorem order_len : (orderP a).length ≤ 2001 := by
  have := range_len _ _ (order_ok ha).1 (order_ok ha).2.1
  have := ha.ab.1
  omega
end
theorem to_len {a : AutoAuto} (_ : Led a) : (toP a).length = a.l.length := by unfold toP; rw [setAll_len]; simp
def SeenOk (N : Nat) (l : List Int) (s : List Bool) : Prop := s.length = N ∧ ∀ k : Nat, k < N → s[k]? = some (decide ((k : Int) ∈ l))
theorem seen_get {N : Nat} {l : List Int} {s : List Bool} {x : Int} (h : SeenOk N l s) (h0 : 0 ≤ x) (h1 : x < (N : Int)) : idx s x = some (decide (x ∈ l)) := by
  have := h.2 x.toNat (by omega)
  unfold idx
  rw [if_pos h0, this, show ((x.toNat : Nat) : Int) = x by omega]
theorem seen_set {N : Nat} {l : List Int} {s : List Bool} {x : Int} (h : SeenOk N l s) (h0 : 0 ≤ x) (h1 : x < (N : Int)) : SeenOk N (l ++ [x]) (s.set x.toNat true) := by
  refine ⟨by simp [h.1], fun k hk => ?_⟩
  by_cases e : x.toNat = k
  · rw [← e, List.getElem?_set_self (by rw [h.1]; omega)]
    congr 1
    symm
    rw [decide_eq_true_eq]
    simp; omega
  · rw [List.getElem?_set_ne e, h.2 k hk]
    congr 1
    refine decide_eq_decide.2 ?_
    simp only [List.mem_append, List.mem_singleton]
    exact ⟨fun h => .inl h, fun h => h.elim id (fun h => absurd h (by omega))⟩
theorem reached_l2_eq {N : Nat} (hN : N ≤ 3000) (pre w nx : List Int) (seen : List Bool) (hs : SeenOk N (pre ++ w) seen) (hn : inN N nx) (hd : (pre ++ w).Nodup) (hr : inN N (pre ++ w)) (hlen : nx.length ≤ 100) :
    ∃ w' seen', m_reached_l2 nx FU (0, w, seen) = some (w', seen') ∧ pre ++ w' = addL (pre ++ w) nx ∧ SeenOk N (pre ++ w') seen' := by
  obtain ⟨⟨w', seen'⟩, h1, h2⟩ := loop_rng (φ := fun n i s => m_reached_l2 nx n (i, s.1, s.2)) (l := nx) (fun i s => pre ++ s.1 = addL (pre ++ w) (nx.take i) ∧ SeenOk N (pre ++ s.1) s.2) (fun o => pre ++ o.1 = addL (pre ++ w) nx ∧ SeenOk N (pre ++ o.1) o.2) (by
    rintro n i x ⟨v, s⟩ hx hi ⟨hI1, hI2⟩
    left
    have hxr := hn x (List.mem_of_getElem? hx)
    have hnt : inN N (nx.take i) := fun y hy => hn y (List.mem_of_mem_take hy)
    have hb : (pre ++ v).length ≤ N := by rw [hI1]; exact addL_len hr hnt hd
    simp only [m_reached_l2]
    rw [decide_eq_true (show (i : Int) < nx.length by omega), cond_true, getI hx, Option.bind_some, seen_get hI2 hxr.1 hxr.2, Option.bind_some]
    by_cases hm : x ∈ pre ++ v
    · rw [decide_eq_true hm, Bool.not_true, cond_false, grd_pos (by omega)]
      refine ⟨(v, s), rfl, ?_, hI2⟩
      rw [take_snoc hx, addL_snoc, ← hI1, if_pos hm]
    · rw [decide_eq_false hm, Bool.not_false, cond_true, Option.bind_some, grd_pos (by simp only [List.length_append] at hb; simp only [List.length_cons, List.length_nil]; omega), grd_pos (by omega)]
      refine ⟨(v ++ [x], s.set x.toNat true), rfl, ?_, ?_⟩
      · rw [take_snoc hx, addL_snoc, ← hI1, if_neg hm, List.append_assoc]
      · rw [← List.append_assoc]
        exact seen_set hI2 hxr.1 hxr.2) (by
    rintro n ⟨v, s⟩ ⟨hI1, hI2⟩
    simp only [m_reached_l2]
    rw [decide_eq_false (by omega), cond_false]
    rw [List.take_length] at hI1
    exact ⟨_, rfl, hI1, hI2⟩) (by rw [FUv]; omega) (w, seen) ⟨by simp [addL_nil], hs⟩
  exact ⟨w', seen', h1, h2⟩
theorem drop_get {α : Type} {l : List α} {i : Nat} {x : α} (h : l[i]? = some x) : l.drop i = x :: l.drop (i + 1) := by
  obtain ⟨hi, hx⟩ := List.getElem?_eq_some_iff.1 h
  rw [List.drop_eq_getElem_cons hi, hx]
theorem reached_l1_eq {a : AutoAuto} (ha : Led a) : ∀ (m i : Nat) (l : List Int) (n : Nat) (seen : List Bool), a.l.length ≤ i + m → i ≤ l.length → l.Nodup → inN a.l.length l → m < n → SeenOk a.l.length l seen → m_reached_l1 a n (l.drop i, seen) = some ((bfs (nxA a) m i l).drop i) := by
  intro m
  induction m with
  | zero =>
    intro i l n seen hN hi hd hr hn hs
    have := range_len _ _ hd hr
    obtain ⟨n, rfl⟩ : ∃ k, n = k + 1 := ⟨n - 1, by omega⟩
    rw [show l.drop i = [] from List.drop_eq_nil_of_le (by omega), show (bfs (nxA a) 0 i l).drop i = [] from List.drop_eq_nil_of_le (by simp only [bfs]; omega)]
    rfl
  | succ m ih =>
    intro i l n seen hN hi hd hr hn hs
    obtain ⟨n, rfl⟩ : ∃ k, n = k + 1 := ⟨n - 1, by omega⟩
    cases hx : l[i]? with
    | none =>
      have := List.getElem?_eq_none_iff.1 hx
      rw [bfs_none hx, show l.drop i = [] from List.drop_eq_nil_of_le (by omega)]
      rfl
    | some x =>
      have hxr := hr x (List.mem_of_getElem? hx)
      have hil := getLt hx
      have hin := nxA_in ha x hxr.1 hxr.2
      have hSB := ha.ab.2 _ (stA_mem hxr.1 hxr.2)
      have hl := nextP_len _ hSB
      have hbig := ha.ab.1
      obtain ⟨w', seen', h1, h2, h3⟩ := reached_l2_eq (N := a.l.length) (by omega) (l.take (i + 1)) (l.drop (i + 1)) (nxA a x) seen (by rw [List.take_append_drop]; exact hs) hin (by rw [List.take_append_drop]; exact hd) (by rw [List.take_append_drop]; exact hr) (by unfold nxA; omega)
      rw [List.take_append_drop] at h2
      obtain ⟨e, he⟩ := addL_pre (nxA a x) l
      have hw : w' = (addL l (nxA a x)).drop (i + 1) := by
        rw [← h2, List.drop_append_of_le_length (by simp; omega)]
        simp
      rw [bfs_some hx, drop_get hx]
      simp only [m_reached_l1]
      rw [decide_eq_true (by simp only [List.length_cons]; omega), cond_true, idx_c0, Option.bind_some]
      have hsli : sli (x :: l.drop (i + 1)) 1 ((x :: l.drop (i + 1)).length : Int) = some (l.drop (i + 1)) := by
        have := sli_from (l := x :: l.drop (i + 1)) (i := 1) rfl (by simp)
        simpa using this
      have ih2 := ih (i + 1) (addL l (nxA a x)) n seen' (by omega) (by rw [he]; simp; omega) (addL_nodup _ _ hd) (inN_add hr hin) (by omega) (by rw [← h2]; exact h3)
      rw [hsli, Option.bind_some, stA_get hxr.1 hxr.2, Option.bind_some, next_eq _ hSB, Option.bind_some, show nextP (stA a x) = nxA a x from rfl, h1, Option.bind_some, hw]
      simp only
      rw [ih2, Option.bind_some]
      have hok := bfs_ok (nxA_in ha) m (i + 1) (addL l (nxA a x)) (by omega) (by rw [he]; simp; omega) (addL_nodup _ _ hd) (inN_add hr hin)
      obtain ⟨_, _, ⟨e2, h4⟩, _⟩ := hok
      rw [← drop_get]
      rw [h4, he, List.append_assoc, List.getElem?_append_left hil, hx]
theorem reached_eq {a : AutoAuto} (ha : Led a) : m_reached a = some (orderP a) := by
  have hb := ha.ab.1
  have hst := ha.st
  unfold m_reached
  have hs0 : SeenOk a.l.length [] (List.replicate a.l.length false) := ⟨by simp, fun k hk => by rw [List.getElem?_replicate, if_pos hk]; simp⟩
  rw [grd_pos (by omega), grd_pos (by omega), Int.toNat_natCast, seen_get hs0 hst.1 hst.2, Option.bind_some]
  have := reached_l1_eq ha a.l.length 0 [a.start] FU _ (by omega) (by simp) (by simp) (start_in ha) (by rw [FUv]; omega) (seen_set hs0 hst.1 hst.2)
  simpa [orderP] using this
theorem bhas_eq (l : List Int) (x : Int) (h : l.length ≤ 100000) : m_syntagmabase_HasInt l x = some (decide (x ∈ l)) := by
  unfold m_syntagmabase_HasInt
  refine bnd (loop_any (φ := m_syntagmabase_HasInt_l1 l x) (l := l) true (fun _ y => y = x) ?_ ?_ (by rw [FUv]; omega)) ?_
  · intro n i y hy hi
    simp only [m_syntagmabase_HasInt_l1]
    rw [decide_eq_true (show (i : Int) < l.length by omega), cond_true, getI hy, Option.bind_some]
    exact ⟨fun hq => by rw [decide_eq_false hq, cond_false, grd_pos (by omega)], fun hq => by rw [decide_eq_true hq, cond_true]⟩
  · intro n
    simp only [m_syntagmabase_HasInt_l1]
    rw [decide_eq_false (by omega), cond_false]
  · by_cases hs : x ∈ l
    · obtain ⟨i, hi, h2⟩ := List.getElem_of_mem hs
      rw [if_pos ⟨i, x, by rw [← h2]; exact List.getElem?_eq_getElem hi, rfl⟩, decide_eq_true hs]; rfl
    · rw [if_neg, decide_eq_false hs]; rfl
      rintro ⟨i, y, h1, rfl⟩
      exact hs (List.mem_of_getElem? h1)
theorem rnorm_l2_eq {N : Nat} (hN : N ≤ 3000) (l nx : List Int) (hn : inN N nx) (hd : l.Nodup) (hr : inN N l) (hlen : nx.length ≤ 100) : m_syntagmaref24_Norm_l2 nx FU (0, l) = some (addL l nx) := by
  obtain ⟨o, h1, h2⟩ := loop_rng (φ := fun n i s => m_syntagmaref24_Norm_l2 nx n (i, s)) (l := nx) (fun i s => s = addL l (nx.take i)) (fun o => o = addL l nx) (by
    rintro n i x s hx hi hI
    left
    have hxr := hn x (List.mem_of_getElem? hx)
    have hnt : inN N (nx.take i) := fun y hy => hn y (List.mem_of_mem_take hy)
    have hb : s.length ≤ N := by rw [hI]; exact addL_len hr hnt hd
    simp only [m_syntagmaref24_Norm_l2]
    rw [decide_eq_true (show (i : Int) < nx.length by omega), cond_true, getI hx, Option.bind_some, bhas_eq _ _ (by omega), Option.bind_some]
    by_cases hm : x ∈ s
    · rw [decide_eq_true hm, Bool.not_true, cond_false, grd_pos (by omega)]
      refine ⟨s, rfl, ?_⟩
      rw [take_snoc hx, addL_snoc, ← hI, if_pos hm]
    · rw [decide_eq_false hm, Bool.not_false, cond_true, Option.bind_some, grd_pos (by simp only [List.length_cons, List.length_nil]; omega), grd_pos (by omega)]
      refine ⟨s ++ [x], rfl, ?_⟩
      rw [take_snoc hx, addL_snoc, ← hI, if_neg hm]) (by
    rintro n s hI
    simp only [m_syntagmaref24_Norm_l2]
    rw [decide_eq_false (by omega), cond_false]
    rw [List.take_length] at hI
    exact ⟨_, rfl, hI⟩) (by rw [FUv]; omega) l (by simp [addL_nil])
  rw [h1, h2]
theorem rnorm_l1_eq {a : AutoAuto} (ha : Led a) : ∀ (m i : Nat) (l : List Int) (n : Nat), a.l.length ≤ i + m → i ≤ l.length → l.Nodup → inN a.l.length l → m < n → m_syntagmaref24_Norm_l1 a n ((i : Int), l) = some (bfs (nxA a) m i l) := by
  intro m
  induction m with
  | zero =>
    intro i l n hN hi hd hr hn
    have := range_len _ _ hd hr
    obtain ⟨n, rfl⟩ : ∃ k, n = k + 1 := ⟨n - 1, by omega⟩
    simp only [m_syntagmaref24_Norm_l1]
    rw [decide_eq_false (by omega), cond_false]; rfl
  | succ m ih =>
    intro i l n hN hi hd hr hn
    obtain ⟨n, rfl⟩ : ∃ k, n = k + 1 := ⟨n - 1, by omega⟩
    simp only [m_syntagmaref24_Norm_l1]
    cases hx : l[i]? with
    | none =>
      have := List.getElem?_eq_none_iff.1 hx
      rw [bfs_none hx, decide_eq_false (by omega), cond_false]
    | some x =>
      have hxr := hr x (List.mem_of_getElem? hx)
      have hil := getLt hx
      have hin := nxA_in ha x hxr.1 hxr.2
      have hSB := ha.ab.2 _ (stA_mem hxr.1 hxr.2)
      have hl := nextP_len _ hSB
      have hbig := ha.ab.1
      obtain ⟨e, he⟩ := addL_pre (nxA a x) l
      rw [bfs_some hx, decide_eq_true (by omega), cond_true, getI hx, Option.bind_some, stA_get hxr.1 hxr.2, Option.bind_some, rnext_eq _ hSB, Option.bind_some, show nextP (stA a x) = nxA a x from rfl, rnorm_l2_eq (N := a.l.length) (by omega) l _ hin hd hr (by unfold nxA; omega), Option.bind_some, grd_pos (by have := range_len _ _ hd hr; omega)]
      exact ih (i + 1) (addL l (nxA a x)) n (by omega) (by rw [he]; simp; omega) (addL_nodup _ _ hd) (inN_add hr hin) (by omega)
theorem norm_r1_eq {N : Nat} : ∀ (xs l3 l4 : List Int), inN N xs → l4.length = N → l3.length + xs.length ≤ 100000 → m_auto_norm_r1 xs (l3, l4) = some (l3 ++ xs, setAll l3.length xs l4)
  | [], l3, l4, _, _, _ => by simp [m_auto_norm_r1, setAll]
  | x :: xs, l3, l4, hr, hl, hb => by
    have hx := hr x (by simp)
    simp only [List.length_cons] at hb
    rw [m_auto_norm_r1, tm_get hx.1 (by omega), Option.bind_some, grd_pos (by simp only [List.length_cons, List.length_nil]; omega), norm_r1_eq xs _ _ (fun y hy => hr y (by simp [hy])) (by simpa using hl) (by simp; omega)]
    simp [setAll]
theorem rnorm_l3_eq {N : Nat} (l : List Int) (hr : inN N l) (hb : l.length ≤ 100000) (t : List Int) (ht : t.length = N) : m_syntagmaref24_Norm_l3 l FU (0, t) = some (setAll 0 l t) := by
  have := loop_fold (φ := fun n i s => m_syntagmaref24_Norm_l3 l n (i, s)) (l := l) (fun _ s => s.length = N) (fun i s x => s.set x.toNat (i : Int)) id (by
    intro n i x s hx hi hI
    have hxr := hr x (List.mem_of_getElem? hx)
    simp only [m_syntagmaref24_Norm_l3]
    rw [decide_eq_true (show (i : Int) < l.length by omega), cond_true, getI hx, Option.bind_some, tm_get hxr.1 (by omega), Option.bind_some, grd_pos (by omega)]
    exact ⟨rfl, by simpa using hI⟩) (by
    intro n s hI
    simp only [m_syntagmaref24_Norm_l3]
    rw [decide_eq_false (by omega), cond_false]; rfl) (by rw [FUv]; omega) (fun i t s => setAll i t s) (fun _ _ => rfl) (fun _ _ _ _ => rfl) t ht
  exact this.1
theorem moved_eq (l : List AutoEdge) (to : List Int) (h : l.length ≤ 40) (hr : ∀ x ∈ l, 0 ≤ x.to_ ∧ x.to_ < (to.length : Int)) : m_auto_moved l to = some (l.map (edgeM to)) := by
  unfold m_auto_moved
  rw [grd_pos (by omega)]
  refine bnd (loop_setmap (φ := fun n i s => m_auto_moved_l1 l to n (i, s)) (l := l) (edgeM to) id ?_ ?_ (by rw [FUv]; omega)) rfl
  · intro n i x s hx hi hl hs
    have hxr := hr x (List.mem_of_getElem? hx)
    simp only [m_auto_moved_l1]
    rw [decide_eq_true (show (i : Int) < l.length by omega), cond_true, getI hs, Option.bind_some, tm_get hxr.1 hxr.2, Option.bind_some, Option.bind_some, grd_pos (by omega)]
    rfl
  · intro n s hl
    simp only [m_auto_moved_l1]
    rw [decide_eq_false (by omega), cond_false]; rfl
theorem next_dom {s : AutoState} (h : s.arrow = true) : s.dom ∈ nextP s ∧ s.cod ∈ nextP s := by unfold nextP; rw [if_pos h]; simp
theorem next_f {s : AutoState} {x : AutoEdge} (h : x ∈ s.fields) : x.to_ ∈ nextP s := by
  unfold nextP; simp only [List.mem_append, List.mem_map]; exact .inl (.inr ⟨x, h, rfl⟩)
theorem next_t {s : AutoState} {x : AutoEdge} (h : x ∈ s.tags) : x.to_ ∈ nextP s := by
  unfold nextP; simp only [List.mem_append, List.mem_map]; exact .inr ⟨x, h, rfl⟩
theorem norm_l2_eq {a : AutoAuto} (ha : Led a) (l to : List Int) (hr : inN a.l.length l) (hb : l.length ≤ 100000) (ht : to.length = a.l.length) : m_auto_norm_l2 a l to FU (0, [], 0) = some (l.map (fun k => stateM to (stA a k)), 0) := by
  have := loop_map (φ := fun n i s => m_auto_norm_l2 a l to n (i, s, 0)) (l := l) (fun k => stateM to (stA a k)) (fun s => (s, (0 : Int))) 0 (by
    intro n i x s hx hi hs
    have hxr := hr x (List.mem_of_getElem? hx)
    have hnx := nxA_in ha x hxr.1 hxr.2
    have hSB := ha.ab.2 _ (stA_mem hxr.1 hxr.2)
    obtain ⟨b1, b2, b3⟩ := hSB
    simp only [m_auto_norm_l2]
    rw [decide_eq_true (show (i : Int) < l.length by omega), cond_true, getI hx, Option.bind_some, stA_get hxr.1 hxr.2, Option.bind_some]
    generalize hS : stA a x = S at *
    replace hnx : inN a.l.length (nextP S) := by rw [← hS]; exact hnx
    rw [bind_of (x := (S.plus, S.all, S.int, S.bool, S.str, S.arrow, S.rec_, S.tag, S.vars, (if S.arrow = true then tm to S.dom else S.dom), (if S.arrow = true then tm to S.cod else S.cod), S.fields, S.tags))]
    rotate_left
    · cases h : S.arrow with
      | false => rfl
      | true =>
        have hd := next_dom h
        rw [cond_true, tm_get (hnx _ hd.1).1 (by rw [ht]; exact (hnx _ hd.1).2), Option.bind_some, tm_get (hnx _ hd.2).1 (by rw [ht]; exact (hnx _ hd.2).2), Option.bind_some]
        rfl
    simp only
    rw [grd_pos (by omega), moved_eq _ _ b2 (fun y hy => by rw [ht]; exact hnx _ (next_f hy)), Option.bind_some, moved_eq _ _ b3 (fun y hy => by rw [ht]; exact hnx _ (next_t hy)), Option.bind_some, grd_pos (by simp only [List.length_cons, List.length_nil]; omega), grd_pos (by omega)]
    rfl) (by
    intro n s hs
    simp only [m_auto_norm_l2]
    rw [decide_eq_false (by omega), cond_false]) (by rw [FUv]; omega) [] rfl
  exact this
theorem norm_eq {a : AutoAuto} (ha : Led a) : m_auto_norm a = some (normP a) := by
  have hb := ha.ab.1
  unfold m_auto_norm
  rw [grd_pos (by omega), grd_pos (by omega), reached_eq ha, Option.bind_some, Int.toNat_natCast]
  have hok := order_ok ha
  have hlen := order_len ha
  rw [norm_r1_eq (orderP a) [] _ hok.2.1 (by simp) (by simp; omega), Option.bind_some]
  simp only [List.nil_append, List.length_nil]
  rw [norm_l2_eq ha (orderP a) (setAll 0 (orderP a) (List.replicate a.l.length 0)) hok.2.1 (by omega) (to_len ha), Option.bind_some]
  rfl
theorem rMoved_eq (s : AutoState) (to : List Int) (h : SB s) (hr : inN to.length (nextP s)) : m_syntagmaref24_Moved s to = some (stateM to s) := by
  obtain ⟨b1, b2, b3⟩ := h
  unfold m_syntagmaref24_Moved
  rw [bind_of (x := (s.plus, s.all, s.int, s.bool, s.str, s.arrow, s.rec_, s.tag, s.vars, (if s.arrow = true then tm to s.dom else s.dom), (if s.arrow = true then tm to s.cod else s.cod), s.fields, s.tags))]
  rotate_left
  · cases h : s.arrow with
    | false => rfl
    | true =>
      have hd := next_dom h
      rw [cond_true, tm_get (hr _ hd.1).1 (hr _ hd.1).2, Option.bind_some, tm_get (hr _ hd.2).1 (hr _ hd.2).2, Option.bind_some]
      rfl
  simp only
  generalize hdd : (if s.arrow = true then tm to s.dom else s.dom) = dd
  generalize hcc : (if s.arrow = true then tm to s.cod else s.cod) = cc
  have e1 := loop_map (φ := fun n i t => m_syntagmaref24_Moved_l1 s to n (i, [], t, s.plus, s.all, s.int, s.bool, s.str, s.arrow, s.rec_, s.tag, s.vars, dd, cc)) (l := s.fields) (edgeM to) (fun t => (([] : List AutoEdge), t, s.plus, s.all, s.int, s.bool, s.str, s.arrow, s.rec_, s.tag, s.vars, dd, cc)) 0 (by
    intro n i x t hx hi ht
    have hxr := hr _ (next_f (List.mem_of_getElem? hx))
    simp only [m_syntagmaref24_Moved_l1]
    rw [decide_eq_true (show (i : Int) < s.fields.length by omega), cond_true, getI hx, Option.bind_some, Option.bind_some, tm_get hxr.1 hxr.2, Option.bind_some, grd_pos (by simp only [List.length_cons, List.length_nil]; omega), grd_pos (by omega)]
    rfl) (by
    intro n t ht
    simp only [m_syntagmaref24_Moved_l1]
    rw [decide_eq_false (by omega), cond_false]) (by rw [FUv]; omega) [] rfl
  rw [bind_of e1]
  simp only [List.nil_append]
  have e2 := loop_map (φ := fun n i t => m_syntagmaref24_Moved_l2 s to n (i, t, s.fields.map (edgeM to), s.plus, s.all, s.int, s.bool, s.str, s.arrow, s.rec_, s.tag, s.vars, dd, cc)) (l := s.tags) (edgeM to) (fun t => (t, s.fields.map (edgeM to), s.plus, s.all, s.int, s.bool, s.str, s.arrow, s.rec_, s.tag, s.vars, dd, cc)) 0 (by
    intro n i x t hx hi ht
    have hxr := hr _ (next_t (List.mem_of_getElem? hx))
    simp only [m_syntagmaref24_Moved_l2]
    rw [decide_eq_true (show (i : Int) < s.tags.length by omega), cond_true, getI hx, Option.bind_some, Option.bind_some, tm_get hxr.1 hxr.2, Option.bind_some, grd_pos (by simp only [List.length_cons, List.length_nil]; omega), grd_pos (by omega)]
    rfl) (by
    intro n t ht
    simp only [m_syntagmaref24_Moved_l2]
    rw [decide_eq_false (by omega), cond_false]) (by rw [FUv]; omega) [] rfl
  rw [bind_of e2]
  unfold stateM
  rw [hdd, hcc]
  rfl
theorem rnorm_eq {a : AutoAuto} (ha : Led a) : m_syntagmaref24_Norm a = some (normP a) := by
  have hb := ha.ab.1
  unfold m_syntagmaref24_Norm
  have e1 : m_syntagmaref24_Norm_l1 a FU (0, [a.start]) = some (bfs (nxA a) a.l.length 0 [a.start]) := rnorm_l1_eq ha a.l.length 0 [a.start] FU (by omega) (by simp) (by simp) (start_in ha) (by rw [FUv]; omega)
  have hok := order_ok ha
  have hlen := order_len ha
  rw [bind_of e1, show bfs (nxA a) a.l.length 0 [a.start] = orderP a from rfl, grd_pos (by omega), grd_pos (by omega), Int.toNat_natCast, rnorm_l3_eq (N := a.l.length) _ hok.2.1 (by omega) _ (by simp), Option.bind_some, show setAll 0 (orderP a) (List.replicate a.l.length 0) = toP a from rfl]
  have e2 := loop_map (φ := fun n i s => m_syntagmaref24_Norm_l4 a (orderP a) (toP a) n (i, s, 0)) (l := orderP a) (fun k => stateM (toP a) (stA a k)) (fun s => (s, (0 : Int))) 0 (by
    intro n i x s hx hi hs
    have hxr := hok.2.1 x (List.mem_of_getElem? hx)
    simp only [m_syntagmaref24_Norm_l4]
    rw [decide_eq_true (show (i : Int) < (orderP a).length by omega), cond_true, getI hx, Option.bind_some, stA_get hxr.1 hxr.2, Option.bind_some, rMoved_eq _ _ (ha.ab.2 _ (stA_mem hxr.1 hxr.2)) (by rw [to_len ha]; exact nxA_in ha x hxr.1 hxr.2), Option.bind_some, grd_pos (by simp only [List.length_cons, List.length_nil]; omega), grd_pos (by omega)]) (by
    intro n s hs
    simp only [m_syntagmaref24_Norm_l4]
    rw [decide_eq_false (by omega), cond_false]) (by rw [FUv]; omega) [] rfl
  rw [bind_of e2]
  rfl
end Go.Proofs.Ytafphfokopkhdaa
set_option linter.unusedVariables false
set_option linter.unusedSimpArgs false
set_option maxRecDepth 100000
namespace Go.Proofs.Ytafphfokopkhdaa
open Go.V
open Classical
theorem on_bd {a : AutoAuto} {k : Int} {p : Bool} (h : onP a k p = true) : ∃ s, idx a.l k = some s ∧ s.plus = p := by
  unfold onP at h
  cases hx : idx a.l k with
  | none => rw [hx] at h; cases h
  | some s => rw [hx] at h; exact ⟨s, rfl, by simpa using h⟩
theorem may_ok {a : AutoAuto} (h : mayP a = 0) : 0 < a.l.length ∧ a.l.length ≤ 2000 ∧ (∀ s ∈ a.l, rightP a s) ∧ onP a a.start true = true := by
  unfold mayP at h
  split at h
  · omega
  · split at h
    · rename_i h1 h2
      exact ⟨by omega, by omega, h2.1, h2.2⟩
    · omega
theorem may_of {a : AutoAuto} (h1 : 0 < a.l.length) (h2 : a.l.length ≤ 2000) (h3 : ∀ s ∈ a.l, rightP a s) (h4 : onP a a.start true = true) : mayP a = 0 := by
  unfold mayP
  rw [if_neg (by omega), if_pos ⟨h3, h4⟩]
theorem led_of {a : AutoAuto} (h : AB a) (hm : mayP a = 0) : Led a := by
  obtain ⟨h1, h2, h3, h4⟩ := may_ok hm
  refine ⟨h, ?_, ?_⟩
  · intro k s hs x hx
    obtain ⟨i, hi, hxi⟩ := List.getElem_of_mem hx
    obtain ⟨_, hs2⟩ := idx_some hs
    have := (h3 s (List.mem_of_getElem? hs2)).2.2.2.2 i x (by rw [← hxi]; exact List.getElem?_eq_getElem hi)
    obtain ⟨s', h5, _⟩ := on_bd this
    exact idx_bd h5
  · obtain ⟨s', h5, _⟩ := on_bd h4
    exact idx_bd h5
theorem stateM_SB {to : List Int} {s : AutoState} (h : SB s) : SB (stateM to s) := by
  obtain ⟨h1, h2, h3⟩ := h
  exact ⟨h1, by simpa [stateM] using h2, by simpa [stateM] using h3⟩
theorem norm_AB {a : AutoAuto} (ha : Led a) : AB (normP a) := by
  refine ⟨by simpa [normP] using order_len ha, ?_⟩
  intro s hs
  simp only [normP, List.mem_map] at hs
  obtain ⟨k, hk, rfl⟩ := hs
  have := (order_ok ha).2.1 k hk
  exact stateM_SB (ha.ab.2 _ (stA_mem this.1 this.2))
theorem give_eq (a : AutoAuto) : ∃ x, m_syntagmalaw24_Give a 14 = some x ∧ AB x := by
  unfold m_syntagmalaw24_Give
  have key : ∀ n (i : Nat) (s : List AutoState), i ≤ 2001 → 2001 - i < n → s.length = i → (∀ t ∈ s, SB t) → ∃ s', m_syntagmalaw24_Give_l1 a 14 n ((i : Int), s, a.start) = some (s', a.start) ∧ s'.length ≤ 2001 ∧ ∀ t ∈ s', SB t := by
    intro n
    induction n with
    | zero => intro i s _ h; omega
    | succ n ih =>
      intro i s hi hn hs hSB
      simp only [m_syntagmalaw24_Give_l1]
      by_cases hc : i < a.l.length ∧ (i < 14 ∨ (2000 < a.l.length ∧ i ≤ 2000))
      rotate_left
      · rw [show ((decide ((i : Int) < (a.l.length : Int))) && ((decide ((i : Int) < 14)) || ((decide (2000 < (a.l.length : Int))) && (decide ((i : Int) ≤ 2000))))) = false by
          rw [← Bool.not_eq_true]; simp only [Bool.and_eq_true, Bool.or_eq_true, decide_eq_true_eq]; omega, cond_false]
        exact ⟨s, rfl, by omega, hSB⟩
      · rw [show ((decide ((i : Int) < (a.l.length : Int))) && ((decide ((i : Int) < 14)) || ((decide (2000 < (a.l.length : Int))) && (decide ((i : Int) ≤ 2000))))) = true by
          simp only [Bool.and_eq_true, Bool.or_eq_true, decide_eq_true_eq]; omega, cond_true]
        have hx : a.l[i]? = some a.l[i] := List.getElem?_eq_getElem hc.1
        generalize a.l[i] = x at hx
        have hv : sli x.vars 0 (if 40 < (x.vars.length : Int) then 40 else (x.vars.length : Int)) = some (x.vars.take (min 40 x.vars.length)) := by
          have := minL 40 x.vars
          rw [show (if 40 < (x.vars.length : Int) then 40 else (x.vars.length : Int)) = ((min 40 x.vars.length : Nat) : Int) from this, sli_take (by omega)]
        rw [getI hx, Option.bind_some, hv, Option.bind_some, ints_eq _ (by simp; omega), Option.bind_some]
        generalize hvs : x.vars.take (min 40 x.vars.length) = vs
        have hvl : vs.length ≤ 40 := by rw [← hvs]; simp; omega
        have e1 : ∀ n (k : Nat) (t : List AutoEdge), k ≤ 40 → 40 - k < n → t.length = k → ∃ t', m_syntagmalaw24_Give_l2 x n ((k : Int), [], t, x.plus, x.all, x.int, x.bool, x.str, x.arrow, x.rec_, x.tag, vs, x.dom, x.cod) = some ([], t', x.plus, x.all, x.int, x.bool, x.str, x.arrow, x.rec_, x.tag, vs, x.dom, x.cod) ∧ t'.length ≤ 40 := by
          intro n
          induction n with
          | zero => intro k t _ h; omega
          | succ n ih =>
            intro k t hk hn ht
            simp only [m_syntagmalaw24_Give_l2]
            by_cases hc : k < x.fields.length ∧ k < 40
            rotate_left
            · rw [show ((decide ((k : Int) < (x.fields.length : Int))) && (decide ((k : Int) < 40))) = false by
                rw [← Bool.not_eq_true]; simp only [Bool.and_eq_true, decide_eq_true_eq]; omega, cond_false]
              exact ⟨t, rfl, by omega⟩
            · rw [show ((decide ((k : Int) < (x.fields.length : Int))) && (decide ((k : Int) < 40))) = true by
                simp only [Bool.and_eq_true, decide_eq_true_eq]; omega, cond_true, getI (List.getElem?_eq_getElem hc.1), Option.bind_some, Option.bind_some, grd_pos (by simp only [List.length_cons, List.length_nil]; omega), grd_pos (by omega)]
              exact ih (k + 1) _ (by omega) (by omega) (by simp; omega)
        obtain ⟨fs, e1, hfs⟩ := e1 FU 0 [] (by omega) (by rw [FUv]; omega) rfl
        rw [show ((0 : Nat) : Int) = 0 from rfl] at e1
        rw [bind_of e1]
        simp only
        have e2 : ∀ n (k : Nat) (t : List AutoEdge), k ≤ 40 → 40 - k < n → t.length = k → ∃ t', m_syntagmalaw24_Give_l3 x n ((k : Int), t, fs, x.plus, x.all, x.int, x.bool, x.str, x.arrow, x.rec_, x.tag, vs, x.dom, x.cod) = some (t', fs, x.plus, x.all, x.int, x.bool, x.str, x.arrow, x.rec_, x.tag, vs, x.dom, x.cod) ∧ t'.length ≤ 40 := by
          intro n
          induction n with
          | zero => intro k t _ h; omega
          | succ n ih =>
            intro k t hk hn ht
            simp only [m_syntagmalaw24_Give_l3]
            by_cases hc : k < x.tags.length ∧ k < 40
            rotate_left
            · rw [show ((decide ((k : Int) < (x.tags.length : Int))) && (decide ((k : Int) < 40))) = false by
                rw [← Bool.not_eq_true]; simp only [Bool.and_eq_true, decide_eq_true_eq]; omega, cond_false]
              exact ⟨t, rfl, by omega⟩
            · rw [show ((decide ((k : Int) < (x.tags.length : Int))) && (decide ((k : Int) < 40))) = true by
                simp only [Bool.and_eq_true, decide_eq_true_eq]; omega, cond_true, getI (List.getElem?_eq_getElem hc.1), Option.bind_some, Option.bind_some, grd_pos (by simp only [List.length_cons, List.length_nil]; omega), grd_pos (by omega)]
              exact ih (k + 1) _ (by omega) (by omega) (by simp; omega)
        obtain ⟨ts, e2, hts⟩ := e2 FU 0 [] (by omega) (by rw [FUv]; omega) rfl
        rw [show ((0 : Nat) : Int) = 0 from rfl] at e2
        rw [bind_of e2]
        simp only
        rw [grd_pos (by simp only [List.length_cons, List.length_nil]; omega), grd_pos (by omega)]
        refine ih (i + 1) _ (by omega) (by omega) (by simp; omega) ?_
        intro t ht
        simp only [List.mem_append, List.mem_singleton] at ht
        rcases ht with ht | rfl
        · exact hSB t ht
        · exact ⟨hvl, hfs, hts⟩
  obtain ⟨s', h1, h2, h3⟩ := key FU 0 [] (by omega) (by rw [FUv]; omega) rfl (by simp)
  rw [show ((0 : Nat) : Int) = 0 from rfl] at h1
  rw [bind_of h1]
  exact ⟨_, rfl, h2, h3⟩
theorem of_eq (a : AutoAuto) (h : AB a) : m_syntagmalaw24_Of a = some a := by
  obtain ⟨h, hs⟩ := h
  unfold m_syntagmalaw24_Of
  have e := loop_map (φ := fun n i s => m_syntagmalaw24_Of_l1 a n (i, s, a.start)) (l := a.l) id (fun s => (s, a.start)) 0 (by
    intro n i x s hx hi hlen
    obtain ⟨b1, b2, b3⟩ := hs x (List.mem_of_getElem? hx)
    simp only [m_syntagmalaw24_Of_l1]
    rw [decide_eq_true (show (i : Int) < a.l.length by omega), cond_true, getI hx, Option.bind_some, ints_eq _ (by omega), Option.bind_some]
    have e1 := loop_map (φ := fun n i t => m_syntagmalaw24_Of_l2 x n (i, [], t, x.plus, x.all, x.int, x.bool, x.str, x.arrow, x.rec_, x.tag, x.vars, x.dom, x.cod)) (l := x.fields) id (fun t => (([] : List AutoEdge), t, x.plus, x.all, x.int, x.bool, x.str, x.arrow, x.rec_, x.tag, x.vars, x.dom, x.cod)) 0 (by
      intro n i y t hy hi ht
      simp only [m_syntagmalaw24_Of_l2]
      rw [decide_eq_true (show (i : Int) < x.fields.length by omega), cond_true, getI hy, Option.bind_some, Option.bind_some, grd_pos (by simp only [List.length_cons, List.length_nil]; omega), grd_pos (by omega)]
      rfl) (by
      intro n t ht
      simp only [m_syntagmalaw24_Of_l2]
      rw [decide_eq_false (by omega), cond_false]) (by rw [FUv]; omega) [] rfl
    rw [bind_of e1]
    simp only [List.nil_append, List.map_id]
    have e2 := loop_map (φ := fun n i t => m_syntagmalaw24_Of_l3 x n (i, t, x.fields, x.plus, x.all, x.int, x.bool, x.str, x.arrow, x.rec_, x.tag, x.vars, x.dom, x.cod)) (l := x.tags) id (fun t => (t, x.fields, x.plus, x.all, x.int, x.bool, x.str, x.arrow, x.rec_, x.tag, x.vars, x.dom, x.cod)) 0 (by
      intro n i y t hy hi ht
      simp only [m_syntagmalaw24_Of_l3]
      rw [decide_eq_true (show (i : Int) < x.tags.length by omega), cond_true, getI hy, Option.bind_some, Option.bind_some, grd_pos (by simp only [List.length_cons, List.length_nil]; omega), grd_pos (by omega)]
      rfl) (by
      intro n t ht
      simp only [m_syntagmalaw24_Of_l3]
      rw [decide_eq_false (by omega), cond_false]) (by rw [FUv]; omega) [] rfl
    rw [bind_of e2]
    simp only [List.nil_append, List.map_id]
    rw [grd_pos (by simp only [List.length_cons, List.length_nil]; omega), grd_pos (by omega)]
    rfl) (by
    intro n s hlen
    simp only [m_syntagmalaw24_Of_l1]
    rw [decide_eq_false (by omega), cond_false]) (by rw [FUv]; omega) [] rfl
  rw [bind_of e]
  simp
end Go.Proofs.Ytafphfokopkhdaa
set_option linter.unusedVariables false
set_option linter.unusedSimpArgs false
set_option maxRecDepth 100000
namespace Go.Proofs.Ytafphfokopkhdaa
open Go.V
open Classical
theorem next_map (to : List Int) (s : AutoState) : nextP (stateM to s) = (nextP s).map (tm to) := by
  unfold nextP stateM
  cases h : s.arrow <;> simp [Function.comp_def, edgeM]
theorem to_at {a : AutoAuto} (ha : Led a) {j : Nat} {x : Int} (h : (orderP a)[j]? = some x) : tm (toP a) x = (j : Int) := by
  obtain ⟨h1, h2, _⟩ := order_ok ha
  have hx := h2 x (List.mem_of_getElem? h)
  have := setAll_get (orderP a) 0 (List.replicate a.l.length 0) h1 h2 (by simp) j x h
  unfold tm idx
  rw [if_pos hx.1, show toP a = setAll 0 (orderP a) (List.replicate a.l.length 0) from rfl, this]
  simp
theorem norm_at {a : AutoAuto} (ha : Led a) {j : Nat} {x : Int} (h : (orderP a)[j]? = some x) : idx (normP a).l (j : Int) = some (stateM (toP a) (stA a x)) := by
  rw [idx_nat]
  simp only [normP]
  rw [List.getElem?_map, h]; rfl
theorem order_at {a : AutoAuto} (ha : Led a) {x : Int} (h : x ∈ orderP a) : ∃ j : Nat, (orderP a)[j]? = some x ∧ tm (toP a) x = (j : Int) ∧ j < (orderP a).length := by
  obtain ⟨j, hj, hj2⟩ := List.getElem_of_mem h
  have h2 : (orderP a)[j]? = some x := by rw [← hj2]; exact List.getElem?_eq_getElem hj
  exact ⟨j, h2, to_at ha h2, hj⟩
theorem order_nx {a : AutoAuto} (ha : Led a) {x y : Int} (h : x ∈ orderP a) (hy : y ∈ nxA a x) : y ∈ orderP a := by
  obtain ⟨j, h1, _⟩ := order_at ha h
  exact (order_ok ha).2.2.2 j x (by omega) h1 y hy
theorem norm_len {a : AutoAuto} (ha : Led a) : (normP a).l.length = (orderP a).length := by simp [normP]
theorem start_mem {a : AutoAuto} (ha : Led a) : a.start ∈ orderP a := by
  obtain ⟨e, he⟩ := (order_ok ha).2.2.1
  rw [he]; simp
theorem start_to {a : AutoAuto} (ha : Led a) : tm (toP a) a.start = 0 := by
  obtain ⟨e, he⟩ := (order_ok ha).2.2.1
  have : (orderP a)[0]? = some a.start := by rw [he]; rfl
  simpa using to_at ha this
theorem order_pos {a : AutoAuto} (ha : Led a) : 0 < (orderP a).length := List.length_pos_of_mem (start_mem ha)
theorem bare_M (to : List Int) (s : AutoState) : bareP (stateM to s) = bareP s := by
  unfold bareP stateM
  cases h : s.arrow <;> simp
theorem edges_M (to : List Int) (isN : List UInt8 → Bool) (l : List AutoEdge) (h : edgesP isN l) : edgesP isN (l.map (edgeM to)) := by
  obtain ⟨h1, h2⟩ := h
  refine ⟨?_, by simpa using h2⟩
  intro i x hx
  rw [List.getElem?_map] at hx
  cases h3 : l[i]? with
  | none => rw [h3] at hx; cases hx
  | some y =>
    rw [h3] at hx
    cases hx
    obtain ⟨h4, h5⟩ := h1 i y h3
    refine ⟨h4, fun h0 z hz => ?_⟩
    rw [List.getElem?_map] at hz
    cases h6 : l[i - 1]? with
    | none => rw [h6] at hz; cases hz
    | some w =>
      rw [h6] at hz
      cases hz
      exact h5 h0 w h6
theorem norm_on {a : AutoAuto} (ha : Led a) {x : Int} {p : Bool} (hx : x ∈ orderP a) (h : onP a x p = true) : onP (normP a) (tm (toP a) x) p = true := by
  obtain ⟨s, h1, h2⟩ := on_bd h
  obtain ⟨j, h3, h4, _⟩ := order_at ha hx
  have e : stA a x = s := by unfold stA; rw [h1]; rfl
  unfold onP
  rw [h4, norm_at ha h3, e]
  simp [stateM, h2]
theorem norm_may {a : AutoAuto} (hab : AB a) (hm : mayP a = 0) : mayP (normP a) = 0 := by
  have ha := led_of hab hm
  obtain ⟨h1, h2, h3, h4⟩ := may_ok hm
  have hle := range_len _ _ (order_ok ha).1 (order_ok ha).2.1
  have hl := norm_len ha
  refine may_of (by have := order_pos ha; omega) (by omega) ?_ ?_
  · intro s hs
    simp only [normP, List.mem_map] at hs
    obtain ⟨x, hx, rfl⟩ := hs
    have hxr := (order_ok ha).2.1 x hx
    obtain ⟨r1, r2, r3, r4, r5⟩ := h3 _ (stA_mem hxr.1 hxr.2)
    refine ⟨by rw [bare_M]; exact r1, r2, edges_M _ _ _ r3, edges_M _ _ _ r4, ?_⟩
    intro i y hy
    rw [next_map, List.getElem?_map] at hy
    cases h5 : (nextP (stA a x))[i]? with
    | none => rw [h5] at hy; cases hy
    | some z =>
      rw [h5] at hy
      cases hy
      exact norm_on ha (order_nx ha hx (List.mem_of_getElem? h5)) (r5 i z h5)
  · have := norm_on ha (start_mem ha) h4
    rw [start_to ha] at this
    exact this
end Go.Proofs.Ytafphfokopkhdaa
set_option linter.unusedVariables false
set_option linter.unusedSimpArgs false
set_option maxRecDepth 100000
namespace Go.Proofs.Ytafphfokopkhdaa
open Go.V
open Classical
theorem sorted_ext : ∀ (a b : List Int), a.Pairwise (· < ·) → b.Pairwise (· < ·) → (∀ x, x ∈ a ↔ x ∈ b) → a = b
  | [], [], _, _, _ => rfl
  | [], y :: b, _, _, h => by have := (h y).2 (by simp); simp at this
  | x :: a, [], _, _, h => by have := (h x).1 (by simp); simp at this
  | x :: a, y :: b, ha, hb, h => by
    rw [List.pairwise_cons] at ha hb
    have hxy : x = y := by
      have h1 := (h x).1 (by simp)
      have h2 := (h y).2 (by simp)
      rcases List.mem_cons.1 h1 with h1 | h1
      · exact h1
      · rcases List.mem_cons.1 h2 with h2 | h2
        · exact h2.symm
        · have := hb.1 x h1; have := ha.1 y h2; omega
    subst hxy
    congr 1
    refine sorted_ext a b ha.2 hb.2 fun z => ?_
    have h1 := h z
    simp only [List.mem_cons] at h1
    constructor
    · intro hz
      rcases h1.1 (.inr hz) with e | e
      · have := ha.1 z hz; omega
      · exact e
    · intro hz
      rcases h1.2 (.inr hz) with e | e
      · have := hb.1 z hz; omega
      · exact e
theorem compact_upto {d : Array Int} (hd : ∀ i j, i < j → j < d.size → d[i]! ≤ d[j]!) : ∀ m, m ≤ d.size → (Lib.compactUpTo d m).Pairwise (· < ·) ∧ (∀ x, x ∈ Lib.compactUpTo d m ↔ ∃ j, j < m ∧ d[j]! = x) ∧ ∀ x ∈ Lib.compactUpTo d m, 0 < m ∧ x ≤ d[m - 1]!
  | 0, _ => by simp [Lib.compactUpTo]
  | m + 1, hm => by
    obtain ⟨h1, h2, h3⟩ := compact_upto hd m (by omega)
    rw [Lib.compactUpTo_succ]
    by_cases hk : Lib.keeps d m = true
    · rw [if_pos hk]
      have hk2 : m = 0 ∨ d[m]! ≠ d[m - 1]! := by simpa [Lib.keeps] using hk
      have hlt : ∀ x ∈ Lib.compactUpTo d m, x < d[m]! := by
        intro x hx
        obtain ⟨h4, h5⟩ := h3 x hx
        have h6 := hd (m - 1) m (by omega) (by omega)
        rcases hk2 with h7 | h7
        · omega
        · omega
      refine ⟨?_, fun x => ?_, fun x hx => ⟨by omega, ?_⟩⟩
      · rw [List.pairwise_append]
        exact ⟨h1, by simp, fun a ha b hb => by simp at hb; subst hb; exact hlt a ha⟩
      · rw [List.mem_append, h2 x]
        simp only [List.mem_cons, List.not_mem_nil, or_false]
        constructor
        · rintro (⟨j, hj, e⟩ | e)
          · exact ⟨j, by omega, e⟩
          · exact ⟨m, by omega, e.symm⟩
        · rintro ⟨j, hj, e⟩
          by_cases hjm : j = m
          · subst hjm; exact .inr e.symm
          · exact .inl ⟨j, by omega, e⟩
      · rw [Nat.add_sub_cancel]
        rcases List.mem_append.1 hx with hx | hx
        · exact Int.le_of_lt (hlt x hx)
        · simp at hx; omega
    · have hk' : Lib.keeps d m = false := by simpa using hk
      rw [hk']
      have hk2 : 0 < m ∧ d[m]! = d[m - 1]! := by
        have : ¬ (m = 0 ∨ d[m]! ≠ d[m - 1]!) := by simpa [Lib.keeps] using hk'
        omega
      simp only [Bool.false_eq_true, if_false, List.append_nil]
      refine ⟨h1, fun x => ?_, fun x hx => ⟨by omega, ?_⟩⟩
      · rw [h2 x]
        constructor
        · rintro ⟨j, hj, e⟩; exact ⟨j, by omega, e⟩
        · rintro ⟨j, hj, e⟩
          by_cases hjm : j = m
          · subst hjm; exact ⟨j - 1, by omega, by rw [← hk2.2]; exact e⟩
          · exact ⟨j, by omega, e⟩
      · rw [Nat.add_sub_cancel]
        have := (h3 x hx).2
        omega
theorem compact_sorted {l : List Int} (h : l.Pairwise (· ≤ ·)) : (Lib.compact l).Pairwise (· < ·) ∧ ∀ x, x ∈ Lib.compact l ↔ x ∈ l := by
  have hget : ∀ j, j < l.length → l.toArray[j]! = l[j]! := fun j _ => by simp
  obtain ⟨h1, h2, _⟩ := compact_upto (d := l.toArray) (fun i j hij hj => by
    simp at hj
    have := List.pairwise_iff_getElem.1 h i j (by omega) hj hij
    simpa [hj, show i < l.length by omega] using this) l.length (by simp)
  refine ⟨h1, fun x => (h2 x).trans ?_⟩
  constructor
  · rintro ⟨j, hj, e⟩
    rw [← e]; simp [hj]
  · intro hx
    obtain ⟨j, hj, e⟩ := List.getElem_of_mem hx
    exact ⟨j, hj, by simp [hj, e]⟩
theorem sortI_sorted (l : List Int) : (List.mergeSort l fun x y => decide (x ≤ y)).Pairwise (· ≤ ·) := by
  have := List.pairwise_mergeSort (le := fun x y : Int => decide (x ≤ y)) (fun a b c h1 h2 => by simp at *; omega) (fun a b => by simp; omega) l
  exact this.imp (fun h => by simpa using h)
noncomputable def setC (l : List Int) : List Int := Lib.compact (l.mergeSort fun x y => decide (x ≤ y))
theorem setC_props (l : List Int) : (setC l).Pairwise (· < ·) ∧ ∀ x, x ∈ setC l ↔ x ∈ l := by
  obtain ⟨h1, h2⟩ := compact_sorted (sortI_sorted l)
  exact ⟨h1, fun x => (h2 x).trans List.mem_mergeSort⟩
theorem setC_len (l : List Int) : (setC l).length ≤ l.length := by
  have := compact_le (l.mergeSort fun x y => decide (x ≤ y))
  rw [List.length_mergeSort] at this
  exact this
theorem setC_of {l s : List Int} (h : s.Pairwise (· < ·)) (hm : ∀ x, x ∈ s ↔ x ∈ l) : s = setC l := by
  obtain ⟨h1, h2⟩ := setC_props l
  exact sorted_ext _ _ h h1 fun x => (hm x).trans (h2 x).symm
theorem tw_split {s : List Int} (hs : s.Pairwise (· < ·)) (x : Int) : (∀ y ∈ s.take (s.takeWhile fun y => decide (y < x)).length, y < x) ∧ ∀ y ∈ s.drop (s.takeWhile fun y => decide (y < x)).length, x ≤ y := by
  induction s with
  | nil => simp
  | cons a s ih =>
    rw [List.pairwise_cons] at hs
    by_cases h : a < x
    · rw [List.takeWhile_cons_of_pos (by simpa using h)]
      obtain ⟨i1, i2⟩ := ih hs.2
      simp only [List.length_cons, List.take_succ_cons, List.drop_succ_cons]
      exact ⟨fun y hy => (List.mem_cons.1 hy).elim (fun e => e ▸ h) (i1 y), i2⟩
    · rw [List.takeWhile_cons_of_neg (by simpa using h)]
      simp only [List.length_nil, List.take_zero, List.drop_zero]
      refine ⟨by simp, fun y hy => ?_⟩
      rcases List.mem_cons.1 hy with rfl | hy
      · omega
      · have := hs.1 y hy; omega
theorem set_l2 (l s : List Int) {i : Nat} {x : Int} (hx : l[i]? = some x) (hl : s.length ≤ 1000000000) : m_syntagmaref15_Set_l2 l (i : Int) s FU 0 = some ((s.takeWhile fun y => decide (y < x)).length : Int) := by
  have h := loop_while (φ := m_syntagmaref15_Set_l2 l (i : Int) s) (l := s) (fun y => decide (y < x)) (fun k => ((k : Nat) : Int)) (by
    intro n k y hy hk
    simp only [m_syntagmaref15_Set_l2]
    rw [decide_eq_true (show (k : Int) < (s.length : Int) by omega), cond_true, getI hy, Option.bind_some, getI hx, Option.bind_some]
    refine ⟨fun h => ?_, fun h => ?_⟩
    · rw [h, cond_true, grd_pos (by omega)]
    · rw [h, cond_false]) (by
    intro n
    simp only [m_syntagmaref15_Set_l2]
    rw [decide_eq_false (by omega), cond_false]) FU 0 (Nat.zero_le _) (by rw [FUv]; omega)
  rw [Nat.zero_add, List.drop_zero] at h
  exact h
theorem set_eq (l : List Int) (hl : l.length ≤ 1000000000) : m_syntagmaref15_Set l = some (setC l) := by
  unfold m_syntagmaref15_Set
  obtain ⟨o, e1, e2⟩ := loop_rng (φ := fun n i s => m_syntagmaref15_Set_l1 l n (i, s)) (l := l) (fun i s => s.Pairwise (· < ·) ∧ (∀ x, x ∈ s ↔ x ∈ l.take i) ∧ s.length ≤ i) (fun o => o = setC l)
    (by
      rintro n i x s hx hi ⟨h1, h2, h3⟩
      left
      have hit : l.take (i + 1) = l.take i ++ [x] := by
        rw [List.take_succ_eq_append_getElem hi]
        rw [List.getElem?_eq_getElem hi] at hx
        rw [Option.some.inj hx]
      obtain ⟨q1, q2⟩ := tw_split h1 x
      have hk := tw_le (fun y => decide (y < x)) s
      have hl2 := set_l2 l s hx (by omega)
      simp only [m_syntagmaref15_Set_l1]
      rw [decide_eq_true (show (i : Int) < (l.length : Int) by omega), cond_true, hl2, Option.bind_some]
      generalize hK : (s.takeWhile fun y => decide (y < x)).length = k at *
      have hs1 : sli s 0 (k : Int) = some (s.take k) := sli_take hk
      have hs2 : sli s (k : Int) (s.length : Int) = some (s.drop k) := by
        rw [sli_nat _ _ _ hk (Nat.le_refl _), List.take_length]
      have hnew : (s.take k ++ [x] ++ s.drop k).length = s.length + 1 := by
        simp only [List.length_append, List.length_take, List.length_drop, List.length_cons, List.length_nil]; omega
      have ins : ∀ (hne : ∀ y ∈ s.drop k, x < y), (s.take k ++ [x] ++ s.drop k).Pairwise (· < ·) ∧ (∀ z, z ∈ s.take k ++ [x] ++ s.drop k ↔ z ∈ l.take (i + 1)) ∧ (s.take k ++ [x] ++ s.drop k).length ≤ i + 1 := by
        intro hne
        have hsp : (s.take k ++ s.drop k).Pairwise (· < ·) := by rw [List.take_append_drop]; exact h1
        rw [List.pairwise_append] at hsp
        refine ⟨?_, fun z => ?_, by omega⟩
        · rw [List.pairwise_append, List.pairwise_append]
          refine ⟨⟨hsp.1, by simp, fun a ha b hb => by simp at hb; subst hb; exact q1 a ha⟩, hsp.2.1, fun a ha b hb => ?_⟩
          rcases List.mem_append.1 ha with ha | ha
          · exact hsp.2.2 a ha b hb
          · simp at ha; subst ha; exact hne b hb
        · have hz : z ∈ l.take (i + 1) ↔ z ∈ s ∨ z = x := by rw [hit, List.mem_append, ← h2 z, List.mem_singleton]
          rw [hz]
          have : z ∈ s ↔ z ∈ s.take k ∨ z ∈ s.drop k := by rw [← List.mem_append, List.take_append_drop]
          rw [this]
          simp only [List.mem_append, List.mem_singleton]
          constructor
          · rintro ((h | h) | h)
            · exact .inl (.inl h)
            · exact .inr h
            · exact .inl (.inr h)
          · rintro ((h | h) | h)
            · exact .inl (.inl h)
            · exact .inr h
            · exact .inl (.inr h)
      have tail : ∀ (hne : ∀ y ∈ s.drop k, x < y), ((sli s 0 (k : Int)).bind fun l4 =>
        grd ((0 + l4.length) * 8 ≤ 140737488355328) <|
        (idx l (i : Int)).bind fun x5 =>
        grd ((([] ++ l4).length + ([x5] : List _).length) * 8 ≤ 140737488355328) <|
        (sli s (k : Int) (s.length : Int)).bind fun l5 =>
        grd (((([] ++ l4) ++ [x5]).length + l5.length) * 8 ≤ 140737488355328) <|
        grd (InR ((i : Int) + 1)) <|
        m_syntagmaref15_Set_l1 l n (((i : Int) + 1), ((([] ++ l4) ++ [x5]) ++ l5))) = m_syntagmaref15_Set_l1 l n ((i : Int) + 1, s.take k ++ [x] ++ s.drop k) := by
        intro _
        have hl4 : (s.take k).length ≤ s.length := by rw [List.length_take]; omega
        have hl5 : (s.drop k).length ≤ s.length := by rw [List.length_drop]; omega
        rw [hs1, Option.bind_some, grd_pos (by omega), getI hx, Option.bind_some, List.nil_append, grd_pos (by simp only [List.length_cons, List.length_nil]; omega), hs2, Option.bind_some, grd_pos (by simp only [List.length_append, List.length_cons, List.length_nil]; omega), grd_pos (by omega)]
      by_cases hks : k < s.length
      · have hy : s[k]? = some s[k] := List.getElem?_eq_getElem hks
        rw [decide_eq_true (show (k : Int) < (s.length : Int) by omega), cond_true, getI hy, Option.bind_some, getI hx, Option.bind_some]
        have hdr : s.drop k = s[k] :: s.drop (k + 1) := List.drop_eq_getElem_cons hks
        by_cases he : s[k] = x
        · refine ⟨s, ?_, h1, fun z => ?_, by omega⟩
          · rw [decide_eq_true he, cond_true, grd_pos (by omega)]
          · rw [hit, List.mem_append, ← h2 z, List.mem_singleton]
            constructor
            · exact fun h => .inl h
            · rintro (h | rfl)
              · exact h
              · rw [← he]; exact List.getElem_mem hks
        · have hne : ∀ y ∈ s.drop k, x < y := by
            have h5 : (s[k] :: s.drop (k + 1)).Pairwise (· < ·) := by rw [← hdr]; exact h1.sublist (List.drop_sublist k s)
            rw [List.pairwise_cons] at h5
            have h6 := q2 s[k] (by rw [hdr]; exact List.mem_cons_self)
            intro y hy
            rw [hdr] at hy
            rcases List.mem_cons.1 hy with rfl | hy
            · omega
            · have := h5.1 y hy; omega
          refine ⟨s.take k ++ [x] ++ s.drop k, ?_, ins hne⟩
          have ht := tail hne
          rw [getI hx] at ht
          rw [decide_eq_false he, cond_false]
          exact ht
      · have hd : s.drop k = [] := List.drop_eq_nil_of_le (by omega)
        have hne : ∀ y ∈ s.drop k, x < y := by rw [hd]; simp
        refine ⟨s.take k ++ [x] ++ s.drop k, ?_, ins hne⟩
        rw [decide_eq_false (by omega), cond_false]
        exact tail hne)
    (by
      rintro n s ⟨h1, h2, h3⟩
      refine ⟨s, ?_, setC_of h1 (fun x => by rw [h2 x, List.take_length])⟩
      simp only [m_syntagmaref15_Set_l1]
      rw [decide_eq_false (by omega), cond_false]) (by rw [FUv]; omega) [] ⟨List.Pairwise.nil, by simp, by simp⟩
  rw [e1, Option.bind_some, e2]
end Go.Proofs.Ytafphfokopkhdaa
set_option linter.unusedVariables false
set_option linter.unusedSimpArgs false
set_option maxRecDepth 100000
namespace Go.Proofs.Ytafphfokopkhdaa
open Go.V
open Classical
theorem setC_ext {l l' : List Int} (h : ∀ x, x ∈ l ↔ x ∈ l') : setC l = setC l' := by
  obtain ⟨h1, h2⟩ := setC_props l
  exact setC_of h1 fun x => (h2 x).trans (h x)
noncomputable def occ (l : List AutoState) (p : Bool) (v : Int) : Bool := decide (∃ s ∈ l, s.plus = p ∧ v ∈ s.vars)
noncomputable def bits (l : List AutoState) (v : Int) : Int := (if occ l true v = true then 1 else 0) + (if occ l false v = true then 2 else 0)
theorem occ_iff {l : List AutoState} {p : Bool} {v : Int} : occ l p v = true ↔ ∃ s ∈ l, s.plus = p ∧ v ∈ s.vars := by unfold occ; rw [decide_eq_true_eq]
theorem bits_none {l : List AutoState} {v : Int} : bits l v = 0 ↔ ¬ ∃ s ∈ l, v ∈ s.vars := by
  unfold bits
  constructor
  · intro h
    rintro ⟨s, hs, hv⟩
    cases hp : s.plus with
    | true =>
      have : occ l true v = true := occ_iff.2 ⟨s, hs, hp, hv⟩
      rw [if_pos this] at h; split at h <;> omega
    | false =>
      have : occ l false v = true := occ_iff.2 ⟨s, hs, hp, hv⟩
      rw [if_pos this] at h; split at h <;> omega
  · intro h
    rw [if_neg (fun h2 => by obtain ⟨s, hs, _, hv⟩ := occ_iff.1 h2; exact h ⟨s, hs, hv⟩), if_neg (fun h2 => by obtain ⟨s, hs, _, hv⟩ := occ_iff.1 h2; exact h ⟨s, hs, hv⟩)]; rfl
theorem hasIntB_eq (l : List Int) (x : Int) (h : l.length ≤ 100000) : m_syntagmabase_HasInt l x = some (decide (x ∈ l)) := bhas_eq l x h
theorem on28_eq (a : AutoAuto) (v : Int) (p : Bool) (h : AB a) : m_syntagmaref28_On a v p = some (occ a.l p v) := by
  unfold m_syntagmaref28_On
  have hlen := h.1
  rw [loop_any (φ := m_syntagmaref28_On_l1 a v p) (l := a.l) true (fun _ s => s.plus = p ∧ v ∈ s.vars) ?_ ?_ (by rw [FUv]; omega), Option.bind_some]
  · by_cases h2 : ∃ s ∈ a.l, s.plus = p ∧ v ∈ s.vars
    · have : ∃ (i : Nat) (x : AutoState), a.l[i]? = some x ∧ x.plus = p ∧ v ∈ x.vars := by
        obtain ⟨s, hs, h3⟩ := h2
        obtain ⟨i, hi⟩ := List.getElem?_of_mem hs
        exact ⟨i, s, hi, h3⟩
      rw [if_pos this, ret_on, occ_iff.2 h2]
    · have : ¬ ∃ (i : Nat) (x : AutoState), a.l[i]? = some x ∧ x.plus = p ∧ v ∈ x.vars := by
        rintro ⟨i, x, hx, h3⟩
        exact h2 ⟨x, List.mem_of_getElem? hx, h3⟩
      rw [if_neg this, go_on]
      unfold occ
      rw [decide_eq_false h2]
  · intro n i s hs hi
    have hv := (h.2 s (List.mem_of_getElem? hs)).1
    simp only [m_syntagmaref28_On_l1]
    rw [decide_eq_true (show (i : Int) < (a.l.length : Int) by omega), cond_true, getI hs, Option.bind_some, Option.bind_some, hasIntB_eq _ _ (by omega), Option.bind_some]
    by_cases hp : s.plus = p
    · rw [show (s.plus == p) = true by simp [hp], cond_true, Option.bind_some]
      by_cases hm : v ∈ s.vars
      · rw [decide_eq_true hm]; exact ⟨fun h => absurd ⟨hp, hm⟩ h, fun _ => rfl⟩
      · rw [decide_eq_false hm, cond_false, grd_pos (by omega)]; exact ⟨fun _ => rfl, fun h => absurd h.2 hm⟩
    · rw [show (s.plus == p) = false by simp [hp], cond_false, Option.bind_some, cond_false, grd_pos (by omega)]
      exact ⟨fun _ => rfl, fun h => absurd h.1 hp⟩
  · intro n
    simp only [m_syntagmaref28_On_l1]
    rw [decide_eq_false (by omega), cond_false]
noncomputable def varsA (a : AutoAuto) : List Int := setC (a.l.flatMap (·.vars))
theorem varsA_mem {a : AutoAuto} {v : Int} : v ∈ varsA a ↔ ∃ s ∈ a.l, v ∈ s.vars := by
  unfold varsA
  rw [(setC_props _).2]
  simp [List.mem_flatMap]
theorem flat_len {l : List AutoState} (h : ∀ s ∈ l, SB s) : (l.flatMap (·.vars)).length ≤ 40 * l.length := by
  induction l with
  | nil => simp
  | cons s l ih =>
    have h1 := (h s (by simp)).1
    have h2 := ih (fun t ht => h t (by simp [ht]))
    simp only [List.flatMap_cons, List.length_append, List.length_cons]
    omega
theorem varsA_len {a : AutoAuto} (h : AB a) : (varsA a).length ≤ 100000 := by
  have h1 := setC_len (a.l.flatMap (·.vars))
  have h2 := flat_len h.2
  have := h.1
  unfold varsA
  omega
theorem all_eq (a : AutoAuto) (h : AB a) : m_syntagmaref28_All a = some (varsA a) := by
  have hlen := h.1
  unfold m_syntagmaref28_All
  obtain ⟨o, e1, e2⟩ := loop_rng (φ := fun n i s => m_syntagmaref28_All_l1 a n (i, s)) (l := a.l) (fun i s => s = (a.l.take i).flatMap (·.vars)) (fun o => o = a.l.flatMap (·.vars))
    (by
      rintro n i s x hs hi rfl
      left
      have hit : a.l.take (i + 1) = a.l.take i ++ [s] := by
        rw [List.take_succ_eq_append_getElem hi]
        rw [List.getElem?_eq_getElem hi] at hs
        rw [Option.some.inj hs]
      have hf := flat_len (l := a.l.take i) (fun t ht => h.2 t (List.mem_of_mem_take ht))
      have hs2 := (h.2 s (List.mem_of_getElem? hs)).1
      have htl : (a.l.take i).length ≤ 2001 := by rw [List.length_take]; omega
      refine ⟨(a.l.take i).flatMap (·.vars) ++ s.vars, ?_, by rw [hit, List.flatMap_append]; simp⟩
      simp only [m_syntagmaref28_All_l1]
      rw [decide_eq_true (show (i : Int) < (a.l.length : Int) by omega), cond_true, getI hs, Option.bind_some, grd_pos (by omega), grd_pos (by omega)])
    (by
      rintro n s rfl
      refine ⟨_, ?_, rfl⟩
      simp only [m_syntagmaref28_All_l1]
      rw [decide_eq_false (by omega), cond_false, List.take_length]) (by rw [FUv]; omega) [] (by simp)
  have hf := flat_len h.2
  rw [e1, Option.bind_some, e2, set_eq _ (by omega), Option.bind_some]
  rfl
theorem mget_none {α β : Type} [DecidableEq α] {l : List (α × β)} {k : α} : mget l k = none ↔ k ∉ l.map (·.1) := by
  induction l with
  | nil => simp [mget]
  | cons p l ih =>
    obtain ⟨a, b⟩ := p
    simp only [mget, List.map_cons, List.mem_cons, not_or]
    by_cases h : k = a
    · simp [h]
    · simp only [h, if_false, not_false_eq_true, true_and]; exact ih
theorem mset_keys {α β : Type} [DecidableEq α] {l : List (α × β)} {k : α} {v : β} : (mset l k v).map (·.1) = if k ∈ l.map (·.1) then l.map (·.1) else l.map (·.1) ++ [k] := by
  induction l with
  | nil => simp [mset]
  | cons p l ih =>
    obtain ⟨a, b⟩ := p
    simp only [mset]
    by_cases h : k = a
    · subst h; simp
    · rw [if_neg h]
      simp only [List.map_cons, ih, List.mem_cons, h, false_or]
      split <;> simp
theorem mset_nodup {α β : Type} [DecidableEq α] {l : List (α × β)} {k : α} {v : β} (h : (l.map (·.1)).Nodup) : ((mset l k v).map (·.1)).Nodup := by
  rw [mset_keys]
  split
  · exact h
  · rename_i hk
    rw [List.nodup_append]
    exact ⟨h, by simp, fun a ha b hb e => by simp at hb; subst hb e; exact hk ha⟩
theorem mset_len {α β : Type} [DecidableEq α] {l : List (α × β)} {k : α} {v : β} : (mset l k v).length ≤ l.length + 1 := by
  have := congrArg List.length (mset_keys (l := l) (k := k) (v := v))
  rw [List.length_map] at this
  rw [this]
  split <;> simp
def SideOk (l : List AutoState) (n : Nat) (mm : List (Int × Int)) : Prop := (∀ v, mget mm v = if bits l v = 0 then none else some (bits l v)) ∧ (mm.map (·.1)).Nodup ∧ mm.length ≤ n
theorem or_tab : orI 0 1 = 1 ∧ orI 1 1 = 1 ∧ orI 2 1 = 3 ∧ orI 3 1 = 3 ∧ orI 0 2 = 2 ∧ orI 1 2 = 3 ∧ orI 2 2 = 2 ∧ orI 3 2 = 3 := by decide
def sd (p : Bool) : Int := bif p then 1 else 2
theorem occ_app {l : List AutoState} {s : AutoState} {p : Bool} {v : Int} : occ (l ++ [s]) p v = (occ l p v || (decide (s.plus = p) && decide (v ∈ s.vars))) := by
  rw [Bool.eq_iff_iff, Bool.or_eq_true, Bool.and_eq_true, decide_eq_true_eq, decide_eq_true_eq, occ_iff, occ_iff]
  constructor
  · rintro ⟨t, ht, h⟩
    rcases List.mem_append.1 ht with ht | ht
    · exact .inl ⟨t, ht, h⟩
    · simp at ht; subst ht; exact .inr h
  · rintro (⟨t, ht, h⟩ | h)
    · exact ⟨t, by simp [ht], h⟩
    · exact ⟨s, by simp, h⟩
def cutV (s : AutoState) (k : Nat) : AutoState := { s with vars := s.vars.take k }
theorem bits_step {l : List AutoState} {s : AutoState} {k : Nat} {x : Int} (hx : s.vars[k]? = some x) (v : Int) : bits (l ++ [cutV s (k + 1)]) v = if v = x then orI (bits (l ++ [cutV s k]) x) (sd s.plus) else bits (l ++ [cutV s k]) v := by
  have hk := (List.getElem?_eq_some_iff.1 hx).1
  have ht : s.vars.take (k + 1) = s.vars.take k ++ [x] := by
    rw [List.take_succ_eq_append_getElem hk]
    rw [List.getElem?_eq_getElem hk] at hx
    rw [Option.some.inj hx]
  have hm : ∀ p, occ (l ++ [cutV s (k + 1)]) p v = (occ (l ++ [cutV s k]) p v || (decide (s.plus = p) && decide (v = x))) := by
    intro p
    rw [occ_app, occ_app]
    unfold cutV
    simp only [ht]
    by_cases h1 : v ∈ s.vars.take k <;> by_cases h2 : v = x <;> by_cases h3 : s.plus = p <;> simp [h1, h2, h3]
  unfold bits
  rw [hm true, hm false]
  by_cases hv : v = x
  · subst hv
    rw [if_pos rfl]
    obtain ⟨t1, t2, t3, t4, t5, t6, t7, t8⟩ := or_tab
    cases hp : s.plus <;> cases occ (l ++ [cutV s k]) true v <;> cases occ (l ++ [cutV s k]) false v <;> simp [sd, t1, t2, t3, t4, t5, t6, t7, t8]
  · rw [if_neg hv]
    simp [hv]
theorem bits_cut0 {l : List AutoState} {s : AutoState} (v : Int) : bits (l ++ [cutV s 0]) v = bits l v := by
  unfold bits
  rw [occ_app, occ_app]
  simp [cutV]
theorem bits_cutn {l : List AutoState} {s : AutoState} (v : Int) : bits (l ++ [cutV s s.vars.length]) v = bits (l ++ [s]) v := by
  unfold bits
  rw [occ_app, occ_app, occ_app, occ_app]
  simp [cutV]
theorem bits_dom (l : List AutoState) (v : Int) : bits l v = 0 ∨ bits l v = 1 ∨ bits l v = 2 ∨ bits l v = 3 := by
  unfold bits
  cases occ l true v <;> cases occ l false v <;> simp
theorem or_pos {b : Int} (p : Bool) (h : b = 0 ∨ b = 1 ∨ b = 2 ∨ b = 3) : orI b (sd p) ≠ 0 := by
  obtain ⟨t1, t2, t3, t4, t5, t6, t7, t8⟩ := or_tab
  cases p <;> rcases h with rfl | rfl | rfl | rfl <;> simp [sd, t1, t2, t3, t4, t5, t6, t7, t8]
theorem sides_l2 {l : List AutoState} {s : AutoState} (hs : s.vars.length ≤ 40) {m : Nat} {mm : List (Int × Int)} (h : SideOk l m mm) : ∃ mm', m_vars_sides_l2 s (sd s.plus) FU (0, mm) = some mm' ∧ SideOk (l ++ [s]) (m + 40) mm' := by
  obtain ⟨o, e1, e2⟩ := loop_rng (φ := fun n i q => m_vars_sides_l2 s (sd s.plus) n (i, q)) (l := s.vars) (fun i q => SideOk (l ++ [cutV s i]) (m + i) q) (fun o => SideOk (l ++ [s]) (m + 40) o)
    (by
      rintro n i x q hx hi ⟨h1, h2, h3⟩
      left
      refine ⟨mset q x (orI ((mget q x).getD 0) (sd s.plus)), ?_, fun v => ?_, mset_nodup h2, ?_⟩
      · simp only [m_vars_sides_l2]
        rw [decide_eq_true (show (i : Int) < (s.vars.length : Int) by omega), cond_true, getI hx, Option.bind_some, grd_pos (by omega)]
      · have hg : (mget q x).getD 0 = bits (l ++ [cutV s i]) x := by
          rw [h1 x]
          split
          · rename_i h0; rw [h0]; rfl
          · rfl
        rw [mget_set, hg, bits_step hx]
        by_cases hv : v = x
        · rw [if_pos hv, if_pos hv, if_neg (or_pos _ (bits_dom _ _))]
        · rw [if_neg hv, if_neg hv, h1 v]
      · have := mset_len (l := q) (k := x) (v := orI ((mget q x).getD 0) (sd s.plus))
        omega)
    (by
      rintro n q ⟨h1, h2, h3⟩
      refine ⟨q, ?_, fun v => by rw [h1 v, bits_cutn], h2, by omega⟩
      simp only [m_vars_sides_l2]
      rw [decide_eq_false (by omega), cond_false]) (by rw [FUv]; omega) mm ⟨fun v => by rw [h.1 v, bits_cut0], h.2.1, by have := h.2.2; omega⟩
  exact ⟨o, e1, e2⟩
theorem sides_eq (a : AutoAuto) (h : AB a) : ∃ mm, m_vars_sides a = some mm ∧ SideOk a.l 100000 mm := by
  have hlen := h.1
  unfold m_vars_sides
  obtain ⟨o, e1, e2⟩ := loop_rng (φ := fun n i q => m_vars_sides_l1 a n (i, q)) (l := a.l) (fun i q => SideOk (a.l.take i) (40 * i) q) (fun o => SideOk a.l 100000 o)
    (by
      rintro n i s q hs hi hq
      left
      have hit : a.l.take (i + 1) = a.l.take i ++ [s] := by
        rw [List.take_succ_eq_append_getElem hi]
        rw [List.getElem?_eq_getElem hi] at hs
        rw [Option.some.inj hs]
      obtain ⟨mm', q1, q2⟩ := sides_l2 (h.2 s (List.mem_of_getElem? hs)).1 hq
      refine ⟨mm', ?_, by rw [hit]; exact q2⟩
      simp only [m_vars_sides_l1]
      rw [decide_eq_true (show (i : Int) < (a.l.length : Int) by omega), cond_true, getI hs, Option.bind_some, show (bif s.plus then some 1 else some 2 : Option Int) = some (sd s.plus) by cases s.plus <;> rfl, Option.bind_some, q1, Option.bind_some, grd_pos (by omega)])
    (by
      rintro n q hq
      refine ⟨q, ?_, by rw [List.take_length] at hq; exact ⟨hq.1, hq.2.1, by have := hq.2.2; omega⟩⟩
      simp only [m_vars_sides_l1]
      rw [decide_eq_false (by omega), cond_false]) (by rw [FUv]; omega) [] ⟨fun v => by simp [mget, bits, occ], by simp, by simp⟩
  exact ⟨o, by rw [e1, Option.bind_some], e2⟩
theorem keys_sorted {a : AutoAuto} {mm : List (Int × Int)} {m : Nat} (h : SideOk a.l m mm) : ((mm.map (·.1)).mergeSort fun x y => decide (x ≤ y)) = varsA a := by
  unfold varsA
  refine setC_of ?_ fun x => ?_
  · have h1 := sortI_sorted (mm.map (·.1))
    have h2 : ((mm.map (·.1)).mergeSort fun x y => decide (x ≤ y)).Nodup := (List.mergeSort_perm _ _).nodup_iff.2 h.2.1
    have h3 := List.Pairwise.and h1 h2
    exact h3.imp (fun h => by have := h.1; have := h.2; omega)
  · rw [List.mem_mergeSort]
    have h1 := h.1 x
    have h2 : x ∈ mm.map (·.1) ↔ ¬ bits a.l x = 0 := by
      constructor
      · intro hx hb
        rw [if_pos hb] at h1
        exact mget_none.1 h1 hx
      · intro hb
        refine Classical.byContradiction fun hx => ?_
        rw [mget_none.2 hx, if_neg hb] at h1
        cases h1
    rw [h2, bits_none, Classical.not_not]
    simp [List.mem_flatMap]
end Go.Proofs.Ytafphfokopkhdaa
set_option linter.unusedVariables false
set_option linter.unusedSimpArgs false
set_option maxRecDepth 100000
namespace Go.Proofs.Ytafphfokopkhdaa
open Go.V
open Classical
theorem nO_r1 : ∀ l s, m_auto_normO_r1 l s = m_auto_norm_r1 l s
  | [], (a, b) => rfl
  | x :: l, (a, b) => by simp only [m_auto_normO_r1, m_auto_norm_r1, nO_r1 l]
theorem nO_l2 (a : AutoAuto) (l1 l2 : List Int) : ∀ n s, m_auto_normO_l2 a l1 l2 n s = m_auto_norm_l2 a l1 l2 n s
  | 0, (_, _, _) => rfl
  | n + 1, (x, y, z) => by simp only [m_auto_normO_l2, m_auto_norm_l2, nO_l2 a l1 l2 n]
theorem normO_eq (a : AutoAuto) : m_auto_normO a = m_auto_norm a := by
  unfold m_auto_normO m_auto_norm
  simp only [nO_r1, nO_l2]
theorem NormO_ok {a : AutoAuto} (h : AB a) (hm : mayP a = 0) : m_auto_NormO a = some (0, normP a) := by
  unfold m_auto_NormO
  rw [may_eq a h, Option.bind_some, hm, show (!decide ((0 : Int) = 0)) = false from rfl, cond_false, normO_eq, norm_eq (led_of h hm)]
  rfl
theorem NormO_no {a : AutoAuto} (h : AB a) (hm : ¬ mayP a = 0) : m_auto_NormO a = some (mayP a, ⟨[], 0⟩) := by
  unfold m_auto_NormO
  rw [may_eq a h, Option.bind_some, decide_eq_false hm, Bool.not_false, cond_true]
noncomputable def sidesP (a : AutoAuto) : List VarsUse := (varsA a).map fun v => ⟨v, bits a.l v⟩
theorem Sides_l1_eq {a : AutoAuto} (h : AB a) {mm : List (Int × Int)} (hm : SideOk a.l 100000 mm) : m_vars_Sides_l1 mm FU (0, []) = some (sidesP a) := by
  have hk := keys_sorted hm
  have hlen := varsA_len h
  have h1 := loop_map (φ := fun n i s => m_vars_Sides_l1 mm n (i, s)) (l := varsA a) (fun v => (⟨v, (mget mm v).getD 0⟩ : VarsUse)) id 0 (by
    intro n i x s hx hi hs
    simp only [m_vars_Sides_l1]
    rw [hk, decide_eq_true (by omega), cond_true, getI hx, Option.bind_some, grd_pos (by simp only [List.length_cons, List.length_nil]; omega), grd_pos (by omega)]) (by
    intro n s hs
    simp only [m_vars_Sides_l1]
    rw [hk, decide_eq_false (by omega), cond_false]; rfl) (by rw [FUv]; omega) [] rfl
  refine h1.trans ?_
  simp only [id, List.nil_append]
  unfold sidesP
  congr 1
  apply List.map_congr_left
  intro v hv
  rw [hm.1 v]
  split
  · rename_i h0; rw [h0]; rfl
  · rfl
theorem Sides_ok {a : AutoAuto} (h : AB a) (hm : mayP a = 0) : m_vars_Sides a = some (sidesP (normP a), 0) := by
  have hn := norm_AB (led_of h hm)
  obtain ⟨mm, e, hk⟩ := sides_eq (normP a) hn
  unfold m_vars_Sides
  rw [NormO_ok h hm]
  simp only [Option.bind_some, decide_true, Bool.not_true, cond_false]
  rw [show (⟨(normP a).l, (normP a).start⟩ : AutoAuto) = normP a from rfl, e, Option.bind_some, grd_pos (by have := hk.2.2; omega), Sides_l1_eq hn hk, Option.bind_some]
theorem Sides_no {a : AutoAuto} (h : AB a) (hm : ¬ mayP a = 0) : m_vars_Sides a = some ([], mayP a) := by
  unfold m_vars_Sides
  rw [NormO_no h hm]
  simp only [Option.bind_some]
  rw [decide_eq_false hm, Bool.not_false, cond_true]
noncomputable def stW (f : Int → Option Int) (s : AutoState) : AutoState := ⟨s.plus, s.all, s.int, s.bool, s.str, s.arrow, s.rec_, s.tag, setC (s.vars.filterMap f), s.dom, s.cod, s.fields, s.tags⟩
noncomputable def withP (f : Int → Option Int) (a : AutoAuto) : AutoAuto := ⟨a.l.map (stW f), a.start⟩
theorem takeS {α : Type} {l : List α} {i : Nat} {x : α} (h : l[i]? = some x) : l.take (i + 1) = l.take i ++ [x] := by
  have hi := (List.getElem?_eq_some_iff.1 h).1
  rw [List.take_succ_eq_append_getElem hi]
  rw [List.getElem?_eq_getElem hi] at h
  rw [Option.some.inj h]
theorem with_l2_eq (to : List (Int × Int)) (s : AutoState) (hs : s.vars.length ≤ 40) : m_vars_with_l2 to s FU (0, []) = some (s.vars.filterMap (mget to)) := by
  obtain ⟨o, e1, e2⟩ := loop_rng (φ := fun n i q => m_vars_with_l2 to s n (i, q)) (l := s.vars) (fun i q => q = (s.vars.take i).filterMap (mget to)) (fun o => o = s.vars.filterMap (mget to))
    (by
      rintro n i x q hx hi rfl
      left
      have hl := List.length_filterMap_le (mget to) (s.vars.take i)
      have hl2 : (s.vars.take i).length ≤ 40 := by rw [List.length_take]; omega
      refine ⟨_, ?_, rfl⟩
      rw [takeS hx, List.filterMap_append]
      simp only [m_vars_with_l2]
      rw [decide_eq_true (show (i : Int) < (s.vars.length : Int) by omega), cond_true, getI hx, Option.bind_some]
      cases hg : mget to x with
      | none => rw [show (none : Option Int).isSome = false from rfl, cond_false, grd_pos (by omega)]; simp [hg]
      | some z =>
        rw [show (some z).isSome = true from rfl, cond_true, grd_pos (by simp only [List.length_cons, List.length_nil]; omega), grd_pos (by omega)]; simp [hg])
    (by
      rintro n q rfl
      refine ⟨_, ?_, rfl⟩
      simp only [m_vars_with_l2]
      rw [decide_eq_false (by omega), cond_false, List.take_length]) (by rw [FUv]; omega) [] (by simp)
  rw [e1, e2]
theorem set_mid {α : Type} {A B : List α} {x y : α} {i : Nat} (h : A.length = i) : (A ++ x :: B).set i y = A ++ y :: B := by
  subst h
  induction A with
  | nil => rfl
  | cons a A ih => simp only [List.cons_append, List.length_cons, List.set_cons_succ, ih]
theorem with_eq (a : AutoAuto) (to : List (Int × Int)) (h : AB a) : m_vars_with a to = some (withP (mget to) a) := by
  have hlen := h.1
  unfold m_vars_with
  obtain ⟨o, e1, e2⟩ := loop_rng (φ := fun n i q => m_vars_with_l1 a to n (i, q)) (l := a.l) (fun i q => q = (a.start, (a.l.take i).map (stW (mget to)) ++ a.l.drop i)) (fun o => o = (a.start, a.l.map (stW (mget to))))
    (by
      rintro n i s q hx hi rfl
      left
      have hd := drop_get hx
      have hA : ((a.l.take i).map (stW (mget to))).length = i := by rw [List.length_map, List.length_take]; omega
      have hs := (h.2 s (List.mem_of_getElem? hx)).1
      have hg : ((a.l.take i).map (stW (mget to)) ++ a.l.drop i)[i]? = some s := by
        rw [List.getElem?_append_right (by omega), hd, hA, Nat.sub_self]; rfl
      have hf := List.length_filterMap_le (mget to) s.vars
      refine ⟨_, ?_, rfl⟩
      have hset : ((a.l.take i).map (stW (mget to)) ++ a.l.drop i).set ((i : Int)).toNat (stW (mget to) s) = (a.l.take (i + 1)).map (stW (mget to)) ++ a.l.drop (i + 1) := by
        rw [hd, Int.toNat_natCast, set_mid hA, takeS hx, List.map_append, List.append_assoc]; rfl
      rw [← hset]
      simp only [m_vars_with_l1]
      rw [decide_eq_true (show (i : Int) < (a.l.length : Int) by omega), cond_true, getI hg, Option.bind_some, with_l2_eq to s hs, Option.bind_some, grd_pos (by omega), Option.bind_some, grd_pos (by omega)]
      rfl)
    (by
      rintro n q rfl
      refine ⟨_, ?_, rfl⟩
      simp only [m_vars_with_l1]
      rw [decide_eq_false (by omega), cond_false, List.take_length, List.drop_length, List.append_nil]) (by rw [FUv]; omega) (a.start, a.l) (by simp)
  rw [e1, Option.bind_some, e2]
  rfl
theorem stW_len {f : Int → Option Int} {s : AutoState} (h : SB s) : SB (stW f s) := by
  have h1 := setC_len (s.vars.filterMap f)
  have h2 := List.length_filterMap_le f s.vars
  exact ⟨by show (setC (s.vars.filterMap f)).length ≤ 40; have := h.1; omega, h.2.1, h.2.2⟩
theorem withP_AB {f : Int → Option Int} {a : AutoAuto} (h : AB a) : AB (withP f a) := by
  refine ⟨by show (a.l.map (stW f)).length ≤ 2001; rw [List.length_map]; exact h.1, ?_⟩
  intro s hs
  obtain ⟨t, ht, rfl⟩ := List.mem_map.1 (show s ∈ a.l.map (stW f) from hs)
  exact stW_len (h.2 t ht)
end Go.Proofs.Ytafphfokopkhdaa
set_option linter.unusedVariables false
set_option linter.unusedSimpArgs false
set_option maxRecDepth 100000
namespace Go.Proofs.Ytafphfokopkhdaa
open Go.V
open Classical
def lookP (F : List (Int × Int)) (v : Int) : List Int := (F.filter fun p => decide (p.1 = v) && decide (0 ≤ p.2)).map (·.2)
theorem look_len (F : List (Int × Int)) (v : Int) : (lookP F v).length ≤ F.length := by
  unfold lookP
  rw [List.length_map]
  exact List.length_filter_le _ _
theorem look_mem {F : List (Int × Int)} {v z : Int} : z ∈ lookP F v ↔ (v, z) ∈ F ∧ 0 ≤ z := by
  unfold lookP
  simp only [List.mem_map, List.mem_filter, Bool.and_eq_true, decide_eq_true_eq]
  constructor
  · rintro ⟨⟨a, b⟩, ⟨h1, h2, h3⟩, h4⟩
    simp only at h2 h3 h4
    subst h2 h4
    exact ⟨h1, h3⟩
  · rintro ⟨h1, h2⟩
    exact ⟨(v, z), ⟨h1, rfl, h2⟩, rfl⟩
theorem With_l3_eq (F : List (Int × Int)) (s : AutoState) (k : Nat) (v : Int) (hv : s.vars[k]? = some v) (hF : F.length ≤ 100000) (l0 : List Int) (h0 : l0.length ≤ 10000000) :
    m_syntagmaref28_With_l3 (F.map (·.1)) (F.map (·.2)) s (k : Int) FU (0, l0) = some (l0 ++ lookP F v) := by
  obtain ⟨o, e1, e2⟩ := loop_rng (φ := fun n i q => m_syntagmaref28_With_l3 (F.map (·.1)) (F.map (·.2)) s (k : Int) n (i, q)) (l := F) (fun i q => q = l0 ++ lookP (F.take i) v) (fun o => o = l0 ++ lookP F v)
    (by
      rintro n i ⟨f, t⟩ q hx hi rfl
      left
      have hl := look_len (F.take i) v
      have hl2 : (F.take i).length ≤ 100000 := by rw [List.length_take]; omega
      have h1 : idx (F.map (·.1)) (i : Int) = some f := getI (by rw [List.getElem?_map, hx]; rfl)
      have h2 : idx (F.map (·.2)) (i : Int) = some t := getI (by rw [List.getElem?_map, hx]; rfl)
      refine ⟨_, ?_, rfl⟩
      have hlk : lookP (F.take (i + 1)) v = lookP (F.take i) v ++ lookP [(f, t)] v := by
        rw [takeS hx]; unfold lookP; rw [List.filter_append, List.map_append]
      rw [hlk]
      simp only [m_syntagmaref28_With_l3]
      rw [decide_eq_true (show (i : Int) < ((F.map (·.1)).length : Int) by rw [List.length_map]; omega), cond_true, h1, Option.bind_some, getI hv, Option.bind_some, h2, Option.bind_some]
      by_cases hf : f = v
      · rw [decide_eq_true hf, cond_true]
        by_cases ht : 0 ≤ t
        · rw [decide_eq_true ht, cond_true, Option.bind_some, grd_pos (by simp only [List.length_append, List.length_cons, List.length_nil]; omega), grd_pos (by omega)]
          simp [lookP, hf, ht]
        · rw [decide_eq_false ht, cond_false, grd_pos (by omega)]
          simp [lookP, ht]
      · rw [decide_eq_false hf, cond_false, grd_pos (by omega)]
        simp [lookP, hf])
    (by
      rintro n q rfl
      refine ⟨_, ?_, rfl⟩
      simp only [m_syntagmaref28_With_l3]
      rw [decide_eq_false (by rw [List.length_map]; omega), cond_false, List.take_length]) (by rw [FUv]; omega) l0 (by simp [lookP])
  rw [e1, e2]
theorem flat_look_len (F : List (Int × Int)) : ∀ l : List Int, (l.flatMap (lookP F)).length ≤ F.length * l.length
  | [] => by simp
  | v :: l => by
    have h1 := flat_look_len F l
    have h2 := look_len F v
    rw [List.flatMap_cons, List.length_append, List.length_cons, Nat.mul_add]
    omega
theorem With_l2_eq (F : List (Int × Int)) (s : AutoState) (hF : F.length ≤ 100000) (hs : s.vars.length ≤ 40) : m_syntagmaref28_With_l2 (F.map (·.1)) (F.map (·.2)) s FU (0, []) = some (s.vars.flatMap (lookP F)) := by
  obtain ⟨o, e1, e2⟩ := loop_rng (φ := fun n i q => m_syntagmaref28_With_l2 (F.map (·.1)) (F.map (·.2)) s n (i, q)) (l := s.vars) (fun i q => q = (s.vars.take i).flatMap (lookP F)) (fun o => o = s.vars.flatMap (lookP F))
    (by
      rintro n i x q hx hi rfl
      left
      have hl := flat_look_len F (s.vars.take i)
      have hl2 : (s.vars.take i).length ≤ 40 := by rw [List.length_take]; omega
      have hl3 := Nat.mul_le_mul hF hl2
      refine ⟨_, ?_, rfl⟩
      rw [takeS hx, List.flatMap_append]
      simp only [m_syntagmaref28_With_l2]
      rw [decide_eq_true (show (i : Int) < (s.vars.length : Int) by omega), cond_true, With_l3_eq F s i x hx hF _ (by omega), Option.bind_some, grd_pos (by omega)]
      simp)
    (by
      rintro n q rfl
      refine ⟨_, ?_, rfl⟩
      simp only [m_syntagmaref28_With_l2]
      rw [decide_eq_false (by omega), cond_false, List.take_length]) (by rw [FUv]; omega) [] (by simp)
  rw [e1, e2]
noncomputable def stR (F : List (Int × Int)) (s : AutoState) : AutoState := ⟨s.plus, s.all, s.int, s.bool, s.str, s.arrow, s.rec_, s.tag, setC (s.vars.flatMap (lookP F)), s.dom, s.cod, s.fields, s.tags⟩
noncomputable def withR (F : List (Int × Int)) (a : AutoAuto) : AutoAuto := ⟨a.l.map (stR F), a.start⟩
theorem With_eq (F : List (Int × Int)) (a : AutoAuto) (hF : F.length ≤ 100000) (h : AB a) : m_syntagmaref28_With a (F.map (·.1)) (F.map (·.2)) = some (withR F a) := by
  have hlen := h.1
  unfold m_syntagmaref28_With
  obtain ⟨o, e1, e2⟩ := loop_rng (φ := fun n i q => m_syntagmaref28_With_l1 a (F.map (·.1)) (F.map (·.2)) n (i, q)) (l := a.l) (fun i q => q = ((a.l.take i).map (stR F), a.start)) (fun o => o = (a.l.map (stR F), a.start))
    (by
      rintro n i s q hx hi rfl
      left
      have hs := (h.2 s (List.mem_of_getElem? hx)).1
      have hl := flat_look_len F s.vars
      have hl3 := Nat.mul_le_mul hF hs
      have hl4 : ((a.l.take i).map (stR F)).length ≤ 2001 := by rw [List.length_map, List.length_take]; omega
      refine ⟨_, ?_, rfl⟩
      rw [takeS hx, List.map_append]
      simp only [m_syntagmaref28_With_l1]
      rw [decide_eq_true (show (i : Int) < (a.l.length : Int) by omega), cond_true, getI hx, Option.bind_some, With_l2_eq F s hF hs, Option.bind_some, set_eq _ (by omega), Option.bind_some, grd_pos (by simp only [List.length_cons, List.length_nil]; omega), grd_pos (by omega)]
      rfl)
    (by
      rintro n q rfl
      refine ⟨_, ?_, rfl⟩
      simp only [m_syntagmaref28_With_l1]
      rw [decide_eq_false (by omega), cond_false, List.take_length]) (by rw [FUv]; omega) ([], a.start) (by simp)
  rw [e1, Option.bind_some, e2]
  rfl
theorem with_same {F : List (Int × Int)} {f : Int → Option Int} {a : AutoAuto} (h : ∀ s ∈ a.l, ∀ v ∈ s.vars, ∀ z, z ∈ lookP F v ↔ f v = some z) : withR F a = withP f a := by
  unfold withR withP
  congr 1
  apply List.map_congr_left
  intro s hs
  unfold stR stW
  congr 1
  apply setC_ext
  intro z
  simp only [List.mem_flatMap, List.mem_filterMap]
  constructor
  · rintro ⟨v, hv, hz⟩; exact ⟨v, hv, (h s hs v hv z).1 hz⟩
  · rintro ⟨v, hv, hz⟩; exact ⟨v, hv, (h s hs v hv z).2 hz⟩
noncomputable def dropF (a : AutoAuto) (v : Int) : Option Int := if bits a.l v = 3 then some v else none
theorem drop_l1 (x : Int) (s : AutoAuto) : ∀ (q mm : List (Int × Int)), ∃ mm', (∀ v, mget mm' v = if (v, 3) ∈ q then some v else mget mm v) ∧ m_vars_Drop_l1 x s q mm = (m_vars_with (⟨s.l, s.start⟩ : AutoAuto) mm').bind fun s2 => some ((⟨s2.l, s2.start⟩ : AutoAuto), x)
  | [], mm => ⟨mm, by simp, by simp only [m_vars_Drop_l1]⟩
  | (k, b) :: q, mm => by
    by_cases hb : b = 3
    · obtain ⟨mm', h1, h2⟩ := drop_l1 x s q (mset mm k k)
      refine ⟨mm', fun v => ?_, by simp only [m_vars_Drop_l1]; rw [decide_eq_true hb, cond_true, h2]⟩
      rw [h1 v, mget_set]
      by_cases hv : v = k
      · subst hv hb; simp
      · simp [hv]
    · obtain ⟨mm', h1, h2⟩ := drop_l1 x s q mm
      refine ⟨mm', fun v => ?_, by simp only [m_vars_Drop_l1]; rw [decide_eq_false hb, cond_false, h2]⟩
      rw [h1 v]
      have : ¬ (v, (3 : Int)) = (k, b) := fun e => hb (Prod.mk.inj e).2.symm
      simp [this]
theorem mget_mem {α β : Type} [DecidableEq α] {l : List (α × β)} (h : (l.map (·.1)).Nodup) {k : α} {v : β} : (k, v) ∈ l ↔ mget l k = some v := by
  induction l with
  | nil => simp [mget]
  | cons p l ih =>
    obtain ⟨a, b⟩ := p
    simp only [List.map_cons, List.nodup_cons] at h
    have ih := ih h.2
    simp only [mget, List.mem_cons]
    by_cases hk : k = a
    · subst hk
      rw [if_pos rfl]
      constructor
      · rintro (e | e)
        · rw [(Prod.mk.inj e).2]
        · exact absurd (List.mem_map.2 ⟨_, e, rfl⟩) h.1
      · intro e; left; rw [Option.some.inj e]
    · rw [if_neg hk, ← ih]
      constructor
      · rintro (e | e)
        · exact absurd (Prod.mk.inj e).1 hk
        · exact e
      · exact .inr
theorem Drop_ok {a : AutoAuto} (h : AB a) (hm : mayP a = 0) : m_vars_Drop a = some (withP (dropF (normP a)) (normP a), 0) := by
  have hn := norm_AB (led_of h hm)
  obtain ⟨mm, e, hk⟩ := sides_eq (normP a) hn
  unfold m_vars_Drop
  refine allO_of fun ord ho => ?_
  rw [NormO_ok h hm]
  simp only [Option.bind_some, decide_true, Bool.not_true, cond_false]
  rw [show (⟨(normP a).l, (normP a).start⟩ : AutoAuto) = normP a from rfl, e, Option.bind_some]
  obtain ⟨mm', h1, h2⟩ := drop_l1 0 (normP a) (ord mm) []
  rw [h2, show (⟨(normP a).l, (normP a).start⟩ : AutoAuto) = normP a from rfl, with_eq _ _ hn, Option.bind_some]
  have hf : mget mm' = dropF (normP a) := by
    funext v
    rw [h1 v]
    unfold dropF
    have : (v, (3 : Int)) ∈ ord mm ↔ bits (normP a).l v = 3 := by
      rw [(ho mm).mem_iff, mget_mem hk.2.1, hk.1 v]
      constructor
      · intro h3
        split at h3
        · cases h3
        · exact Option.some.inj h3
      · intro h3
        rw [if_neg (by omega), h3]
    by_cases h3 : bits (normP a).l v = 3
    · rw [if_pos (this.2 h3), if_pos h3]
    · rw [if_neg (fun h4 => h3 (this.1 h4)), if_neg h3]; rfl
  rw [hf]
theorem Drop_no {a : AutoAuto} (h : AB a) (hm : ¬ mayP a = 0) : m_vars_Drop a = some (⟨[], 0⟩, mayP a) := by
  unfold m_vars_Drop
  refine allO_of fun ord ho => ?_
  rw [NormO_no h hm]
  simp only [Option.bind_some]
  rw [decide_eq_false hm, Bool.not_false, cond_true]
noncomputable def dropT (a : AutoAuto) : List (Int × Int) := (varsA a).map fun v => (v, if bits a.l v = 3 then v else -1)
theorem rDrop_l1 {a : AutoAuto} (h : AB a) : m_syntagmaref28_Drop_l1 a (varsA a) FU (0, []) = some ((dropT a).map (·.2)) := by
  have hlen := varsA_len h
  have h1 := loop_map (φ := fun n i s => m_syntagmaref28_Drop_l1 a (varsA a) n (i, s)) (l := varsA a) (fun v => if bits a.l v = 3 then v else -1) id 0 (by
    intro n i x s hx hi hs
    simp only [m_syntagmaref28_Drop_l1]
    rw [decide_eq_true (by omega), cond_true, getI hx, Option.bind_some, show (⟨a.l, a.start⟩ : AutoAuto) = a from rfl, on28_eq _ _ _ h, Option.bind_some, Option.bind_some, on28_eq _ _ _ h, Option.bind_some, Option.bind_some]
    unfold bits
    cases occ a.l true x <;> cases occ a.l false x
    · rw [cond_false, grd_pos (by simp only [List.length_cons, List.length_nil]; omega), grd_pos (by omega)]; rfl
    · rw [cond_false, grd_pos (by simp only [List.length_cons, List.length_nil]; omega), grd_pos (by omega)]; rfl
    · rw [cond_true, cond_false, grd_pos (by simp only [List.length_cons, List.length_nil]; omega), grd_pos (by omega)]; rfl
    · rw [cond_true, cond_true, grd_pos (by simp only [List.length_cons, List.length_nil]; omega), grd_pos (by omega)]; rfl) (by
    intro n s hs
    simp only [m_syntagmaref28_Drop_l1]
    rw [decide_eq_false (by omega), cond_false]; rfl) (by rw [FUv]; omega) [] rfl
  refine h1.trans ?_
  simp only [id, List.nil_append]
  unfold dropT
  rw [List.map_map]
  rfl
theorem norm_vars {a : AutoAuto} (hm : mayP a = 0) {s : AutoState} (hs : s ∈ a.l) {v : Int} (hv : v ∈ s.vars) : 0 ≤ v := by
  obtain ⟨_, _, h3, _⟩ := may_ok hm
  obtain ⟨i, hi⟩ := List.getElem?_of_mem hv
  exact ((h3 s hs).2.1 i v hi).1
theorem rDrop_ok {a : AutoAuto} (h : AB a) (hm : mayP a = 0) : m_syntagmaref28_Drop a = some (withP (dropF (normP a)) (normP a)) := by
  have hn := norm_AB (led_of h hm)
  have hlen := varsA_len hn
  unfold m_syntagmaref28_Drop
  rw [rnorm_eq (led_of h hm), Option.bind_some, show (⟨(normP a).l, (normP a).start⟩ : AutoAuto) = normP a from rfl, all_eq _ hn, Option.bind_some, rDrop_l1 hn, Option.bind_some]
  have hfst : varsA (normP a) = (dropT (normP a)).map (·.1) := by unfold dropT; rw [List.map_map]; exact (List.map_id (varsA (normP a))).symm
  have hl : (dropT (normP a)).length ≤ 100000 := by unfold dropT; rw [List.length_map]; exact hlen
  have hw := With_eq (dropT (normP a)) (normP a) hl hn
  rw [← hfst] at hw
  rw [hw, Option.bind_some, with_same (f := dropF (normP a))]
  intro s hs v hv z
  have h0 := norm_vars (norm_may h hm) hs hv
  have hva : v ∈ varsA (normP a) := varsA_mem.2 ⟨s, hs, hv⟩
  rw [look_mem]
  unfold dropT dropF
  rw [List.mem_map]
  constructor
  · rintro ⟨⟨w, hw, e⟩, hz⟩
    obtain ⟨e1, e2⟩ := Prod.mk.inj e
    subst e1
    split at e2
    · rename_i h3; rw [if_pos h3, e2]
    · omega
  · intro e
    split at e
    · rename_i h3
      cases e
      exact ⟨⟨v, hva, by rw [if_pos h3]⟩, h0⟩
    · cases e
end Go.Proofs.Ytafphfokopkhdaa
set_option linter.unusedVariables false
set_option linter.unusedSimpArgs false
set_option maxRecDepth 100000
namespace Go.Proofs.Ytafphfokopkhdaa
open Go.V
open Classical
def addF (mm : List (Int × Int)) (v : Int) : List (Int × Int) := if (mget mm v).isSome = true then mm else mm ++ [(v, (mm.length : Int))]
def RnOk (n : Nat) (mm : List (Int × Int)) : Prop := (mm.map (·.1)).Nodup ∧ (∀ p ∈ mm, 0 ≤ p.2) ∧ mm.length ≤ n
theorem mset_new {α β : Type} [DecidableEq α] {k : α} {v : β} : ∀ {l : List (α × β)}, mget l k = none → mset l k v = l ++ [(k, v)]
  | [], _ => rfl
  | (a, b) :: l, h => by
    simp only [mget] at h
    by_cases hk : k = a
    · rw [if_pos hk] at h; cases h
    · rw [if_neg hk] at h
      simp only [mset]
      rw [if_neg hk, mset_new h]
      rfl
theorem addF_ok {n : Nat} {mm : List (Int × Int)} {v : Int} (h : RnOk n mm) : RnOk (n + 1) (addF mm v) := by
  obtain ⟨h1, h2, h3⟩ := h
  unfold addF
  cases hg : mget mm v with
  | some z => rw [show (some z).isSome = true from rfl, if_pos rfl]; exact ⟨h1, h2, by omega⟩
  | none =>
    rw [show (none : Option Int).isSome = false from rfl, if_neg (by simp)]
    refine ⟨?_, ?_, by simp; omega⟩
    · rw [List.map_append, List.nodup_append]
      exact ⟨h1, by simp, fun a ha b hb e => by simp at hb; subst hb e; exact mget_none.1 hg ha⟩
    · intro p hp
      rcases List.mem_append.1 hp with hp | hp
      · exact h2 p hp
      · simp at hp; subst hp; exact Int.natCast_nonneg _
theorem addF_fold {mm : List (Int × Int)} : ∀ (l : List Int) {n : Nat} {mm : List (Int × Int)}, RnOk n mm → RnOk (n + l.length) (l.foldl addF mm)
  | [], _, _, h => h
  | v :: l, n, mm, h => by
    have := addF_fold (mm := mm) l (addF_ok (v := v) h)
    rw [List.length_cons, show n + (l.length + 1) = n + 1 + l.length by omega]
    exact this
noncomputable def rnP (l : List AutoState) : List (Int × Int) := l.foldl (fun mm s => s.vars.foldl addF mm) []
theorem rnP_app (l : List AutoState) (s : AutoState) : rnP (l ++ [s]) = s.vars.foldl addF (rnP l) := by unfold rnP; rw [List.foldl_append]; rfl
theorem rename_l2 (s : AutoState) (hs : s.vars.length ≤ 40) (mm : List (Int × Int)) (h : mm.length ≤ 1000000) : m_vars_Rename_l2 s FU (0, mm) = some (s.vars.foldl addF mm) := by
  obtain ⟨o, e1, e2⟩ := loop_rng (φ := fun n i q => m_vars_Rename_l2 s n (i, q)) (l := s.vars) (fun i q => q = (s.vars.take i).foldl addF mm) (fun o => o = s.vars.foldl addF mm)
    (by
      rintro n i x q hx hi rfl
      left
      refine ⟨_, ?_, rfl⟩
      rw [takeS hx, List.foldl_append, List.foldl_cons, List.foldl_nil]
      generalize (s.vars.take i).foldl addF mm = q
      simp only [m_vars_Rename_l2]
      rw [decide_eq_true (show (i : Int) < (s.vars.length : Int) by omega), cond_true, getI hx, Option.bind_some]
      unfold addF
      cases hg : mget q x with
      | none => rw [show (none : Option Int).isSome = false from rfl, Bool.not_false, cond_true, grd_pos (by omega), mset_new hg, if_neg (by simp)]
      | some z => rw [show (some z).isSome = true from rfl, Bool.not_true, cond_false, grd_pos (by omega), if_pos rfl])
    (by
      rintro n q rfl
      refine ⟨_, ?_, rfl⟩
      simp only [m_vars_Rename_l2]
      rw [decide_eq_false (by omega), cond_false, List.take_length]) (by rw [FUv]; omega) mm (by simp)
  rw [e1, e2]
theorem rename_l1 (a : AutoAuto) (h : AB a) : m_vars_Rename_l1 a FU (0, []) = some (rnP a.l) ∧ RnOk 100000 (rnP a.l) := by
  have hlen := h.1
  obtain ⟨o, e1, e2, e3⟩ := loop_rng (φ := fun n i q => m_vars_Rename_l1 a n (i, q)) (l := a.l) (fun i q => q = rnP (a.l.take i) ∧ RnOk (40 * i) q) (fun o => o = rnP a.l ∧ RnOk 100000 o)
    (by
      rintro n i s q hx hi ⟨hq, hr⟩
      left
      have hs := (h.2 s (List.mem_of_getElem? hx)).1
      have hf := addF_fold (mm := q) s.vars hr
      have hr3 := hr.2.2
      refine ⟨s.vars.foldl addF q, ?_, by rw [takeS hx, rnP_app, hq], hf.1, hf.2.1, by have := hf.2.2; omega⟩
      simp only [m_vars_Rename_l1]
      rw [decide_eq_true (show (i : Int) < (a.l.length : Int) by omega), cond_true, getI hx, Option.bind_some, rename_l2 s hs q (by omega), Option.bind_some, grd_pos (by omega)])
    (by
      rintro n q ⟨hq, hr⟩
      rw [List.take_length] at hq
      refine ⟨q, ?_, hq, hr.1, hr.2.1, by have := hr.2.2; omega⟩
      simp only [m_vars_Rename_l1]
      rw [decide_eq_false (by omega), cond_false]) (by rw [FUv]; omega) [] ⟨by simp [rnP], by simp, by simp, by simp⟩
  subst e2
  exact ⟨e1, e3⟩
theorem Rename_ok {a : AutoAuto} (h : AB a) (hm : mayP a = 0) : m_vars_Rename a = some (withP (mget (rnP (normP a).l)) (normP a), 0) := by
  have hn := norm_AB (led_of h hm)
  unfold m_vars_Rename
  rw [NormO_ok h hm]
  simp only [Option.bind_some, decide_true, Bool.not_true, cond_false]
  rw [(rename_l1 _ hn).1, Option.bind_some, show (⟨(normP a).l, (normP a).start⟩ : AutoAuto) = normP a from rfl, with_eq _ _ hn, Option.bind_some]
theorem Rename_no {a : AutoAuto} (h : AB a) (hm : ¬ mayP a = 0) : m_vars_Rename a = some (⟨[], 0⟩, mayP a) := by
  unfold m_vars_Rename
  rw [NormO_no h hm]
  simp only [Option.bind_some]
  rw [decide_eq_false hm, Bool.not_false, cond_true]
theorem rRename_l2 (a : AutoAuto) (i : Nat) (s : AutoState) (hi : a.l[i]? = some s) (hs : s.vars.length ≤ 40) (n0 : Nat) (mm : List (Int × Int)) (h : RnOk n0 mm) (hn0 : n0 ≤ 99900) : m_syntagmaref28_Rename_l2 a (i : Int) FU (0, mm.map (·.2), mm.map (·.1)) = some ((s.vars.foldl addF mm).map (·.2), (s.vars.foldl addF mm).map (·.1)) := by
  obtain ⟨o, e1, e2⟩ := loop_rng (φ := fun n k q => m_syntagmaref28_Rename_l2 a (i : Int) n (k, q)) (l := s.vars) (fun k q => q = (((s.vars.take k).foldl addF mm).map (·.2), ((s.vars.take k).foldl addF mm).map (·.1))) (fun o => o = ((s.vars.foldl addF mm).map (·.2), (s.vars.foldl addF mm).map (·.1)))
    (by
      rintro n k x q hx hk rfl
      left
      refine ⟨_, ?_, rfl⟩
      have hf := addF_fold (mm := mm) (s.vars.take k) h
      have hl2 : (s.vars.take k).length ≤ 40 := by rw [List.length_take]; omega
      rw [takeS hx, List.foldl_append, List.foldl_cons, List.foldl_nil]
      generalize (s.vars.take k).foldl addF mm = q at hf
      have hq := hf.2.2
      have h1 : (q.map (·.1)).length = q.length := List.length_map _
      have h2 : (q.map (·.2)).length = q.length := List.length_map _
      simp only [m_syntagmaref28_Rename_l2]
      rw [getI hi, Option.bind_some, decide_eq_true (show (k : Int) < (s.vars.length : Int) by omega), cond_true, Option.bind_some, getI hx, Option.bind_some, hasIntB_eq _ _ (by omega), Option.bind_some]
      unfold addF
      cases hg : mget q x with
      | none =>
        rw [decide_eq_false (mget_none.1 hg), show (none : Option Int).isSome = false from rfl, Bool.not_false, cond_true, Option.bind_some, getI hx, Option.bind_some, grd_pos (by simp only [List.length_cons, List.length_nil]; omega), grd_pos (by simp only [List.length_cons, List.length_nil]; omega), grd_pos (by omega), if_neg (by simp), List.map_append, List.map_append, h2]
        rfl
      | some z =>
        have hin : x ∈ q.map (·.1) := Classical.byContradiction fun hx => by rw [mget_none.2 hx] at hg; cases hg
        rw [decide_eq_true hin, show (some z).isSome = true from rfl, Bool.not_true, cond_false, grd_pos (by omega), if_pos rfl])
    (by
      rintro n q rfl
      refine ⟨_, ?_, rfl⟩
      simp only [m_syntagmaref28_Rename_l2]
      rw [getI hi, Option.bind_some, decide_eq_false (by omega), cond_false, List.take_length]) (by rw [FUv]; omega) (mm.map (·.2), mm.map (·.1)) (by simp)
  rw [e1, e2]
theorem rRename_l1 (a : AutoAuto) (h : AB a) : m_syntagmaref28_Rename_l1 a FU (0, [], []) = some ((rnP a.l).map (·.2), (rnP a.l).map (·.1)) := by
  have hlen := h.1
  obtain ⟨o, e1, e2⟩ := loop_rng (φ := fun n i q => m_syntagmaref28_Rename_l1 a n (i, q)) (l := a.l) (fun i q => ∃ mm, q = (mm.map (·.2), mm.map (·.1)) ∧ mm = rnP (a.l.take i) ∧ RnOk (40 * i) mm) (fun o => o = ((rnP a.l).map (·.2), (rnP a.l).map (·.1)))
    (by
      rintro n i s q hx hi ⟨mm, rfl, hq, hr⟩
      left
      have hs := (h.2 s (List.mem_of_getElem? hx)).1
      have hf := addF_fold (mm := mm) s.vars hr
      refine ⟨_, ?_, s.vars.foldl addF mm, rfl, by rw [takeS hx, rnP_app, hq], hf.1, hf.2.1, by have := hf.2.2; omega⟩
      simp only [m_syntagmaref28_Rename_l1]
      rw [decide_eq_true (show (i : Int) < (a.l.length : Int) by omega), cond_true, rRename_l2 a i s hx hs (40 * i) mm hr (by omega), Option.bind_some, grd_pos (by omega)])
    (by
      rintro n q ⟨mm, rfl, hq, hr⟩
      rw [List.take_length] at hq
      subst hq
      refine ⟨_, ?_, rfl⟩
      simp only [m_syntagmaref28_Rename_l1]
      rw [decide_eq_false (by omega), cond_false]) (by rw [FUv]; omega) ([], []) ⟨[], rfl, by simp [rnP], by simp, by simp, by simp⟩
  rw [e1, e2]
theorem rRename_ok {a : AutoAuto} (h : AB a) (hm : mayP a = 0) : m_syntagmaref28_Rename a = some (withP (mget (rnP (normP a).l)) (normP a)) := by
  have hn := norm_AB (led_of h hm)
  obtain ⟨r1, r2, r3⟩ := (rename_l1 _ hn).2
  unfold m_syntagmaref28_Rename
  rw [rnorm_eq (led_of h hm), Option.bind_some, rRename_l1 _ hn, Option.bind_some]
  simp only []
  rw [show (⟨(normP a).l, (normP a).start⟩ : AutoAuto) = normP a from rfl, With_eq _ _ r3 hn, Option.bind_some, with_same (f := mget (rnP (normP a).l))]
  intro s hs v hv z
  rw [look_mem, mget_mem r1]
  exact ⟨fun h => h.1, fun h => ⟨h, r2 _ ((mget_mem r1).2 h)⟩⟩
end Go.Proofs.Ytafphfokopkhdaa
set_option linter.unusedVariables false
set_option linter.unusedSimpArgs false
set_option maxRecDepth 100000
namespace Go.Proofs.Ytafphfokopkhdaa
open Go.V
open Classical
def a28 : AutoAuto := ⟨[⟨true, false, false, false, false, true, false, false, [], 1, 2, [], []⟩, ⟨false, false, false, false, false, false, false, false, [7], 0, 0, [], []⟩, ⟨true, false, true, false, false, false, false, false, [], 0, 0, [], []⟩], 0⟩
theorem a28_AB : AB a28 := ⟨by decide, by
  intro s hs
  simp only [a28, List.mem_cons, List.not_mem_nil, or_false] at hs
  rcases hs with rfl | rfl | rfl <;> exact ⟨by decide, by decide, by decide⟩⟩
theorem a28_may : mayP a28 = 0 := by
  have h := may_eq a28 a28_AB
  have h2 : m_auto_May a28 = some 0 := by rfl
  rw [h2] at h
  exact (Option.some.inj h).symm
theorem a28_norm : normP a28 = a28 := by rfl
theorem setC_nil : setC [] = [] := (setC_of List.Pairwise.nil (by simp)).symm
theorem setC_one (x : Int) : setC [x] = [x] := (setC_of (List.pairwise_singleton _ _) (by simp)).symm
theorem a28_vars : varsA a28 = [7] := by
  unfold varsA
  rw [show a28.l.flatMap (·.vars) = [7] from rfl, setC_one]
theorem a28_bits : bits a28.l 7 = 2 := by
  unfold bits
  have h1 : occ a28.l true 7 = false := by
    unfold occ
    rw [decide_eq_false]
    rintro ⟨s, hs, h1, h2⟩
    simp only [a28, List.mem_cons, List.not_mem_nil, or_false] at hs
    rcases hs with rfl | rfl | rfl
    · simp at h2
    · cases h1
    · simp at h2
  have h2 : occ a28.l false 7 = true := occ_iff.2 ⟨⟨false, false, false, false, false, false, false, false, [7], 0, 0, [], []⟩, by simp [a28], rfl, by simp⟩
  rw [h1, h2]; rfl
theorem works28 : m_syntagmalaw28_works = some true := by
  have h1 : m_vars_Sides a28 = some ([⟨7, 2⟩], 0) := by
    rw [Sides_ok a28_AB a28_may, a28_norm]
    unfold sidesP
    rw [a28_vars, List.map_cons, List.map_nil, a28_bits]
  have h2 : m_vars_Drop a28 = some (withP (dropF a28) a28, 0) := by rw [Drop_ok a28_AB a28_may, a28_norm]
  have h3 : m_vars_Rename a28 = some (withP (mget (rnP a28.l)) a28, 0) := by rw [Rename_ok a28_AB a28_may, a28_norm]
  have e1 : idx (withP (dropF a28) a28).l 1 = some (stW (dropF a28) ⟨false, false, false, false, false, false, false, false, [7], 0, 0, [], []⟩) := rfl
  have e2 : idx (withP (mget (rnP a28.l)) a28).l 1 = some (stW (mget (rnP a28.l)) ⟨false, false, false, false, false, false, false, false, [7], 0, 0, [], []⟩) := rfl
  have f1 : (stW (dropF a28) ⟨false, false, false, false, false, false, false, false, [7], 0, 0, [], []⟩).vars = [] := by
    show setC ([7].filterMap (dropF a28)) = []
    have : dropF a28 7 = none := by unfold dropF; rw [a28_bits]; rfl
    rw [List.filterMap_cons, this]
    exact setC_nil
  have f2 : (stW (mget (rnP a28.l)) ⟨false, false, false, false, false, false, false, false, [7], 0, 0, [], []⟩).vars = [0] := by
    show setC ([7].filterMap (mget (rnP a28.l))) = [0]
    have : mget (rnP a28.l) 7 = some 0 := by rfl
    rw [List.filterMap_cons, this]
    exact setC_one 0
  unfold m_syntagmalaw28_works
  simp only [show (⟨[(⟨true, false, false, false, false, true, false, false, ([] : List Int), 1, 2, ([] : List AutoEdge), ([] : List AutoEdge)⟩ : AutoState), (⟨false, false, false, false, false, false, false, false, [7], 0, 0, ([] : List AutoEdge), ([] : List AutoEdge)⟩ : AutoState), (⟨true, false, true, false, false, false, false, false, ([] : List Int), 0, 0, ([] : List AutoEdge), ([] : List AutoEdge)⟩ : AutoState)], 0⟩ : AutoAuto) = a28 from rfl]
  rw [h1, h2, h3]
  simp only [Option.bind_some]
  rw [e1, e2]
  simp only [Option.bind_some, f1, f2]
  rfl
theorem autoEta (x : AutoAuto) : (⟨x.l, x.start⟩ : AutoAuto) = x := by cases x; rfl
theorem vt_loop {a : AutoAuto} (hn : AB a) : m_syntagmalaw28_VarsTells_l1 (sidesP a) a (varsA a) FU 0 = some (.go ()) := by
      have hlen := varsA_len hn
      have h := loop_all (φ := m_syntagmalaw28_VarsTells_l1 (sidesP a) a (varsA a)) (l := varsA a) false (fun _ _ => True) (by
        intro n i v hv hi
        refine ⟨fun _ => ?_, fun h => absurd trivial h⟩
        have hs : idx (sidesP a) (i : Int) = some ⟨v, bits a.l v⟩ := getI (by unfold sidesP; rw [List.getElem?_map, hv]; rfl)
        simp only [m_syntagmalaw28_VarsTells_l1]
        rw [decide_eq_true (show (i : Int) < ((varsA a).length : Int) by omega), cond_true, getI hv, Option.bind_some, hs, autoEta]
        have hon := fun v p => on28_eq a v p hn
        simp only [Option.bind_some, hon]
        have hb : ((bif occ a.l true v then some 1 else some 0 : Option Int).bind fun side1 => (bif occ a.l false v then grd (InR (side1 + 2)) <| some (side1 + 2) else some side1 : Option Int)) = some (bits a.l v) := by
          unfold bits
          cases occ a.l true v <;> cases occ a.l false v <;> rfl
        obtain ⟨s1, q1, q2⟩ : ∃ s1, (bif occ a.l true v then some 1 else some 0 : Option Int) = some s1 ∧ (bif occ a.l false v then grd (InR (s1 + 2)) <| some (s1 + 2) else some s1 : Option Int) = some (bits a.l v) := by
          cases h1 : (bif occ a.l true v then some 1 else some 0 : Option Int) with
          | none => rw [h1] at hb; cases hb
          | some s1 => rw [h1, Option.bind_some] at hb; exact ⟨s1, rfl, hb⟩
        have hi2 : InR ((i : Int) + 1) := by unfold InR; omega
        simp only [q1, q2, Option.bind_some, decide_true, Bool.not_true, cond_false, grd_pos hi2]) (by
        intro n
        simp only [m_syntagmalaw28_VarsTells_l1]
        rw [decide_eq_false (by omega), cond_false]) (by rw [FUv]; omega)
      rw [h, if_pos (fun _ _ _ => trivial)]
theorem law_VarsTells (a : AutoAuto) : m_syntagmalaw28_VarsTells a = some true := by
  unfold m_syntagmalaw28_VarsTells
  obtain ⟨x, hx, ha⟩ := give_eq a
  rw [hx]
  simp only [Option.bind_some, autoEta]
  by_cases hm : mayP x = 0
  · have hl := led_of ha hm
    have hn := norm_AB hl
    have hlen := varsA_len hn
    have hsl : (sidesP (normP x)).length = (varsA (normP x)).length := by unfold sidesP; rw [List.length_map]
    rw [Sides_ok ha hm, Drop_ok ha hm, Rename_ok ha hm]
    simp only [Option.bind_some, autoEta]
    rw [of_eq _ ha, Option.bind_some, rmay_eq _ ha, Option.bind_some, hm, show (!decide ((0 : Int) = 0)) = false from rfl, cond_false, rnorm_eq hl, Option.bind_some, all_eq _ hn, Option.bind_some, hsl, decide_eq_true (rfl : ((varsA (normP x)).length : Int) = ((varsA (normP x)).length : Int))]
    simp only [decide_true, Bool.not_true, Bool.or_self, cond_false]
    have hloop := vt_loop hn
    rw [hloop, Option.bind_some, go_on]
    have hd := withP_AB (f := dropF (normP x)) hn
    have hr := withP_AB (f := mget (rnP (normP x).l)) hn
    rw [of_eq _ hd, Option.bind_some, rDrop_ok ha hm, Option.bind_some, sameList_eq _ _ hd, Option.bind_some, decide_eq_true rfl, cond_true, of_eq _ hr, Option.bind_some, rRename_ok ha hm, Option.bind_some, sameList_eq _ _ hr, Option.bind_some, decide_eq_true rfl, cond_true, works28, Option.bind_some]
  · rw [Sides_no ha hm, Drop_no ha hm, Rename_no ha hm]
    simp only [Option.bind_some]
    rw [of_eq _ ha, Option.bind_some, rmay_eq _ ha, Option.bind_some, decide_eq_false hm, Bool.not_false, cond_true, works28]
    simp only [decide_true, Bool.and_self, cond_true, List.length_nil]
    rw [grd_pos (by decide), grd_pos (by decide)]
    rfl
end Go.Proofs.Ytafphfokopkhdaa
