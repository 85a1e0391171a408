/- Part B24 of the proof: contracts of the functions that are walked, and what they compute; no condition. -/
import Derived.Test.YtfcifodaohhcbaaB24x1
set_option linter.unusedVariables false
set_option linter.unusedSimpArgs false
set_option maxRecDepth 100000
set_option maxHeartbeats 2000000
namespace Go.Proofs.Ytfcifodaohhcbaa
open Go.V
def m_syntagmaref24_right (a1 : AutoAuto) (s1 : AutoState) : Option Bool :=
  bif ((((s1.all && ((((((s1.int || s1.bool) || s1.str) || s1.arrow) || s1.rec_) || s1.tag) || (decide (0 < (s1.vars.length : Int))))) || ((!s1.arrow) && ((!decide (s1.dom = 0)) || (!decide (s1.cod = 0))))) || ((!s1.rec_) && (decide (0 < (s1.fields.length : Int))))) || ((!s1.tag) && (decide (0 < (s1.tags.length : Int))))) then
    some false
  else
    ((m_syntagmaref24_right_l1 s1 FU 0 : Option (Out Bool Unit))).bind (fun oo => oo.on (fun r2 => some r2) (fun _ =>
    (m_syntagmaref24_Next s1).bind fun x5 =>
    ((m_syntagmaref24_right_l2 a1 s1 x5 FU 0 : Option (Out Bool Unit))).bind (fun oo => oo.on (fun r1 => some r1) (fun _ =>
    (m_syntagmaref24_edges s1.fields false).bind fun x10 =>
    (bif x10 then ((m_syntagmaref24_edges s1.tags true).bind fun x11 =>
    some x11) else (some false)).bind fun p1 =>
    some p1))))
theorem w_syntagmaref24_right {a1 : AutoAuto} {s1 : AutoState} {r : Bool} (hm : m_syntagmaref24_right a1 s1 = some r) : Fn0 Try.prog 83 [AutoAuto.d a1, AutoState.d s1] (.bool r) := by
  unfold m_syntagmaref24_right at hm
  refine fn_intro Try.func83 rfl Try.ntmps83 rfl fun H0 fr w0 => ?_
  refine g_seq ?_
  refine g_region ?_
  refine go_p rfl rfl rfl (o_box rfl rfl) ?_
  refine go_p rfl rfl rfl (o_box rfl rfl) ?_
  refine go_p rfl rfl rfl (o_assign rfl) ?_
  refine go_nil ?_
  refine g_seq ?_
  refine g_seq ?_
  refine g_region ?_
  refine go_p rfl rfl rfl (o_fieldAddr fi_93_1 rfl rfl rfl) ?_
  refine go_p rfl rfl rfl (o_load Try.isAgg4 rfl rfl) ?_
  refine go_p rfl rfl rfl (o_move rfl) ?_
  apply go_and [(2, _), (3, _)] 29 40 (t := 11) ⟨rfl, rfl, trivial⟩ rfl
  · intro hg_1 hk1
    refine go_wantp rfl rfl rfl hg_1 rfl rfl (o_fieldAddr fi_93_2 rfl rfl rfl) ?_
    refine go_wantp rfl rfl rfl hg_1 rfl rfl (o_load Try.isAgg4 rfl rfl) ?_
    refine go_wantp rfl rfl rfl hg_1 rfl rfl (o_move rfl) ?_
    apply go_or [(2, _), (3, _), (11, _)] 3 17 (t := 14) ⟨rfl, rfl, rfl, trivial⟩ rfl
    · intro hg_2 hk2
      refine go_wantp rfl rfl rfl hg_2 rfl rfl (o_fieldAddr fi_93_3 rfl rfl rfl) ?_
      refine go_wantp rfl rfl rfl hg_2 rfl rfl (o_load Try.isAgg4 rfl rfl) ?_
      refine go_wantp rfl rfl rfl hg_1 rfl rfl (o_pickF rfl hg_2 rfl) ?_
      exact go_meet hk2 (rfl) ⟨rfl, rfl, rfl, trivial⟩
    · intro hg_2 hk2
      refine go_skip rfl rfl rfl hg_2 rfl rfl ?_
      refine go_skip rfl rfl rfl hg_2 rfl rfl ?_
      refine go_wantp rfl rfl rfl hg_1 rfl rfl (o_pickT rfl hg_2 rfl) ?_
      exact go_meet hk2 (rfl) ⟨rfl, rfl, rfl, trivial⟩
    refine go_wantp rfl rfl rfl hg_1 rfl rfl (o_move rfl) ?_
    apply go_or [(2, _), (3, _), (11, _)] 3 21 (t := 18) ⟨rfl, rfl, rfl, trivial⟩ rfl
    · intro hg_3 hk3
      refine go_wantp rfl rfl rfl hg_3 rfl rfl (o_fieldAddr fi_93_4 rfl rfl rfl) ?_
      refine go_wantp rfl rfl rfl hg_3 rfl rfl (o_load Try.isAgg4 rfl rfl) ?_
      refine go_wantp rfl rfl rfl hg_1 rfl rfl (o_pickF rfl hg_3 rfl) ?_
      exact go_meet hk3 (rfl) ⟨rfl, rfl, rfl, trivial⟩
    · intro hg_3 hk3
      refine go_skip rfl rfl rfl hg_3 rfl rfl ?_
      refine go_skip rfl rfl rfl hg_3 rfl rfl ?_
      refine go_wantp rfl rfl rfl hg_1 rfl rfl (o_pickT rfl hg_3 rfl) ?_
      exact go_meet hk3 (rfl) ⟨rfl, rfl, rfl, trivial⟩
    refine go_wantp rfl rfl rfl hg_1 rfl rfl (o_move rfl) ?_
    apply go_or [(2, _), (3, _), (11, _)] 3 25 (t := 22) ⟨rfl, rfl, rfl, trivial⟩ rfl
    · intro hg_4 hk4
      refine go_wantp rfl rfl rfl hg_4 rfl rfl (o_fieldAddr fi_93_5 rfl rfl rfl) ?_
      refine go_wantp rfl rfl rfl hg_4 rfl rfl (o_load Try.isAgg4 rfl rfl) ?_
      refine go_wantp rfl rfl rfl hg_1 rfl rfl (o_pickF rfl hg_4 rfl) ?_
      exact go_meet hk4 (rfl) ⟨rfl, rfl, rfl, trivial⟩
    · intro hg_4 hk4
      refine go_skip rfl rfl rfl hg_4 rfl rfl ?_
      refine go_skip rfl rfl rfl hg_4 rfl rfl ?_
      refine go_wantp rfl rfl rfl hg_1 rfl rfl (o_pickT rfl hg_4 rfl) ?_
      exact go_meet hk4 (rfl) ⟨rfl, rfl, rfl, trivial⟩
    refine go_wantp rfl rfl rfl hg_1 rfl rfl (o_move rfl) ?_
    apply go_or [(2, _), (3, _), (11, _)] 3 29 (t := 26) ⟨rfl, rfl, rfl, trivial⟩ rfl
    · intro hg_5 hk5
      refine go_wantp rfl rfl rfl hg_5 rfl rfl (o_fieldAddr fi_93_6 rfl rfl rfl) ?_
      refine go_wantp rfl rfl rfl hg_5 rfl rfl (o_load Try.isAgg4 rfl rfl) ?_
      refine go_wantp rfl rfl rfl hg_1 rfl rfl (o_pickF rfl hg_5 rfl) ?_
      exact go_meet hk5 (rfl) ⟨rfl, rfl, rfl, trivial⟩
    · intro hg_5 hk5
      refine go_skip rfl rfl rfl hg_5 rfl rfl ?_
      refine go_skip rfl rfl rfl hg_5 rfl rfl ?_
      refine go_wantp rfl rfl rfl hg_1 rfl rfl (o_pickT rfl hg_5 rfl) ?_
      exact go_meet hk5 (rfl) ⟨rfl, rfl, rfl, trivial⟩
    refine go_wantp rfl rfl rfl hg_1 rfl rfl (o_move rfl) ?_
    apply go_or [(2, _), (3, _), (11, _)] 3 33 (t := 30) ⟨rfl, rfl, rfl, trivial⟩ rfl
    · intro hg_6 hk6
      refine go_wantp rfl rfl rfl hg_6 rfl rfl (o_fieldAddr fi_93_7 rfl rfl rfl) ?_
      refine go_wantp rfl rfl rfl hg_6 rfl rfl (o_load Try.isAgg4 rfl rfl) ?_
      refine go_wantp rfl rfl rfl hg_1 rfl rfl (o_pickF rfl hg_6 rfl) ?_
      exact go_meet hk6 (rfl) ⟨rfl, rfl, rfl, trivial⟩
    · intro hg_6 hk6
      refine go_skip rfl rfl rfl hg_6 rfl rfl ?_
      refine go_skip rfl rfl rfl hg_6 rfl rfl ?_
      refine go_wantp rfl rfl rfl hg_1 rfl rfl (o_pickT rfl hg_6 rfl) ?_
      exact go_meet hk6 (rfl) ⟨rfl, rfl, rfl, trivial⟩
    refine go_wantp rfl rfl rfl hg_1 rfl rfl (o_move rfl) ?_
    apply go_or [(2, _), (3, _), (11, _)] 5 39 (t := 34) ⟨rfl, rfl, rfl, trivial⟩ rfl
    · intro hg_7 hk7
      refine go_wantp rfl rfl rfl hg_7 rfl rfl (o_fieldAddr fi_93_8 rfl rfl rfl) ?_
      refine go_wantp rfl rfl rfl hg_7 rfl rfl (o_load Try.isAgg47 rfl rfl) ?_
      refine go_wantp rfl rfl rfl hg_7 rfl rfl (o_len Try.runUnderlying47 rfl) ?_
      refine go_wantp rfl rfl rfl hg_7 rfl rfl (o_cmp rfl rfl rfl) ?_
      refine go_wantp rfl rfl rfl hg_1 rfl rfl (o_pickF rfl hg_7 rfl) ?_
      exact go_meet hk7 (rfl) ⟨rfl, rfl, rfl, trivial⟩
    · intro hg_7 hk7
      refine go_skip rfl rfl rfl hg_7 rfl rfl ?_
      refine go_skip rfl rfl rfl hg_7 rfl rfl ?_
      refine go_skip rfl rfl rfl hg_7 rfl rfl ?_
      refine go_skip rfl rfl rfl hg_7 rfl rfl ?_
      refine go_wantp rfl rfl rfl hg_1 rfl rfl (o_pickT rfl hg_7 rfl) ?_
      exact go_meet hk7 (rfl) ⟨rfl, rfl, rfl, trivial⟩
    refine go_p rfl rfl rfl (o_pickT rfl hg_1 rfl) ?_
    exact go_meet hk1 (rfl) ⟨rfl, rfl, trivial⟩
  · intro hg_1 hk1
    refine go_skip rfl rfl rfl hg_1 rfl rfl ?_
    refine go_skip rfl rfl rfl hg_1 rfl rfl ?_
    refine go_skip rfl rfl rfl hg_1 rfl rfl ?_
    refine go_skipu rfl rfl rfl rfl rfl ?_
    refine go_skipu rfl rfl rfl rfl rfl ?_
    refine go_skip rfl rfl rfl hg_1 rfl rfl ?_
    refine go_skip rfl rfl rfl hg_1 rfl rfl ?_
    refine go_skipu rfl rfl rfl rfl rfl ?_
    refine go_skipu rfl rfl rfl rfl rfl ?_
    refine go_skip rfl rfl rfl hg_1 rfl rfl ?_
    refine go_skip rfl rfl rfl hg_1 rfl rfl ?_
    refine go_skipu rfl rfl rfl rfl rfl ?_
    refine go_skipu rfl rfl rfl rfl rfl ?_
    refine go_skip rfl rfl rfl hg_1 rfl rfl ?_
    refine go_skip rfl rfl rfl hg_1 rfl rfl ?_
    refine go_skipu rfl rfl rfl rfl rfl ?_
    refine go_skipu rfl rfl rfl rfl rfl ?_
    refine go_skip rfl rfl rfl hg_1 rfl rfl ?_
    refine go_skip rfl rfl rfl hg_1 rfl rfl ?_
    refine go_skipu rfl rfl rfl rfl rfl ?_
    refine go_skipu rfl rfl rfl rfl rfl ?_
    refine go_skip rfl rfl rfl hg_1 rfl rfl ?_
    refine go_skip rfl rfl rfl hg_1 rfl rfl ?_
    refine go_skipu rfl rfl rfl rfl rfl ?_
    refine go_skipu rfl rfl rfl rfl rfl ?_
    refine go_skipu rfl rfl rfl rfl rfl ?_
    refine go_skipu rfl rfl rfl rfl rfl ?_
    refine go_skip rfl rfl rfl hg_1 rfl rfl ?_
    refine go_p rfl rfl rfl (o_pickF rfl hg_1 rfl) ?_
    exact go_meet hk1 (rfl) ⟨rfl, rfl, trivial⟩
  refine go_p rfl rfl rfl (o_move rfl) ?_
  apply go_or [(2, _), (3, _)] 14 55 (t := 41) ⟨rfl, rfl, trivial⟩ rfl
  · intro hg_8 hk8
    refine go_wantp rfl rfl rfl hg_8 rfl rfl (o_fieldAddr fi_93_5 rfl rfl rfl) ?_
    refine go_wantp rfl rfl rfl hg_8 rfl rfl (o_load Try.isAgg4 rfl rfl) ?_
    refine go_wantp rfl rfl rfl hg_8 rfl rfl (o_not rfl) ?_
    refine go_wantp rfl rfl rfl hg_8 rfl rfl (o_move rfl) ?_
    apply go_and [(2, _), (3, _), (41, _)] 9 54 (t := 45) ⟨rfl, rfl, rfl, trivial⟩ rfl
    · intro hg_9 hk9
      refine go_wantp rfl rfl rfl hg_9 rfl rfl (o_fieldAddr fi_93_9 rfl rfl rfl) ?_
      refine go_wantp rfl rfl rfl hg_9 rfl rfl (o_load Try.isAgg3 rfl rfl) ?_
      refine go_wantp rfl rfl rfl hg_9 rfl rfl (o_cmp rfl rfl rfl) ?_
      refine go_wantp rfl rfl rfl hg_9 rfl rfl (o_move rfl) ?_
      apply go_or [(2, _), (3, _), (41, _), (45, _)] 4 53 (t := 49) ⟨rfl, rfl, rfl, rfl, trivial⟩ rfl
      · intro hg_10 hk10
        refine go_wantp rfl rfl rfl hg_10 rfl rfl (o_fieldAddr fi_93_10 rfl rfl rfl) ?_
        refine go_wantp rfl rfl rfl hg_10 rfl rfl (o_load Try.isAgg3 rfl rfl) ?_
        refine go_wantp rfl rfl rfl hg_10 rfl rfl (o_cmp rfl rfl rfl) ?_
        refine go_wantp rfl rfl rfl hg_9 rfl rfl (o_pickF rfl hg_10 rfl) ?_
        exact go_meet hk10 (rfl) ⟨rfl, rfl, rfl, rfl, trivial⟩
      · intro hg_10 hk10
        refine go_skip rfl rfl rfl hg_10 rfl rfl ?_
        refine go_skip rfl rfl rfl hg_10 rfl rfl ?_
        refine go_skip rfl rfl rfl hg_10 rfl rfl ?_
        refine go_wantp rfl rfl rfl hg_9 rfl rfl (o_pickT rfl hg_10 rfl) ?_
        exact go_meet hk10 (rfl) ⟨rfl, rfl, rfl, rfl, trivial⟩
      refine go_wantp rfl rfl rfl hg_8 rfl rfl (o_pickT rfl hg_9 rfl) ?_
      exact go_meet hk9 (rfl) ⟨rfl, rfl, rfl, trivial⟩
    · intro hg_9 hk9
      refine go_skip rfl rfl rfl hg_9 rfl rfl ?_
      refine go_skip rfl rfl rfl hg_9 rfl rfl ?_
      refine go_skip rfl rfl rfl hg_9 rfl rfl ?_
      refine go_skip rfl rfl rfl hg_9 rfl rfl ?_
      refine go_skipu rfl rfl rfl rfl rfl ?_
      refine go_skipu rfl rfl rfl rfl rfl ?_
      refine go_skipu rfl rfl rfl rfl rfl ?_
      refine go_skip rfl rfl rfl hg_9 rfl rfl ?_
      refine go_wantp rfl rfl rfl hg_8 rfl rfl (o_pickF rfl hg_9 rfl) ?_
      exact go_meet hk9 (rfl) ⟨rfl, rfl, rfl, trivial⟩
    refine go_p rfl rfl rfl (o_pickF rfl hg_8 rfl) ?_
    exact go_meet hk8 (rfl) ⟨rfl, rfl, trivial⟩
  · intro hg_8 hk8
    refine go_skip rfl rfl rfl hg_8 rfl rfl ?_
    refine go_skip rfl rfl rfl hg_8 rfl rfl ?_
    refine go_skip rfl rfl rfl hg_8 rfl rfl ?_
    refine go_skip rfl rfl rfl hg_8 rfl rfl ?_
    refine go_skipu rfl rfl rfl rfl rfl ?_
    refine go_skipu rfl rfl rfl rfl rfl ?_
    refine go_skipu rfl rfl rfl rfl rfl ?_
    refine go_skipu rfl rfl rfl rfl rfl ?_
    refine go_skipu rfl rfl rfl rfl rfl ?_
    refine go_skipu rfl rfl rfl rfl rfl ?_
    refine go_skipu rfl rfl rfl rfl rfl ?_
    refine go_skipu rfl rfl rfl rfl rfl ?_
    refine go_skip rfl rfl rfl hg_8 rfl rfl ?_
    refine go_p rfl rfl rfl (o_pickT rfl hg_8 rfl) ?_
    exact go_meet hk8 (rfl) ⟨rfl, rfl, trivial⟩
  refine go_p rfl rfl rfl (o_move rfl) ?_
  apply go_or [(2, _), (3, _)] 10 66 (t := 56) ⟨rfl, rfl, trivial⟩ rfl
  · intro hg_11 hk11
    refine go_wantp rfl rfl rfl hg_11 rfl rfl (o_fieldAddr fi_93_6 rfl rfl rfl) ?_
    refine go_wantp rfl rfl rfl hg_11 rfl rfl (o_load Try.isAgg4 rfl rfl) ?_
    refine go_wantp rfl rfl rfl hg_11 rfl rfl (o_not rfl) ?_
    refine go_wantp rfl rfl rfl hg_11 rfl rfl (o_move rfl) ?_
    apply go_and [(2, _), (3, _), (56, _)] 5 65 (t := 60) ⟨rfl, rfl, rfl, trivial⟩ rfl
    · intro hg_12 hk12
      refine go_wantp rfl rfl rfl hg_12 rfl rfl (o_fieldAddr fi_93_11 rfl rfl rfl) ?_
      refine go_wantp rfl rfl rfl hg_12 rfl rfl (o_load Try.isAgg91 rfl rfl) ?_
      refine go_wantp rfl rfl rfl hg_12 rfl rfl (o_len Try.runUnderlying91 rfl) ?_
      refine go_wantp rfl rfl rfl hg_12 rfl rfl (o_cmp rfl rfl rfl) ?_
      refine go_wantp rfl rfl rfl hg_11 rfl rfl (o_pickT rfl hg_12 rfl) ?_
      exact go_meet hk12 (rfl) ⟨rfl, rfl, rfl, trivial⟩
    · intro hg_12 hk12
      refine go_skip rfl rfl rfl hg_12 rfl rfl ?_
      refine go_skip rfl rfl rfl hg_12 rfl rfl ?_
      refine go_skip rfl rfl rfl hg_12 rfl rfl ?_
      refine go_skip rfl rfl rfl hg_12 rfl rfl ?_
      refine go_wantp rfl rfl rfl hg_11 rfl rfl (o_pickF rfl hg_12 rfl) ?_
      exact go_meet hk12 (rfl) ⟨rfl, rfl, rfl, trivial⟩
    refine go_p rfl rfl rfl (o_pickF rfl hg_11 rfl) ?_
    exact go_meet hk11 (rfl) ⟨rfl, rfl, trivial⟩
  · intro hg_11 hk11
    refine go_skip rfl rfl rfl hg_11 rfl rfl ?_
    refine go_skip rfl rfl rfl hg_11 rfl rfl ?_
    refine go_skip rfl rfl rfl hg_11 rfl rfl ?_
    refine go_skip rfl rfl rfl hg_11 rfl rfl ?_
    refine go_skipu rfl rfl rfl rfl rfl ?_
    refine go_skipu rfl rfl rfl rfl rfl ?_
    refine go_skipu rfl rfl rfl rfl rfl ?_
    refine go_skipu rfl rfl rfl rfl rfl ?_
    refine go_skip rfl rfl rfl hg_11 rfl rfl ?_
    refine go_p rfl rfl rfl (o_pickT rfl hg_11 rfl) ?_
    exact go_meet hk11 (rfl) ⟨rfl, rfl, trivial⟩
  refine go_p rfl rfl rfl (o_move rfl) ?_
  apply go_or [(2, _), (3, _)] 10 77 (t := 67) ⟨rfl, rfl, trivial⟩ rfl
  · intro hg_13 hk13
    refine go_wantp rfl rfl rfl hg_13 rfl rfl (o_fieldAddr fi_93_7 rfl rfl rfl) ?_
    refine go_wantp rfl rfl rfl hg_13 rfl rfl (o_load Try.isAgg4 rfl rfl) ?_
    refine go_wantp rfl rfl rfl hg_13 rfl rfl (o_not rfl) ?_
    refine go_wantp rfl rfl rfl hg_13 rfl rfl (o_move rfl) ?_
    apply go_and [(2, _), (3, _), (67, _)] 5 76 (t := 71) ⟨rfl, rfl, rfl, trivial⟩ rfl
    · intro hg_14 hk14
      refine go_wantp rfl rfl rfl hg_14 rfl rfl (o_fieldAddr fi_93_12 rfl rfl rfl) ?_
      refine go_wantp rfl rfl rfl hg_14 rfl rfl (o_load Try.isAgg91 rfl rfl) ?_
      refine go_wantp rfl rfl rfl hg_14 rfl rfl (o_len Try.runUnderlying91 rfl) ?_
      refine go_wantp rfl rfl rfl hg_14 rfl rfl (o_cmp rfl rfl rfl) ?_
      refine go_wantp rfl rfl rfl hg_13 rfl rfl (o_pickT rfl hg_14 rfl) ?_
      exact go_meet hk14 (rfl) ⟨rfl, rfl, rfl, trivial⟩
    · intro hg_14 hk14
      refine go_skip rfl rfl rfl hg_14 rfl rfl ?_
      refine go_skip rfl rfl rfl hg_14 rfl rfl ?_
      refine go_skip rfl rfl rfl hg_14 rfl rfl ?_
      refine go_skip rfl rfl rfl hg_14 rfl rfl ?_
      refine go_wantp rfl rfl rfl hg_13 rfl rfl (o_pickF rfl hg_14 rfl) ?_
      exact go_meet hk14 (rfl) ⟨rfl, rfl, rfl, trivial⟩
    refine go_p rfl rfl rfl (o_pickF rfl hg_13 rfl) ?_
    exact go_meet hk13 (rfl) ⟨rfl, rfl, trivial⟩
  · intro hg_13 hk13
    refine go_skip rfl rfl rfl hg_13 rfl rfl ?_
    refine go_skip rfl rfl rfl hg_13 rfl rfl ?_
    refine go_skip rfl rfl rfl hg_13 rfl rfl ?_
    refine go_skip rfl rfl rfl hg_13 rfl rfl ?_
    refine go_skipu rfl rfl rfl rfl rfl ?_
    refine go_skipu rfl rfl rfl rfl rfl ?_
    refine go_skipu rfl rfl rfl rfl rfl ?_
    refine go_skipu rfl rfl rfl rfl rfl ?_
    refine go_skip rfl rfl rfl hg_13 rfl rfl ?_
    refine go_p rfl rfl rfl (o_pickT rfl hg_13 rfl) ?_
    exact go_meet hk13 (rfl) ⟨rfl, rfl, trivial⟩
  refine go_nil ?_
  refine g_cond rfl (fun hc1 => ?_) (fun hc1 => ?_)
  · replace hm := cond_t hc1 hm
    refine g_seq ?_
    refine g_region ?_
    refine go_p rfl rfl rfl (o_assign rfl) ?_
    refine go_nil ?_
    refine g_ret ?_
    exact retK (ret_one' rfl (ret_tmp rfl) (perm_drop _)) (congrArg (fun (p : Bool) => (.bool p : D)) (some_eq hm))
  · replace hm := cond_f hc1 hm
    refine g_skip ?_
    refine g_seq ?_
    refine g_seq ?_
    refine g_region ?_
    refine go_p rfl rfl rfl (o_assign rfl) ?_
    refine go_nil ?_
    obtain ⟨o_1, hj1, hm1⟩ := bind_some hm
    refine g_cut_m [(2, _), (3, _)] [] (fun (st : Unit) (hid : Unit) => match st, hid with | _, _ => []) (fun F (st : Unit) (hid : Unit) => match st, hid with | _, _ => []) (fun st => Out.go (st) = o_1) ⟨rfl, rfl, trivial⟩ trivial ?_ ?_
    · skip
      refine g_block ?_
      refine g_loop_m [(2, _), (3, _)] [] (fun (st : Int) (hid : Unit) => match st, hid with | i1, _ => [(5, .i64 i1)]) (fun F (st : Int) (hid : Unit) => match st, hid with | i1, _ => []) () hj1 (fun _ => rfl) ⟨rfl, rfl, trivial⟩ trivial ⟨rfl, trivial⟩ rfl ?_
      rintro n i1 _ hj1
      rw [m_syntagmaref24_right_l1] at hj1
      refine g_norm (L' := [(5, .i64 i1), (2, _), (3, _)]) (ms' := []) rfl rfl ?_
      refine g_seq ?_
      refine g_seq ?_
      refine g_region ?_
      refine go_p rfl rfl rfl (o_move rfl) ?_
      refine go_p rfl rfl rfl (o_fieldAddr fi_93_8 rfl rfl rfl) ?_
      refine go_p rfl rfl rfl (o_load Try.isAgg47 rfl rfl) ?_
      refine go_p rfl rfl rfl (o_len Try.runUnderlying47 rfl) ?_
      refine go_p rfl rfl rfl (o_cmp rfl rfl rfl) ?_
      refine go_nil ?_
      refine g_cond rfl (fun hc2 => ?_) (fun hc2 => ?_)
      · replace hj1 := cond_t hc2 hj1
        refine g_skip ?_
        refine g_seq ?_
        refine g_block ?_
        refine g_seq ?_
        obtain ⟨x1, hx1, hj1⟩ := bind_some hj1
        rcases cond_split hj1 with ⟨hg_15, hj1⟩ | ⟨hg_15, hj1⟩
        ·
          skip
          refine g_draw 32 Try_mixed (by decide +kernel) ?_
          refine gd_p rfl rfl rfl (o_fieldAddr fi_93_8 rfl rfl rfl) ?_
          refine gd_p rfl rfl rfl (o_load Try.isAgg47 rfl rfl) ?_
          refine gd_p rfl rfl rfl (o_move rfl) ?_
          refine gd_p rfl rfl rfl (o_indexAddr_m Try.runUnderlying47 Try.sizeOf3 rfl rfl hx1) ?_
          refine gd_p rfl rfl rfl (o_load Try.isAgg3 rfl rfl) ?_
          refine gd_p rfl rfl rfl (o_cmp rfl rfl rfl) ?_
          refine gd_p rfl rfl rfl (o_move rfl) ?_
          refine gd_skip rfl rfl rfl hg_15 rfl rfl ?_
          refine gd_skip rfl rfl rfl hg_15 rfl rfl ?_
          refine gd_skip rfl rfl rfl hg_15 rfl rfl ?_
          refine gd_skip rfl rfl rfl hg_15 rfl rfl ?_
          refine gd_skip rfl rfl rfl hg_15 rfl rfl ?_
          refine gd_skip rfl rfl rfl hg_15 rfl rfl ?_
          refine gd_p rfl rfl rfl (o_pickT rfl hg_15 rfl) ?_
          refine gd_p rfl rfl rfl (o_move rfl) ?_
          refine gd_skip rfl rfl rfl rfl rfl rfl ?_
          refine gd_skip rfl rfl rfl rfl rfl rfl ?_
          refine gd_skip rfl rfl rfl rfl rfl rfl ?_
          refine gd_skipu rfl rfl rfl rfl rfl ?_
          refine gd_skipu rfl rfl rfl rfl rfl ?_
          refine gd_skipu rfl rfl rfl rfl rfl ?_
          refine gd_skipu rfl rfl rfl rfl rfl ?_
          refine gd_skipu rfl rfl rfl rfl rfl ?_
          refine gd_skipu rfl rfl rfl rfl rfl ?_
          refine gd_skipu rfl rfl rfl rfl rfl ?_
          refine gd_skipu rfl rfl rfl rfl rfl ?_
          refine gd_skipu rfl rfl rfl rfl rfl ?_
          refine gd_skipu rfl rfl rfl rfl rfl ?_
          refine gd_skipu rfl rfl rfl rfl rfl ?_
          refine gd_skipu rfl rfl rfl rfl rfl ?_
          refine gd_skip rfl rfl rfl rfl rfl rfl ?_
          refine gd_p rfl rfl rfl (o_pickT rfl rfl rfl) ?_
          refine gd_nil ?_
          refine go_nil ?_
          refine g_cond_true rfl rfl ?_
          refine g_seq ?_
          refine g_region ?_
          refine go_p rfl rfl rfl (o_assign rfl) ?_
          refine go_nil ?_
          refine g_ret ?_
          obtain rfl := some_eq hj1
          replace hm1 := on_ret hm1
          exact retK (ret_one' rfl (ret_tmp rfl) (perm_drop _)) (congrArg (fun (p : Bool) => (.bool p : D)) (some_eq hm1))
        ·
          skip
          obtain ⟨x2, hx2, hj1⟩ := bind_some hj1
          rcases cond_split hj1 with ⟨hg_16, hj1⟩ | ⟨hg_16, hj1⟩
          ·
            skip
            refine g_draw 32 Try_mixed (by decide +kernel) ?_
            refine gd_p rfl rfl rfl (o_fieldAddr fi_93_8 rfl rfl rfl) ?_
            refine gd_p rfl rfl rfl (o_load Try.isAgg47 rfl rfl) ?_
            refine gd_p rfl rfl rfl (o_move rfl) ?_
            refine gd_p rfl rfl rfl (o_indexAddr_m Try.runUnderlying47 Try.sizeOf3 rfl rfl hx1) ?_
            refine gd_p rfl rfl rfl (o_load Try.isAgg3 rfl rfl) ?_
            refine gd_p rfl rfl rfl (o_cmp rfl rfl rfl) ?_
            refine gd_p rfl rfl rfl (o_move rfl) ?_
            refine gd_want rfl rfl rfl hg_15 rfl rfl (o_fieldAddr fi_93_8 rfl rfl rfl) ?_
            refine gd_want rfl rfl rfl hg_15 rfl rfl (o_load Try.isAgg47 rfl rfl) ?_
            refine gd_want rfl rfl rfl hg_15 rfl rfl (o_move rfl) ?_
            refine gd_want rfl rfl rfl hg_15 rfl rfl (o_indexAddr_m Try.runUnderlying47 Try.sizeOf3 rfl rfl hx2) ?_
            refine gd_want rfl rfl rfl hg_15 rfl rfl (o_load Try.isAgg3 rfl rfl) ?_
            refine gd_want rfl rfl rfl hg_15 rfl rfl (o_cmp rfl rfl rfl) ?_
            refine gd_p rfl rfl rfl (o_pickF rfl hg_15 rfl) ?_
            refine gd_p rfl rfl rfl (o_move rfl) ?_
            refine gd_skip rfl rfl rfl hg_16 rfl rfl ?_
            refine gd_skip rfl rfl rfl hg_16 rfl rfl ?_
            refine gd_skip rfl rfl rfl hg_16 rfl rfl ?_
            refine gd_skipu rfl rfl rfl rfl rfl ?_
            refine gd_skipu rfl rfl rfl rfl rfl ?_
            refine gd_skipu rfl rfl rfl rfl rfl ?_
            refine gd_skipu rfl rfl rfl rfl rfl ?_
            refine gd_skipu rfl rfl rfl rfl rfl ?_
            refine gd_skipu rfl rfl rfl rfl rfl ?_
            refine gd_skipu rfl rfl rfl rfl rfl ?_
            refine gd_skipu rfl rfl rfl rfl rfl ?_
            refine gd_skipu rfl rfl rfl rfl rfl ?_
            refine gd_skipu rfl rfl rfl rfl rfl ?_
            refine gd_skipu rfl rfl rfl rfl rfl ?_
            refine gd_skipu rfl rfl rfl rfl rfl ?_
            refine gd_skip rfl rfl rfl hg_16 rfl rfl ?_
            refine gd_p rfl rfl rfl (o_pickT rfl hg_16 rfl) ?_
            refine gd_nil ?_
            refine go_nil ?_
            refine g_cond_true rfl rfl ?_
            refine g_seq ?_
            refine g_region ?_
            refine go_p rfl rfl rfl (o_assign rfl) ?_
            refine go_nil ?_
            refine g_ret ?_
            obtain rfl := some_eq hj1
            replace hm1 := on_ret hm1
            exact retK (ret_one' rfl (ret_tmp rfl) (perm_drop _)) (congrArg (fun (p : Bool) => (.bool p : D)) (some_eq hm1))
          ·
            skip
            rcases cond_split hj1 with ⟨hg_17, hj1⟩ | ⟨hg_17, hj1⟩
            ·
              skip
              obtain ⟨hg3, hj1⟩ := grd_some hj1
              obtain ⟨x3, hx4, hj1⟩ := bind_some hj1
              obtain ⟨x4, hx5, hj1⟩ := bind_some hj1
              refine g_draw 32 Try_mixed (by decide +kernel) ?_
              refine gd_p rfl rfl rfl (o_fieldAddr fi_93_8 rfl rfl rfl) ?_
              refine gd_p rfl rfl rfl (o_load Try.isAgg47 rfl rfl) ?_
              refine gd_p rfl rfl rfl (o_move rfl) ?_
              refine gd_p rfl rfl rfl (o_indexAddr_m Try.runUnderlying47 Try.sizeOf3 rfl rfl hx1) ?_
              refine gd_p rfl rfl rfl (o_load Try.isAgg3 rfl rfl) ?_
              refine gd_p rfl rfl rfl (o_cmp rfl rfl rfl) ?_
              refine gd_p rfl rfl rfl (o_move rfl) ?_
              refine gd_want rfl rfl rfl hg_15 rfl rfl (o_fieldAddr fi_93_8 rfl rfl rfl) ?_
              refine gd_want rfl rfl rfl hg_15 rfl rfl (o_load Try.isAgg47 rfl rfl) ?_
              refine gd_want rfl rfl rfl hg_15 rfl rfl (o_move rfl) ?_
              refine gd_want rfl rfl rfl hg_15 rfl rfl (o_indexAddr_m Try.runUnderlying47 Try.sizeOf3 rfl rfl hx2) ?_
              refine gd_want rfl rfl rfl hg_15 rfl rfl (o_load Try.isAgg3 rfl rfl) ?_
              refine gd_want rfl rfl rfl hg_15 rfl rfl (o_cmp rfl rfl rfl) ?_
              refine gd_p rfl rfl rfl (o_pickF rfl hg_15 rfl) ?_
              refine gd_p rfl rfl rfl (o_move rfl) ?_
              refine gd_want rfl rfl rfl hg_16 rfl rfl (o_move rfl) ?_
              refine gd_want rfl rfl rfl hg_16 rfl rfl (o_cmp rfl rfl rfl) ?_
              refine gd_want rfl rfl rfl hg_16 rfl rfl (o_move rfl) ?_
              refine gd_want rfl rfl rfl hg_17 rfl rfl (o_fieldAddr fi_93_8 rfl rfl rfl) ?_
              refine gd_want rfl rfl rfl hg_17 rfl rfl (o_load Try.isAgg47 rfl rfl) ?_
              refine gd_want rfl rfl rfl hg_17 rfl rfl (o_move rfl) ?_
              refine gd_want rfl rfl rfl hg_17 rfl rfl (o_sub rfl rfl (i64_id hg3)) ?_
              refine gd_want rfl rfl rfl hg_17 rfl rfl (o_indexAddr_m Try.runUnderlying47 Try.sizeOf3 rfl rfl hx4) ?_
              refine gd_want rfl rfl rfl hg_17 rfl rfl (o_load Try.isAgg3 rfl rfl) ?_
              refine gd_want rfl rfl rfl hg_17 rfl rfl (o_fieldAddr fi_93_8 rfl rfl rfl) ?_
              refine gd_want rfl rfl rfl hg_17 rfl rfl (o_load Try.isAgg47 rfl rfl) ?_
              refine gd_want rfl rfl rfl hg_17 rfl rfl (o_move rfl) ?_
              refine gd_want rfl rfl rfl hg_17 rfl rfl (o_indexAddr_m Try.runUnderlying47 Try.sizeOf3 rfl rfl hx5) ?_
              refine gd_want rfl rfl rfl hg_17 rfl rfl (o_load Try.isAgg3 rfl rfl) ?_
              refine gd_want rfl rfl rfl hg_17 rfl rfl (o_cmp rfl rfl rfl) ?_
              refine gd_want rfl rfl rfl hg_16 rfl rfl (o_pickT rfl hg_17 rfl) ?_
              refine gd_p rfl rfl rfl (o_pickF rfl hg_16 rfl) ?_
              refine gd_nil ?_
              refine go_nil ?_
              refine g_cond rfl (fun hc3 => ?_) (fun hc3 => ?_)
              · replace hj1 := cond_t hc3 hj1
                refine g_seq ?_
                refine g_region ?_
                refine go_p rfl rfl rfl (o_assign rfl) ?_
                refine go_nil ?_
                refine g_ret ?_
                obtain rfl := some_eq hj1
                replace hm1 := on_ret hm1
                exact retK (ret_one' rfl (ret_tmp rfl) (perm_drop _)) (congrArg (fun (p : Bool) => (.bool p : D)) (some_eq hm1))
              · replace hj1 := cond_f hc3 hj1
                refine g_skip ?_
                refine g_region ?_
                refine go_p rfl rfl rfl (o_move rfl) ?_
                obtain ⟨hg6, hj1⟩ := grd_some hj1
                refine go_p rfl rfl rfl (o_add rfl rfl (i64_id hg6)) ?_
                refine go_p rfl rfl rfl (o_assign rfl) ?_
                refine go_nil ?_
                exact ⟨_, (), hj1, ⟨rfl, trivial⟩, ⟨rfl, rfl, trivial⟩, [], rfl⟩
            ·
              skip
              refine g_draw 32 Try_mixed (by decide +kernel) ?_
              refine gd_p rfl rfl rfl (o_fieldAddr fi_93_8 rfl rfl rfl) ?_
              refine gd_p rfl rfl rfl (o_load Try.isAgg47 rfl rfl) ?_
              refine gd_p rfl rfl rfl (o_move rfl) ?_
              refine gd_p rfl rfl rfl (o_indexAddr_m Try.runUnderlying47 Try.sizeOf3 rfl rfl hx1) ?_
              refine gd_p rfl rfl rfl (o_load Try.isAgg3 rfl rfl) ?_
              refine gd_p rfl rfl rfl (o_cmp rfl rfl rfl) ?_
              refine gd_p rfl rfl rfl (o_move rfl) ?_
              refine gd_want rfl rfl rfl hg_15 rfl rfl (o_fieldAddr fi_93_8 rfl rfl rfl) ?_
              refine gd_want rfl rfl rfl hg_15 rfl rfl (o_load Try.isAgg47 rfl rfl) ?_
              refine gd_want rfl rfl rfl hg_15 rfl rfl (o_move rfl) ?_
              refine gd_want rfl rfl rfl hg_15 rfl rfl (o_indexAddr_m Try.runUnderlying47 Try.sizeOf3 rfl rfl hx2) ?_
              refine gd_want rfl rfl rfl hg_15 rfl rfl (o_load Try.isAgg3 rfl rfl) ?_
              refine gd_want rfl rfl rfl hg_15 rfl rfl (o_cmp rfl rfl rfl) ?_
              refine gd_p rfl rfl rfl (o_pickF rfl hg_15 rfl) ?_
              refine gd_p rfl rfl rfl (o_move rfl) ?_
              refine gd_want rfl rfl rfl hg_16 rfl rfl (o_move rfl) ?_
              refine gd_want rfl rfl rfl hg_16 rfl rfl (o_cmp rfl rfl rfl) ?_
              refine gd_want rfl rfl rfl hg_16 rfl rfl (o_move rfl) ?_
              refine gd_skip rfl rfl rfl hg_17 rfl rfl ?_
              refine gd_skip rfl rfl rfl hg_17 rfl rfl ?_
              refine gd_skip rfl rfl rfl hg_17 rfl rfl ?_
              refine gd_skip rfl rfl rfl hg_17 rfl rfl ?_
              refine gd_skip rfl rfl rfl hg_17 rfl rfl ?_
              refine gd_skip rfl rfl rfl hg_17 rfl rfl ?_
              refine gd_skip rfl rfl rfl hg_17 rfl rfl ?_
              refine gd_skip rfl rfl rfl hg_17 rfl rfl ?_
              refine gd_skip rfl rfl rfl hg_17 rfl rfl ?_
              refine gd_skip rfl rfl rfl hg_17 rfl rfl ?_
              refine gd_skip rfl rfl rfl hg_17 rfl rfl ?_
              refine gd_skip rfl rfl rfl hg_17 rfl rfl ?_
              refine gd_want rfl rfl rfl hg_16 rfl rfl (o_pickF rfl hg_17 rfl) ?_
              refine gd_p rfl rfl rfl (o_pickF rfl hg_16 rfl) ?_
              refine gd_nil ?_
              refine go_nil ?_
              refine g_cond_false rfl rfl ?_
              refine g_skip ?_
              refine g_region ?_
              refine go_p rfl rfl rfl (o_move rfl) ?_
              obtain ⟨hg7, hj1⟩ := grd_some hj1
              refine go_p rfl rfl rfl (o_add rfl rfl (i64_id hg7)) ?_
              refine go_p rfl rfl rfl (o_assign rfl) ?_
              refine go_nil ?_
              exact ⟨_, (), hj1, ⟨rfl, trivial⟩, ⟨rfl, rfl, trivial⟩, [], rfl⟩
      · replace hj1 := cond_f hc2 hj1
        refine g_exit ?_
        exact ⟨_, (), some_eq hj1, trivial, ⟨rfl, rfl, trivial⟩, [], rfl⟩
    · rintro _ _ hst
      subst hst
      replace hm1 := on_go hm1
      refine k_norm (L' := [(2, _), (3, _)]) (ms' := []) rfl rfl ?_
      refine g_seq ?_
      refine g_region ?_
      refine go_p rfl rfl rfl (o_load_agg Try.isAgg93 Try.sizeOf93 rfl rfl) ?_
      obtain ⟨x5, hx8, hm1⟩ := bind_some hm1
      refine go_p rfl rfl rfl (o_call0 Try.call51 rfl (w_syntagmaref24_Next hx8)) ?_
      refine go_p rfl rfl rfl (o_assign rfl) ?_
      refine go_nil ?_
      refine g_seq ?_
      refine g_seq ?_
      refine g_region ?_
      refine go_p rfl rfl rfl (o_assign rfl) ?_
      refine go_nil ?_
      obtain ⟨o_2, hj2, hm2⟩ := bind_some hm1
      refine g_cut_m [(3, _)] [] (fun (st : Unit) (hid : Unit) => match st, hid with | _, _ => []) (fun F (st : Unit) (hid : Unit) => match st, hid with | _, _ => []) (fun st => Out.go (st) = o_2) ⟨rfl, trivial⟩ trivial ?_ ?_
      · skip
        refine g_block ?_
        refine g_loop_m [(2, _), (3, _), (6, _)] [] (fun (st : Int) (hid : Unit) => match st, hid with | i2, _ => [(7, .i64 i2)]) (fun F (st : Int) (hid : Unit) => match st, hid with | i2, _ => []) () hj2 (fun _ => rfl) ⟨rfl, rfl, rfl, trivial⟩ trivial ⟨rfl, trivial⟩ rfl ?_
        rintro n i2 _ hj2
        rw [m_syntagmaref24_right_l2] at hj2
        refine g_norm (L' := [(7, .i64 i2), (2, _), (3, _), (6, _)]) (ms' := []) rfl rfl ?_
        refine g_seq ?_
        refine g_seq ?_
        refine g_region ?_
        refine go_p rfl rfl rfl (o_move rfl) ?_
        refine go_p rfl rfl rfl (o_move rfl) ?_
        refine go_p rfl rfl rfl (o_len Try.runUnderlying47 rfl) ?_
        refine go_p rfl rfl rfl (o_cmp rfl rfl rfl) ?_
        refine go_nil ?_
        refine g_cond rfl (fun hc4 => ?_) (fun hc4 => ?_)
        · replace hj2 := cond_t hc4 hj2
          refine g_skip ?_
          refine g_seq ?_
          refine g_block ?_
          refine g_seq ?_
          refine g_seq ?_
          obtain ⟨x6, hx9, hj2⟩ := bind_some hj2
          rcases cond_split hj2 with ⟨hg_18, hj2⟩ | ⟨hg_18, hj2⟩
          ·
            skip
            refine g_draw 15 Try_mixed (by decide +kernel) ?_
            refine gd_p rfl rfl rfl (o_move rfl) ?_
            refine gd_p rfl rfl rfl (o_move rfl) ?_
            refine gd_p rfl rfl rfl (o_indexAddr_m Try.runUnderlying47 Try.sizeOf3 rfl rfl hx9) ?_
            refine gd_p rfl rfl rfl (o_load Try.isAgg3 rfl rfl) ?_
            refine gd_p rfl rfl rfl (o_cmp rfl rfl rfl) ?_
            refine gd_p rfl rfl rfl (o_move rfl) ?_
            refine gd_skip rfl rfl rfl hg_18 rfl rfl ?_
            refine gd_skip rfl rfl rfl hg_18 rfl rfl ?_
            refine gd_skip rfl rfl rfl hg_18 rfl rfl ?_
            refine gd_skip rfl rfl rfl hg_18 rfl rfl ?_
            refine gd_skip rfl rfl rfl hg_18 rfl rfl ?_
            refine gd_skip rfl rfl rfl hg_18 rfl rfl ?_
            refine gd_skip rfl rfl rfl hg_18 rfl rfl ?_
            refine gd_skip rfl rfl rfl hg_18 rfl rfl ?_
            refine gd_p rfl rfl rfl (o_pickT rfl hg_18 rfl) ?_
            refine gd_nil ?_
            refine go_nil ?_
            refine g_cond_true rfl rfl ?_
            refine g_seq ?_
            refine g_region ?_
            refine go_p rfl rfl rfl (o_assign rfl) ?_
            refine go_nil ?_
            refine g_ret ?_
            obtain rfl := some_eq hj2
            replace hm2 := on_ret hm2
            exact retK (ret_one' rfl (ret_tmp rfl) (perm_drop _)) (congrArg (fun (p : Bool) => (.bool p : D)) (some_eq hm2))
          ·
            skip
            obtain ⟨x7, hx10, hj2⟩ := bind_some hj2
            refine g_draw 15 Try_mixed (by decide +kernel) ?_
            refine gd_p rfl rfl rfl (o_move rfl) ?_
            refine gd_p rfl rfl rfl (o_move rfl) ?_
            refine gd_p rfl rfl rfl (o_indexAddr_m Try.runUnderlying47 Try.sizeOf3 rfl rfl hx9) ?_
            refine gd_p rfl rfl rfl (o_load Try.isAgg3 rfl rfl) ?_
            refine gd_p rfl rfl rfl (o_cmp rfl rfl rfl) ?_
            refine gd_p rfl rfl rfl (o_move rfl) ?_
            refine gd_want rfl rfl rfl hg_18 rfl rfl (o_move rfl) ?_
            refine gd_want rfl rfl rfl hg_18 rfl rfl (o_move rfl) ?_
            refine gd_want rfl rfl rfl hg_18 rfl rfl (o_indexAddr_m Try.runUnderlying47 Try.sizeOf3 rfl rfl hx10) ?_
            refine gd_want rfl rfl rfl hg_18 rfl rfl (o_load Try.isAgg3 rfl rfl) ?_
            refine gd_want rfl rfl rfl hg_18 rfl rfl (o_fieldAddr fi_78_0 rfl rfl rfl) ?_
            refine gd_want rfl rfl rfl hg_18 rfl rfl (o_load Try.isAgg76 rfl rfl) ?_
            refine gd_want rfl rfl rfl hg_18 rfl rfl (o_len Try.runUnderlying76 rfl) ?_
            refine gd_want rfl rfl rfl hg_18 rfl rfl (o_cmp rfl rfl rfl) ?_
            refine gd_p rfl rfl rfl (o_pickF rfl hg_18 rfl) ?_
            refine gd_nil ?_
            refine go_nil ?_
            refine g_cond rfl (fun hc5 => ?_) (fun hc5 => ?_)
            · replace hj2 := cond_t hc5 hj2
              refine g_seq ?_
              refine g_region ?_
              refine go_p rfl rfl rfl (o_assign rfl) ?_
              refine go_nil ?_
              refine g_ret ?_
              obtain rfl := some_eq hj2
              replace hm2 := on_ret hm2
              exact retK (ret_one' rfl (ret_tmp rfl) (perm_drop _)) (congrArg (fun (p : Bool) => (.bool p : D)) (some_eq hm2))
            · replace hj2 := cond_f hc5 hj2
              refine g_skip ?_
              refine g_seq ?_
              obtain ⟨x8, hx11, hj2⟩ := bind_some hj2
              obtain ⟨x9, hx12, hj2⟩ := bind_some hj2
              refine g_draw 13 Try_mixed (by decide +kernel) ?_
              refine gd_p rfl rfl rfl (o_fieldAddr fi_78_0 rfl rfl rfl) ?_
              refine gd_p rfl rfl rfl (o_load Try.isAgg76 rfl rfl) ?_
              refine gd_p rfl rfl rfl (o_move rfl) ?_
              refine gd_p rfl rfl rfl (o_move rfl) ?_
              refine gd_p rfl rfl rfl (o_indexAddr_m Try.runUnderlying47 Try.sizeOf3 rfl rfl hx11) ?_
              refine gd_p rfl rfl rfl (o_load Try.isAgg3 rfl rfl) ?_
              refine gd_p rfl rfl rfl (o_indexAddr_m Try.runUnderlying76 Try.sizeOf93 rfl rfl hx12) ?_
              refine gd_p rfl rfl rfl (o_fieldAddr fi_93_0 rfl rfl rfl) ?_
              refine gd_p rfl rfl rfl (o_load Try.isAgg4 rfl rfl) ?_
              refine gd_p rfl rfl rfl (o_fieldAddr fi_93_0 rfl rfl rfl) ?_
              refine gd_p rfl rfl rfl (o_load Try.isAgg4 rfl rfl) ?_
              refine gd_p rfl rfl rfl (o_cmpb Try.runUnderlying4 rfl rfl) ?_
              refine gd_p rfl rfl rfl (o_assign rfl) ?_
              refine gd_nil ?_
              refine go_nil ?_
              refine g_seq ?_
              refine g_region ?_
              refine go_p rfl rfl rfl (o_move rfl) ?_
              refine go_p rfl rfl rfl (o_fieldAddr fi_93_5 rfl rfl rfl) ?_
              refine go_p rfl rfl rfl (o_load Try.isAgg4 rfl rfl) ?_
              refine go_p rfl rfl rfl (o_move rfl) ?_
              apply go_and [(2, _), (3, _), (6, _), (7, _), (152, _)] 3 158 (t := 155) ⟨rfl, rfl, rfl, rfl, rfl, trivial⟩ rfl
              · intro hg_19 hk19
                refine go_wantp rfl rfl rfl hg_19 rfl rfl (o_move rfl) ?_
                refine go_wantp rfl rfl rfl hg_19 rfl rfl (o_cmp rfl rfl rfl) ?_
                refine go_p rfl rfl rfl (o_pickT rfl hg_19 rfl) ?_
                exact go_meet hk19 (rfl) ⟨rfl, rfl, rfl, rfl, rfl, trivial⟩
              · intro hg_19 hk19
                refine go_skip rfl rfl rfl hg_19 rfl rfl ?_
                refine go_skip rfl rfl rfl hg_19 rfl rfl ?_
                refine go_p rfl rfl rfl (o_pickF rfl hg_19 rfl) ?_
                exact go_meet hk19 (rfl) ⟨rfl, rfl, rfl, rfl, rfl, trivial⟩
              refine go_p rfl rfl rfl (o_cmpb Try.runUnderlying4 rfl rfl) ?_
              refine go_nil ?_
              refine g_cond rfl (fun hc6 => ?_) (fun hc6 => ?_)
              · replace hj2 := cond_t hc6 hj2
                refine g_seq ?_
                refine g_region ?_
                refine go_p rfl rfl rfl (o_assign rfl) ?_
                refine go_nil ?_
                refine g_ret ?_
                obtain rfl := some_eq hj2
                replace hm2 := on_ret hm2
                exact retK (ret_one' rfl (ret_tmp rfl) (perm_drop _)) (congrArg (fun (p : Bool) => (.bool p : D)) (some_eq hm2))
              · replace hj2 := cond_f hc6 hj2
                refine g_skip ?_
                refine g_region ?_
                refine go_p rfl rfl rfl (o_move rfl) ?_
                obtain ⟨hg13, hj2⟩ := grd_some hj2
                refine go_p rfl rfl rfl (o_add rfl rfl (i64_id hg13)) ?_
                refine go_p rfl rfl rfl (o_assign rfl) ?_
                refine go_nil ?_
                exact ⟨_, (), hj2, ⟨rfl, trivial⟩, ⟨rfl, rfl, rfl, trivial⟩, [], rfl⟩
        · replace hj2 := cond_f hc4 hj2
          refine g_exit ?_
          exact ⟨_, (), some_eq hj2, trivial, ⟨rfl, trivial⟩, [], rfl⟩
      · rintro _ _ hst
        subst hst
        replace hm2 := on_go hm2
        refine k_norm (L' := [(3, _)]) (ms' := []) rfl rfl ?_
        refine g_seq ?_
        refine g_region ?_
        refine go_p rfl rfl rfl (o_fieldAddr fi_93_11 rfl rfl rfl) ?_
        refine go_p rfl rfl rfl (o_load Try.isAgg91 rfl rfl) ?_
        obtain ⟨x10, hx14, hm2⟩ := bind_some hm2
        refine go_p rfl rfl rfl (o_call0 Try.call116 rfl (w_syntagmaref24_edges hx14)) ?_
        refine go_p rfl rfl rfl (o_move rfl) ?_
        obtain ⟨p1, hp_20, hm2⟩ := bind_some hm2
        refine go_two [] 4 167 p1 (t := 163) trivial rfl (fun hg_20 hk20 => ?_) (fun hg_20 hk20 => ?_) ?_
        · replace hp_20 := cond_t hg_20 hp_20
          refine go_wantp rfl rfl rfl hg_20 rfl rfl (o_fieldAddr fi_93_12 rfl rfl rfl) ?_
          refine go_wantp rfl rfl rfl hg_20 rfl rfl (o_load Try.isAgg91 rfl rfl) ?_
          obtain ⟨x11, hx15, hp_20⟩ := bind_some hp_20
          refine go_wantp rfl rfl rfl hg_20 rfl rfl (o_call0 Try.call116 rfl (w_syntagmaref24_edges hx15)) ?_
          refine go_p rfl rfl rfl (o_pickT rfl hg_20 rfl) ?_
          exact go_meet hk20 (congrArg (fun b => some (D.bool b)) (some_eq hp_20)) trivial
        · replace hp_20 := cond_f hg_20 hp_20
          refine go_skip rfl rfl rfl hg_20 rfl rfl ?_
          refine go_skip rfl rfl rfl hg_20 rfl rfl ?_
          refine go_skip rfl rfl rfl hg_20 rfl rfl ?_
          refine go_p rfl rfl rfl (o_pickF rfl hg_20 rfl) ?_
          exact go_meet hk20 (congrArg (fun b => some (D.bool b)) (some_eq hp_20)) trivial
        refine go_p rfl rfl rfl (o_assign rfl) ?_
        refine go_nil ?_
        refine g_ret ?_
        exact retK (ret_one' rfl (ret_tmp rfl) (perm_drop _)) (congrArg (fun (p : Bool) => (.bool p : D)) (some_eq hm2))

def m_syntagmaref24_May_l1 (a1 : AutoAuto) : Nat → Int → Option (Out Int Unit)
  | 0, _ => none
  | n + 1, i1 =>
    bif (decide (i1 < (a1.l.length : Int))) then
      (idx a1.l i1).bind fun x1 =>
      (m_syntagmaref24_right a1 x1).bind fun x2 =>
      bif (!x2) then
        some (Out.ret 4)
      else
        grd (InR (i1 + 1)) <|
        m_syntagmaref24_May_l1 a1 n (i1 + 1)
    else
      some (Out.go (()))
def m_syntagmaref24_May (a1 : AutoAuto) : Option Int :=
  bif ((decide ((a1.l.length : Int) < 1)) || (decide (2000 < (a1.l.length : Int)))) then
    some 8
  else
    ((m_syntagmaref24_May_l1 a1 FU 0 : Option (Out Int Unit))).bind (fun oo => oo.on (fun r1 => some r1) (fun _ =>
    (bif ((decide (a1.start < 0)) || (decide ((a1.l.length : Int) ≤ a1.start))) then (some true) else ((idx a1.l a1.start).bind fun x3 =>
    some (!x3.plus))).bind fun p1 =>
    bif p1 then
      some 4
    else
      some 0))
theorem w_syntagmaref24_May {a1 : AutoAuto} {r : Int} (hm : m_syntagmaref24_May a1 = some r) : Fn0 Try.prog 48 [AutoAuto.d a1] (.i64 r) := by
  unfold m_syntagmaref24_May at hm
  refine fn_intro Try.func48 rfl Try.ntmps48 rfl fun H0 fr w0 => ?_
  refine g_seq ?_
  refine g_region ?_
  refine go_p rfl rfl rfl (o_box rfl rfl) ?_
  refine go_p rfl rfl rfl (o_assign rfl) ?_
  refine go_nil ?_
  refine g_seq ?_
  refine g_seq ?_
  refine g_region ?_
  refine go_p rfl rfl rfl (o_fieldAddr fi_78_0 rfl rfl rfl) ?_
  refine go_p rfl rfl rfl (o_load Try.isAgg76 rfl rfl) ?_
  refine go_p rfl rfl rfl (o_len Try.runUnderlying76 rfl) ?_
  refine go_p rfl rfl rfl (o_cmp rfl rfl rfl) ?_
  refine go_p rfl rfl rfl (o_move rfl) ?_
  apply go_or [(1, _)] 5 13 (t := 8) ⟨rfl, trivial⟩ rfl
  · intro hg_1 hk1
    refine go_wantp rfl rfl rfl hg_1 rfl rfl (o_fieldAddr fi_78_0 rfl rfl rfl) ?_
    refine go_wantp rfl rfl rfl hg_1 rfl rfl (o_load Try.isAgg76 rfl rfl) ?_
    refine go_wantp rfl rfl rfl hg_1 rfl rfl (o_len Try.runUnderlying76 rfl) ?_
    refine go_wantp rfl rfl rfl hg_1 rfl rfl (o_cmp rfl rfl rfl) ?_
    refine go_p rfl rfl rfl (o_pickF rfl hg_1 rfl) ?_
    exact go_meet hk1 (rfl) ⟨rfl, trivial⟩
  · intro hg_1 hk1
    refine go_skip rfl rfl rfl hg_1 rfl rfl ?_
    refine go_skip rfl rfl rfl hg_1 rfl rfl ?_
    refine go_skip rfl rfl rfl hg_1 rfl rfl ?_
    refine go_skip rfl rfl rfl hg_1 rfl rfl ?_
    refine go_p rfl rfl rfl (o_pickT rfl hg_1 rfl) ?_
    exact go_meet hk1 (rfl) ⟨rfl, trivial⟩
  refine go_nil ?_
  refine g_cond rfl (fun hc1 => ?_) (fun hc1 => ?_)
  · replace hm := cond_t hc1 hm
    refine g_seq ?_
    refine g_region ?_
    refine go_p rfl rfl rfl (o_assign rfl) ?_
    refine go_nil ?_
    refine g_ret ?_
    exact retK (ret_one' rfl (ret_tmp rfl) (perm_drop _)) (congrArg (fun (p : Int) => (.i64 p : D)) (some_eq hm))
  · replace hm := cond_f hc1 hm
    refine g_skip ?_
    refine g_seq ?_
    refine g_seq ?_
    refine g_region ?_
    refine go_p rfl rfl rfl (o_assign rfl) ?_
    refine go_nil ?_
    obtain ⟨o_1, hj1, hm1⟩ := bind_some hm
    refine g_cut_m [(1, _)] [] (fun (st : Unit) (hid : Unit) => match st, hid with | _, _ => []) (fun F (st : Unit) (hid : Unit) => match st, hid with | _, _ => []) (fun st => Out.go (st) = o_1) ⟨rfl, trivial⟩ trivial ?_ ?_
    · skip
      refine g_block ?_
      refine g_loop_m [(1, _)] [] (fun (st : Int) (hid : Unit) => match st, hid with | i1, _ => [(3, .i64 i1)]) (fun F (st : Int) (hid : Unit) => match st, hid with | i1, _ => []) () hj1 (fun _ => rfl) ⟨rfl, trivial⟩ trivial ⟨rfl, trivial⟩ rfl ?_
      rintro n i1 _ hj1
      rw [m_syntagmaref24_May_l1] at hj1
      refine g_norm (L' := [(3, .i64 i1), (1, _)]) (ms' := []) rfl rfl ?_
      refine g_seq ?_
      refine g_seq ?_
      refine g_region ?_
      refine go_p rfl rfl rfl (o_move rfl) ?_
      refine go_p rfl rfl rfl (o_fieldAddr fi_78_0 rfl rfl rfl) ?_
      refine go_p rfl rfl rfl (o_load Try.isAgg76 rfl rfl) ?_
      refine go_p rfl rfl rfl (o_len Try.runUnderlying76 rfl) ?_
      refine go_p rfl rfl rfl (o_cmp rfl rfl rfl) ?_
      refine go_nil ?_
      refine g_cond rfl (fun hc2 => ?_) (fun hc2 => ?_)
      · replace hj1 := cond_t hc2 hj1
        refine g_skip ?_
        refine g_seq ?_
        refine g_block ?_
        refine g_seq ?_
        obtain ⟨x1, hx1, hj1⟩ := bind_some hj1
        obtain ⟨x2, hx2, hj1⟩ := bind_some hj1
        refine g_draw 8 Try_mixed (by decide +kernel) ?_
        refine gd_p rfl rfl rfl (o_load_agg Try.isAgg78 Try.sizeOf78 rfl rfl) ?_
        refine gd_p rfl rfl rfl (o_fieldAddr fi_78_0 rfl rfl rfl) ?_
        refine gd_p rfl rfl rfl (o_load Try.isAgg76 rfl rfl) ?_
        refine gd_p rfl rfl rfl (o_move rfl) ?_
        refine gd_p rfl rfl rfl (o_indexAddr_m Try.runUnderlying76 Try.sizeOf93 rfl rfl hx1) ?_
        refine gd_p rfl rfl rfl (o_load_agg Try.isAgg93 Try.sizeOf93 rfl rfl) ?_
        refine gd_p rfl rfl rfl (o_call0 Try.call83 rfl (w_syntagmaref24_right hx2)) ?_
        refine gd_p rfl rfl rfl (o_not rfl) ?_
        refine gd_nil ?_
        refine go_nil ?_
        refine g_cond rfl (fun hc3 => ?_) (fun hc3 => ?_)
        · replace hj1 := cond_t hc3 hj1
          refine g_seq ?_
          refine g_region ?_
          refine go_p rfl rfl rfl (o_assign rfl) ?_
          refine go_nil ?_
          refine g_ret ?_
          obtain rfl := some_eq hj1
          replace hm1 := on_ret hm1
          exact retK (ret_one' rfl (ret_tmp rfl) (perm_drop _)) (congrArg (fun (p : Int) => (.i64 p : D)) (some_eq hm1))
        · replace hj1 := cond_f hc3 hj1
          refine g_skip ?_
          refine g_region ?_
          refine go_p rfl rfl rfl (o_move rfl) ?_
          obtain ⟨hg3, hj1⟩ := grd_some hj1
          refine go_p rfl rfl rfl (o_add rfl rfl (i64_id hg3)) ?_
          refine go_p rfl rfl rfl (o_assign rfl) ?_
          refine go_nil ?_
          exact ⟨_, (), hj1, ⟨rfl, trivial⟩, ⟨rfl, trivial⟩, [], rfl⟩
      · replace hj1 := cond_f hc2 hj1
        refine g_exit ?_
        exact ⟨_, (), some_eq hj1, trivial, ⟨rfl, trivial⟩, [], rfl⟩
    · rintro _ _ hst
      subst hst
      replace hm1 := on_go hm1
      refine k_norm (L' := [(1, _)]) (ms' := []) rfl rfl ?_
      refine g_seq ?_
      refine g_seq ?_
      refine g_region ?_
      refine go_p rfl rfl rfl (o_fieldAddr fi_78_1 rfl rfl rfl) ?_
      refine go_p rfl rfl rfl (o_load Try.isAgg3 rfl rfl) ?_
      refine go_p rfl rfl rfl (o_cmp rfl rfl rfl) ?_
      refine go_p rfl rfl rfl (o_move rfl) ?_
      apply go_or [(1, _)] 7 39 (t := 32) ⟨rfl, trivial⟩ rfl
      · intro hg_2 hk2
        refine go_wantp rfl rfl rfl hg_2 rfl rfl (o_fieldAddr fi_78_1 rfl rfl rfl) ?_
        refine go_wantp rfl rfl rfl hg_2 rfl rfl (o_load Try.isAgg3 rfl rfl) ?_
        refine go_wantp rfl rfl rfl hg_2 rfl rfl (o_fieldAddr fi_78_0 rfl rfl rfl) ?_
        refine go_wantp rfl rfl rfl hg_2 rfl rfl (o_load Try.isAgg76 rfl rfl) ?_
        refine go_wantp rfl rfl rfl hg_2 rfl rfl (o_len Try.runUnderlying76 rfl) ?_
        refine go_wantp rfl rfl rfl hg_2 rfl rfl (o_cmp rfl rfl rfl) ?_
        refine go_p rfl rfl rfl (o_pickF rfl hg_2 rfl) ?_
        exact go_meet hk2 (rfl) ⟨rfl, trivial⟩
      · intro hg_2 hk2
        refine go_skip rfl rfl rfl hg_2 rfl rfl ?_
        refine go_skip rfl rfl rfl hg_2 rfl rfl ?_
        refine go_skip rfl rfl rfl hg_2 rfl rfl ?_
        refine go_skip rfl rfl rfl hg_2 rfl rfl ?_
        refine go_skip rfl rfl rfl hg_2 rfl rfl ?_
        refine go_skip rfl rfl rfl hg_2 rfl rfl ?_
        refine go_p rfl rfl rfl (o_pickT rfl hg_2 rfl) ?_
        exact go_meet hk2 (rfl) ⟨rfl, trivial⟩
      refine go_p rfl rfl rfl (o_move rfl) ?_
      obtain ⟨p1, hp_3, hm1⟩ := bind_some hm1
      refine go_two [] 9 49 p1 (t := 40) trivial rfl (fun hg_3 hk3 => ?_) (fun hg_3 hk3 => ?_) ?_
      · replace hp_3 := cond_t hg_3 hp_3
        refine go_skip rfl rfl rfl hg_3 rfl rfl ?_
        refine go_skip rfl rfl rfl hg_3 rfl rfl ?_
        refine go_skip rfl rfl rfl hg_3 rfl rfl ?_
        refine go_skip rfl rfl rfl hg_3 rfl rfl ?_
        refine go_skip rfl rfl rfl hg_3 rfl rfl ?_
        refine go_skip rfl rfl rfl hg_3 rfl rfl ?_
        refine go_skip rfl rfl rfl hg_3 rfl rfl ?_
        refine go_skip rfl rfl rfl hg_3 rfl rfl ?_
        refine go_p rfl rfl rfl (o_pickT rfl hg_3 rfl) ?_
        exact go_meet hk3 (congrArg (fun b => some (D.bool b)) (some_eq hp_3)) trivial
      · replace hp_3 := cond_f hg_3 hp_3
        refine go_wantp rfl rfl rfl hg_3 rfl rfl (o_fieldAddr fi_78_0 rfl rfl rfl) ?_
        refine go_wantp rfl rfl rfl hg_3 rfl rfl (o_load Try.isAgg76 rfl rfl) ?_
        refine go_wantp rfl rfl rfl hg_3 rfl rfl (o_fieldAddr fi_78_1 rfl rfl rfl) ?_
        refine go_wantp rfl rfl rfl hg_3 rfl rfl (o_load Try.isAgg3 rfl rfl) ?_
        obtain ⟨x3, hx4, hp_3⟩ := bind_some hp_3
        refine go_wantp rfl rfl rfl hg_3 rfl rfl (o_indexAddr_m Try.runUnderlying76 Try.sizeOf93 rfl rfl hx4) ?_
        refine go_wantp rfl rfl rfl hg_3 rfl rfl (o_fieldAddr fi_93_0 rfl rfl rfl) ?_
        refine go_wantp rfl rfl rfl hg_3 rfl rfl (o_load Try.isAgg4 rfl rfl) ?_
        refine go_wantp rfl rfl rfl hg_3 rfl rfl (o_not rfl) ?_
        refine go_p rfl rfl rfl (o_pickF rfl hg_3 rfl) ?_
        exact go_meet hk3 (congrArg (fun b => some (D.bool b)) (some_eq hp_3)) trivial
      refine go_nil ?_
      refine g_cond rfl (fun hc4 => ?_) (fun hc4 => ?_)
      · replace hm1 := cond_t hc4 hm1
        refine g_seq ?_
        refine g_region ?_
        refine go_p rfl rfl rfl (o_assign rfl) ?_
        refine go_nil ?_
        refine g_ret ?_
        exact retK (ret_one' rfl (ret_tmp rfl) (perm_drop _)) (congrArg (fun (p : Int) => (.i64 p : D)) (some_eq hm1))
      · replace hm1 := cond_f hc4 hm1
        refine g_skip ?_
        refine g_seq ?_
        refine g_region ?_
        refine go_p rfl rfl rfl (o_assign rfl) ?_
        refine go_nil ?_
        refine g_ret ?_
        exact retK (ret_one' rfl (ret_tmp rfl) (perm_drop _)) (congrArg (fun (p : Int) => (.i64 p : D)) (some_eq hm1))

def m_auto_moved_l1 (l1 : (List AutoEdge)) (to1 : (List Int)) : Nat → (Int × (List AutoEdge)) → Option (List AutoEdge)
  | 0, _ => none
  | n + 1, (x1, l3) =>
    bif (decide (x1 < (l1.length : Int))) then
      (idx l3 x1).bind fun x2 =>
      (idx to1 x2.to_).bind fun x3 =>
      (idx l3 x1).bind fun x4 =>
      grd (InR (x1 + 1)) <|
      m_auto_moved_l1 l1 to1 n ((x1 + 1), (l3.set (x1).toNat (⟨x4.name, x3⟩ : AutoEdge)))
    else
      some l3
def m_auto_moved (l1 : (List AutoEdge)) (to1 : (List Int)) : Option (List AutoEdge) :=
  grd (l1.length * 24 ≤ 140737488355328) <|
  (m_auto_moved_l1 l1 to1 FU (0, l1) : Option (List AutoEdge)).bind fun l2 =>
  some l2
theorem w_auto_moved {l1 : (List AutoEdge)} {to1 : (List Int)} {r : (List AutoEdge)} (hm : m_auto_moved l1 to1 = some r) : Fn0 Try.prog 119 [.list 2 AutoEdge.d l1, .list 1 D.i64 to1] (.list 2 AutoEdge.d r) := by
  unfold m_auto_moved at hm
  refine fn_intro Try.func119 rfl Try.ntmps119 rfl fun H0 fr w0 => ?_
  refine g_seq ?_
  refine g_region ?_
  refine go_p rfl rfl rfl (o_assign rfl) ?_
  refine go_conv (nilE (i := 4) (sz := 2) (f := AutoEdge.d) rfl).refines ?_
  refine go_nil ?_
  refine g_seq ?_
  refine g_region ?_
  refine go_p rfl rfl rfl (o_move rfl) ?_
  obtain ⟨hg1, hm⟩ := grd_some hm
  refine go_op rfl rfl rfl (o_call (ms₁ := []) Try.call148 rfl (List.Perm.refl _) (w_Clone_148 hg1)) ?_
  rintro _ _ ⟨_, ⟨a_r1, cap_r1, rfl, rfl⟩, rfl⟩
  generalize hm_r1 : l1.length = m_r1
  clear hm_r1
  refine go_p rfl rfl rfl (o_assign rfl) ?_
  refine go_nil ?_
  refine g_seq ?_
  refine g_seq ?_
  refine g_region ?_
  refine go_p rfl rfl rfl (o_move rfl) ?_
  refine go_p rfl rfl rfl (o_len_arr 0 Try.runUnderlying87 rfl rfl) ?_
  refine go_p rfl rfl rfl (o_move rfl) ?_
  refine go_nil ?_
  obtain ⟨o_1, hj1, hm1⟩ := bind_some hm
  refine g_cut_m [(5, _)] [] (fun (st : (List AutoEdge)) (hid : Unit) => match st, hid with | l2, _ => []) (fun F (st : (List AutoEdge)) (hid : Unit) => match st, hid with | l2, _ => [arr a_r1 m_r1 cap_r1 145 2 AutoEdge.d l2]) (fun st => st = o_1) ⟨rfl, trivial⟩ trivial ?_ ?_
  · skip
    refine g_block ?_
    refine g_loop_m [(1, _), (5, _), (10, _)] [] (fun (st : (Int × (List AutoEdge))) (hid : Unit) => match st, hid with | (x1, l3), _ => [(11, .i64 x1)]) (fun F (st : (Int × (List AutoEdge))) (hid : Unit) => match st, hid with | (x1, l3), _ => [arr a_r1 m_r1 cap_r1 145 2 AutoEdge.d l3]) () hj1 (fun _ => rfl) ⟨rfl, rfl, rfl, trivial⟩ trivial ⟨rfl, trivial⟩ rfl ?_
    rintro n ⟨x1, l3⟩ ⟨⟩ hj1
    rw [m_auto_moved_l1] at hj1
    refine g_norm (L' := [(11, .i64 x1), (1, _), (5, _), (10, _)]) (ms' := [arr a_r1 m_r1 cap_r1 145 2 AutoEdge.d l3]) rfl rfl ?_
    refine g_seq ?_
    refine g_region ?_
    refine go_p rfl rfl rfl (o_cmp rfl rfl rfl) ?_
    refine go_nil ?_
    refine g_seq ?_
    refine g_cond rfl (fun hc1 => ?_) (fun hc1 => ?_)
    · replace hj1 := cond_t hc1 hj1
      refine g_skip ?_
      refine g_seq ?_
      refine g_block ?_
      refine g_seq ?_
      refine g_region ?_
      refine go_p rfl rfl rfl (o_move rfl) ?_
      refine go_p rfl rfl rfl (o_assign rfl) ?_
      refine go_nil ?_
      refine g_region ?_
      refine go_p rfl rfl rfl (o_move rfl) ?_
      refine go_p rfl rfl rfl (o_move rfl) ?_
      refine go_p rfl rfl rfl (o_move rfl) ?_
      refine go_p rfl rfl rfl (o_move rfl) ?_
      refine go_p rfl rfl rfl (o_move rfl) ?_
      obtain ⟨x2, hx2, hj1⟩ := bind_some hj1
      refine go_p rfl rfl rfl (o_indexAddr_arr 0 Try.runUnderlying87 Try.sizeOf145 rfl rfl rfl hx2) ?_
      refine go_p rfl rfl rfl (o_fieldAddr_apt (b := 0) 0 fi_145_1 rfl rfl (idx_some hx2).2) ?_
      refine go_p rfl rfl rfl (o_load_arr (off := 1) 0 Try.isAgg3 rfl rfl (idx_some hx2).2 rfl rfl rfl) ?_
      obtain ⟨x3, hx3, hj1⟩ := bind_some hj1
      refine go_p rfl rfl rfl (o_indexAddr_m Try.runUnderlying47 Try.sizeOf3 rfl rfl hx3) ?_
      refine go_p rfl rfl rfl (o_load Try.isAgg3 rfl rfl) ?_
      obtain ⟨x4, hx4, hj1⟩ := bind_some hj1
      refine go_p rfl rfl rfl (o_indexAddr_arr 0 Try.runUnderlying87 Try.sizeOf145 rfl rfl rfl hx4) ?_
      refine go_p rfl rfl rfl (o_fieldAddr_apt (b := 0) 0 fi_145_1 rfl rfl (idx_some hx4).2) ?_
      refine go_u rfl rfl (o_store_arr (off := 1) (z' := (⟨x4.name, x3⟩ : AutoEdge)) 0 Try.sizeOf3 rfl rfl (idx_some hx4).2 rfl rfl rfl rfl rfl rfl (Nat.le_of_ble_eq_true rfl) rfl rfl) ?_
      rintro _ _ rfl
      refine go_ms (ms' := [_]) rfl ?_
      refine go_nil ?_
      refine g_region ?_
      obtain ⟨hg5, hj1⟩ := grd_some hj1
      refine go_p rfl rfl rfl (o_add rfl rfl (i64_id hg5)) ?_
      refine go_p rfl rfl rfl (o_move rfl) ?_
      refine go_nil ?_
      exact ⟨_, (), hj1, ⟨rfl, trivial⟩, ⟨rfl, rfl, rfl, trivial⟩, [], rfl⟩
    · replace hj1 := cond_f hc1 hj1
      refine g_exit ?_
      exact ⟨_, (), some_eq hj1, trivial, ⟨rfl, trivial⟩, [], rfl⟩
  · rintro l2 ⟨⟩ hst
    subst hst
    refine k_norm (L' := [(5, _)]) (ms' := [arr a_r1 m_r1 cap_r1 145 2 AutoEdge.d l2]) rfl rfl ?_
    refine g_seq ?_
    refine g_region ?_
    refine go_p rfl rfl rfl (o_move rfl) ?_
    refine go_p rfl rfl rfl (o_assign rfl) ?_
    refine go_nil ?_
    refine g_thaw 0 rfl rfl ?_
    rintro rfl
    refine g_conv (peekE (i := 4) 0 rfl rfl rfl).refines ?_
    refine g_ret ?_
    exact retK (ret_one' rfl (ret_tmp rfl) (perm_drop _)) (congrArg (fun (p : (List AutoEdge)) => (.list 2 AutoEdge.d p : D)) (some_eq hm1))

def m_auto_norm_r1  : List Int → ((List Int) × (List Int)) → Option ((List Int) × (List Int))
  | [], (l3, l4) =>
    some (l3, l4)
  | x1 :: rr, (l3, l4) =>
    (idx l4 x1).bind fun x2 =>
    grd ((l3.length + ([x1] : List _).length) * 8 ≤ 140737488355328) <|
    m_auto_norm_r1 rr ((l3 ++ [x1]), (l4.set (x1).toNat (l3.length : Int)))

def m_auto_norm_l2 (a1 : AutoAuto) (l1 : (List Int)) (l2 : (List Int)) : Nat → (Int × (List AutoState) × Int) → Option ((List AutoState) × Int)
  | 0, _ => none
  | n + 1, (x3, l6, z2) =>
    bif (decide (x3 < (l1.length : Int))) then
      (idx l1 x3).bind fun x4 =>
      (idx a1.l x4).bind fun x5 =>
      (bif x5.arrow then
        (idx l2 x5.dom).bind fun x6 =>
        (idx l2 x5.cod).bind fun x7 =>
        some (x5.plus, x5.all, x5.int, x5.bool, x5.str, x5.arrow, x5.rec_, x5.tag, x5.vars, x6, x7, x5.fields, x5.tags)
      else
        some (x5.plus, x5.all, x5.int, x5.bool, x5.str, x5.arrow, x5.rec_, x5.tag, x5.vars, x5.dom, x5.cod, x5.fields, x5.tags) : Option (Bool × Bool × Bool × Bool × Bool × Bool × Bool × Bool × (List Int) × Int × Int × (List AutoEdge) × (List AutoEdge))).bind fun (z3, z4, z5, z6, z7, z8, z9, z10, z11, z12, z13, z14, z15) =>
      grd (z11.length * 8 ≤ 140737488355328) <|
      (m_auto_moved z14 l2).bind fun x8 =>
      (m_auto_moved z15 l2).bind fun x9 =>
      grd ((l6.length + ([(⟨z3, z4, z5, z6, z7, z8, z9, z10, z11, z12, z13, x8, x9⟩ : AutoState)] : List _).length) * 96 ≤ 140737488355328) <|
      grd (InR (x3 + 1)) <|
      m_auto_norm_l2 a1 l1 l2 n ((x3 + 1), (l6 ++ [(⟨z3, z4, z5, z6, z7, z8, z9, z10, z11, z12, z13, x8, x9⟩ : AutoState)]), z2)
    else
      some (l6, z2)
def m_auto_norm (a1 : AutoAuto) : Option AutoAuto :=
  grd (0 ≤ (a1.l.length : Int)) <|
  grd (((a1.l.length : Int)).toNat * 8 ≤ 140737488355328) <|
  ((m_reached a1).bind fun xs1 =>
  m_auto_norm_r1 xs1 ([], (List.replicate ((a1.l.length : Int)).toNat 0)) : Option ((List Int) × (List Int))).bind fun (l1, l2) =>
  (m_auto_norm_l2 a1 l1 l2 FU (0, [], 0) : Option ((List AutoState) × Int)).bind fun (l5, z1) =>
  some (⟨l5, z1⟩ : AutoAuto)
theorem w_auto_norm {a1 : AutoAuto} {r : AutoAuto} (hm : m_auto_norm a1 = some r) : Fn0 Try.prog 87 [AutoAuto.d a1] (AutoAuto.d r) := by
  unfold m_auto_norm at hm
  refine fn_intro Try.func87 rfl Try.ntmps87 rfl fun H0 fr w0 => ?_
  refine g_seq ?_
  refine g_region ?_
  refine go_p rfl rfl rfl (o_box rfl rfl) ?_
  refine go_op rfl rfl rfl (o_alloc_own Try.zeroValue81 (cs := [.list 13 AutoState.d [], .i64 0]) rfl) ?_
  rintro _ _ ⟨b1, rfl, rfl⟩
  refine go_nil ?_
  refine g_seq ?_
  refine g_region ?_
  refine go_p rfl rfl rfl (o_fieldAddr fi_81_0 rfl rfl rfl) ?_
  refine go_p rfl rfl rfl (o_load Try.isAgg79 rfl rfl) ?_
  refine go_p rfl rfl rfl (o_len Try.runUnderlying79 rfl) ?_
  obtain ⟨hg1, hm⟩ := grd_some hm
  obtain ⟨hg2, hm⟩ := grd_some hm
  refine go_op rfl rfl rfl (o_makeSlice (f := D.i64) (z0 := 0) Try.underlying47 Try.type3 rfl rfl rfl (Nat.le_of_ble_eq_true rfl) rfl rfl hg1 hg2 (Nat.le_of_ble_eq_true rfl)) ?_
  rintro _ _ ⟨a_r1, m_r1, cap_r1, rfl, rfl⟩
  refine go_op rfl rfl rfl (o_alloc_own Try.zeroValue47 (cs := [.list 1 D.i64 []]) rfl) ?_
  rintro _ _ ⟨b2, rfl, rfl⟩
  refine go_u rfl rfl (o_store_box 0 Try.sizeOf47 rfl rfl rfl rfl rfl rfl rfl rfl (Nat.le_of_ble_eq_true rfl)) ?_
  rintro _ _ rfl
  refine go_ms (ms' := [box b2 47 [_], _, box b1 81 [_, _]]) rfl ?_
  refine go_nil ?_
  refine g_seq ?_
  refine g_region ?_
  refine go_op rfl rfl rfl (o_alloc_own Try.zeroValue47 (cs := [.v (.slice none 0 0)]) rfl) ?_
  rintro _ _ ⟨b3, rfl, rfl⟩
  refine go_conv (refines_newrow (T := 3) (sz := 1) (f := D.i64)) ?_
  refine go_nil ?_
  refine g_seq ?_
  refine g_seq ?_
  refine g_region ?_
  refine go_p rfl rfl rfl (o_load_agg Try.isAgg81 Try.sizeOf81 rfl rfl) ?_
  refine go_p rfl rfl rfl (o_call0 Try.call118 rfl w_reached) ?_
  refine go_nil ?_
  obtain ⟨o_1, hj1, hm1⟩ := bind_some hm
  refine g_cut_m [(1, _), (2, _), (3, _), (4, _)] [(4, _)] (fun (st : ((List Int) × (List Int))) (hid : (Option Addr × Nat) × Unit) => match st, hid with | (l1, l2), ((a_r2, cap_r2), _) => []) (fun F (st : ((List Int) × (List Int))) (hid : (Option Addr × Nat) × Unit) => match st, hid with | (l1, l2), ((a_r2, cap_r2), _) => [row a_r2 cap_r2 3 1 D.i64 l1, box b3 47 [.v (.slice a_r2 l1.length cap_r2)], box b2 47 [.v (.slice a_r1 m_r1 cap_r1)], arr a_r1 m_r1 cap_r1 3 1 D.i64 l2, (nthF F 0)]) (fun st => st = o_1) ⟨rfl, rfl, rfl, rfl, trivial⟩ ⟨rfl, trivial⟩ ?_ ?_
  · skip
    refine g_block ?_
    obtain ⟨xs1, hx3, hj1⟩ := bind_some hj1
    refine g_range_m (fun (p : Int) => [.i64 p]) [(4, _)] (fun F (st : ((List Int) × (List Int))) (hid : (Option Addr × Nat) × Unit) => match st, hid with | (l3, l4), ((a_r2, cap_r2), _) => [row a_r2 cap_r2 3 1 D.i64 l3, box b3 47 [.v (.slice a_r2 l3.length cap_r2)], box b2 47 [.v (.slice a_r1 m_r1 cap_r1)], arr a_r1 m_r1 cap_r1 3 1 D.i64 l4, (nthF F 0)]) ((_, _), ()) hj1 ⟨rfl, trivial⟩ rfl rfl Try.call147 (it_reached hx3) (fun _ => rfl) rfl ?_ ?_
    · rintro H0r frr ror w0r hrr x1 rr ⟨l3, l4⟩ ⟨⟨a_r2, cap_r2⟩, ⟨⟩⟩ hj1
      rw [m_auto_norm_r1] at hj1
      refine g_norm (ms' := [row a_r2 cap_r2 3 1 D.i64 l3, box b3 47 [.v (.slice a_r2 l3.length cap_r2)], box b2 47 [.v (.slice a_r1 m_r1 cap_r1)], arr a_r1 m_r1 cap_r1 3 1 D.i64 l4, _]) rfl rfl ?_
      refine g_region ?_
      refine go_p rfl rfl rfl (o_assign rfl) ?_
      refine go_nil ?_
      intro H0r frr ror w0r hrr
      refine g_block ?_
      refine g_seq ?_
      refine g_region ?_
      refine go_p rfl rfl rfl (o_load_box 2 Try.isAgg47 rfl rfl rfl rfl) ?_
      refine go_p rfl rfl rfl (o_move rfl) ?_
      refine go_p rfl rfl rfl (o_load_box 1 Try.isAgg47 rfl rfl rfl rfl) ?_
      refine go_p rfl rfl rfl (.view (peekE (i := 19) 0 rfl rfl rfl) (o_len Try.runUnderlying47 rfl)) ?_
      obtain ⟨x2, hx4, hj1⟩ := bind_some hj1
      refine go_p rfl rfl rfl (o_indexAddr_arr 3 Try.runUnderlying47 Try.sizeOf3 rfl rfl rfl hx4) ?_
      refine go_u rfl rfl (o_store_arr (off := 0) (z' := (l3.length : Int)) 3 Try.sizeOf3 rfl rfl (idx_some hx4).2 rfl rfl rfl rfl rfl rfl (Nat.le_of_ble_eq_true rfl) rfl rfl) ?_
      rintro _ _ rfl
      refine go_ms (ms' := [_, box b3 47 [_], box b2 47 [_], _, box b1 81 [_, _]]) rfl ?_
      refine go_nil ?_
      refine g_region ?_
      refine go_p rfl rfl rfl (o_load_box 1 Try.isAgg47 rfl rfl rfl rfl) ?_
      refine go_p rfl rfl rfl (o_move rfl) ?_
      refine go_p rfl rfl rfl (o_buildSlice (xs := [_]) (f := D.i64) (l := [_]) Try.runUnderlying47 Try.sizeOf3 Try.zeroValue3 rfl rfl rfl (fun _ => ⟨rfl, rfl, rfl⟩) rfl) ?_
      obtain ⟨hg5, hj1⟩ := grd_some hj1
      refine go_op rfl rfl rfl (o_append (a := _) 0 Try.underlying47 Try.type3 rfl rfl rfl rfl rfl rfl rfl (fun _ => rfl) (fun _ => rfl) hg5 (app_len hg5 rfl)) ?_
      rintro _ _ ⟨a_r2, cap_r2, rfl, rfl⟩
      refine go_ms (ms' := [_, box b3 47 [_], box b2 47 [_], _, box b1 81 [_, _]]) rfl ?_
      refine go_u rfl rfl (o_store_box 1 Try.sizeOf47 rfl rfl rfl rfl rfl rfl rfl rfl (Nat.le_of_ble_eq_true rfl)) ?_
      rintro _ _ rfl
      refine go_ms (ms' := [_, box b3 47 [_], box b2 47 [_], _, box b1 81 [_, _]]) rfl ?_
      refine go_nil ?_
      exact ⟨_, ((_, _), ()), hj1, [], rfl⟩
    · rintro ⟨l3, l4⟩ ⟨⟨a_r2, cap_r2⟩, ⟨⟩⟩ hj1
      rw [m_auto_norm_r1] at hj1
      refine k_norm (ms' := [row a_r2 cap_r2 3 1 D.i64 l3, box b3 47 [.v (.slice a_r2 l3.length cap_r2)], box b2 47 [.v (.slice a_r1 m_r1 cap_r1)], arr a_r1 m_r1 cap_r1 3 1 D.i64 l4, _]) rfl rfl ?_
      exact ⟨_, ((_, _), ()), some_eq hj1, trivial, ⟨rfl, rfl, rfl, rfl, trivial⟩, [], rfl⟩
  · rintro ⟨l1, l2⟩ ⟨⟨a_r2, cap_r2⟩, ⟨⟩⟩ hst
    subst hst
    refine k_norm (L' := [(1, _), (2, _), (3, _), (4, _)]) (ms' := [row a_r2 cap_r2 3 1 D.i64 l1, box b3 47 [.v (.slice a_r2 l1.length cap_r2)], box b2 47 [.v (.slice a_r1 m_r1 cap_r1)], arr a_r1 m_r1 cap_r1 3 1 D.i64 l2, _]) rfl rfl ?_
    refine g_seq ?_
    refine g_region ?_
    refine go_op rfl rfl rfl (o_alloc_own Try.zeroValue81 (cs := [.v (.slice none 0 0), .i64 0]) rfl) ?_
    rintro _ _ ⟨b5, rfl, rfl⟩
    refine go_conv (refines_newrow (T := 89) (sz := 13) (f := AutoState.d)) ?_
    refine go_nil ?_
    refine g_seq ?_
    refine g_seq ?_
    refine g_region ?_
    refine go_p rfl rfl rfl (o_load_box 3 Try.isAgg47 rfl rfl rfl rfl) ?_
    refine go_p rfl rfl rfl (.view (peekE (i := 26) 2 rfl rfl rfl) (o_len Try.runUnderlying47 rfl)) ?_
    refine go_p rfl rfl rfl (o_move rfl) ?_
    refine go_nil ?_
    refine g_thaw 5 rfl rfl ?_
    rintro rfl
    obtain ⟨o_2, hj2, hm2⟩ := bind_some hm1
    refine g_cut_m [(2, _), (6, _)] [(2, _), (3, _), (4, _), (5, _), (6, _)] (fun (st : ((List AutoState) × Int)) (hid : (Option Addr × Nat)) => match st, hid with | (l5, z1), (a_r3, cap_r3) => []) (fun F (st : ((List AutoState) × Int)) (hid : (Option Addr × Nat)) => match st, hid with | (l5, z1), (a_r3, cap_r3) => [row a_r3 cap_r3 89 13 AutoState.d l5, box b5 81 [.v (.slice a_r3 l5.length cap_r3), .i64 z1], (nthF F 0), (nthF F 1), (nthF F 2), (nthF F 3), (nthF F 4)]) (fun st => st = o_2) ⟨rfl, rfl, trivial⟩ ⟨rfl, rfl, rfl, rfl, rfl, trivial⟩ ?_ ?_
    · skip
      refine g_block ?_
      refine g_loop_m [(1, _), (2, _), (3, _), (6, _), (26, _), (27, _)] [(2, _), (3, _), (4, _), (5, _), (6, _)] (fun (st : (Int × (List AutoState) × Int)) (hid : (Option Addr × Nat)) => match st, hid with | (x3, l6, z2), (a_r3, cap_r3) => [(28, .i64 x3)]) (fun F (st : (Int × (List AutoState) × Int)) (hid : (Option Addr × Nat)) => match st, hid with | (x3, l6, z2), (a_r3, cap_r3) => [row a_r3 cap_r3 89 13 AutoState.d l6, box b5 81 [.v (.slice a_r3 l6.length cap_r3), .i64 z2], (nthF F 0), (nthF F 1), (nthF F 2), (nthF F 3), (nthF F 4)]) (_, _) hj2 (fun _ => rfl) ⟨rfl, rfl, rfl, rfl, rfl, rfl, trivial⟩ ⟨rfl, rfl, rfl, rfl, rfl, trivial⟩ ⟨rfl, trivial⟩ rfl ?_
      rintro n ⟨x3, l6, z2⟩ ⟨a_r3, cap_r3⟩ hj2
      rw [m_auto_norm_l2] at hj2
      refine g_norm (L' := [(28, .i64 x3), (1, _), (2, _), (3, _), (6, _), (26, _), (27, _)]) (ms' := [row a_r3 cap_r3 89 13 AutoState.d l6, box b5 81 [.v (.slice a_r3 l6.length cap_r3), .i64 z2], _, _, _, _, _]) rfl rfl ?_
      refine g_seq ?_
      refine g_region ?_
      refine go_p rfl rfl rfl (o_cmp rfl rfl rfl) ?_
      refine go_nil ?_
      refine g_seq ?_
      refine g_cond rfl (fun hc1 => ?_) (fun hc1 => ?_)
      · replace hj2 := cond_t hc1 hj2
        refine g_skip ?_
        refine g_seq ?_
        refine g_block ?_
        refine g_seq ?_
        refine g_region ?_
        obtain ⟨x4, hx6, hj2⟩ := bind_some hj2
        refine go_p rfl rfl rfl (.view (peekE (i := 26) 2 rfl rfl rfl) (o_indexAddr_m Try.runUnderlying47 Try.sizeOf3 rfl rfl hx6)) ?_
        refine go_p rfl rfl rfl (o_load Try.isAgg3 rfl rfl) ?_
        refine go_p rfl rfl rfl (o_assign rfl) ?_
        refine go_nil ?_
        refine g_seq ?_
        refine g_region ?_
        refine go_p rfl rfl rfl (o_fieldAddr fi_81_0 rfl rfl rfl) ?_
        refine go_p rfl rfl rfl (o_load Try.isAgg79 rfl rfl) ?_
        refine go_p rfl rfl rfl (o_move rfl) ?_
        obtain ⟨x5, hx7, hj2⟩ := bind_some hj2
        refine go_p rfl rfl rfl (o_indexAddr_m Try.runUnderlying79 Try.sizeOf89 rfl rfl hx7) ?_
        refine go_p rfl rfl rfl (o_load_agg Try.isAgg89 Try.sizeOf89 rfl rfl) ?_
        refine go_op rfl rfl rfl (o_alloc_own Try.zeroValue89 (cs := [.bool false, .bool false, .bool false, .bool false, .bool false, .bool false, .bool false, .bool false, .list 1 D.i64 [], .i64 0, .i64 0, .list 2 AutoEdge.d [], .list 2 AutoEdge.d []]) rfl) ?_
        rintro _ _ ⟨b6, rfl, rfl⟩
        refine go_u rfl rfl (o_store_box 0 Try.sizeOf89 rfl rfl rfl rfl rfl rfl rfl rfl (Nat.le_of_ble_eq_true rfl)) ?_
        rintro _ _ rfl
        refine go_ms (ms' := [box b6 89 [_, _, _, _, _, _, _, _, _, _, _, _, _], _, box b5 81 [_, _], _, box b3 47 [_], box b2 47 [_], _, box b1 81 [_, _]]) rfl ?_
        refine go_nil ?_
        refine g_seq ?_
        refine g_seq ?_
        refine g_region ?_
        refine go_p rfl rfl rfl (o_fieldAddr_box fi_89_5 rfl) ?_
        refine go_p rfl rfl rfl (o_load_box 0 Try.isAgg4 rfl rfl rfl rfl) ?_
        refine go_nil ?_
        obtain ⟨o_3, hj3, hm3⟩ := bind_some hj2
        refine g_cut_m [(1, _), (2, _), (3, _), (6, _), (9, _), (26, _), (27, _), (28, _)] [(1, _), (2, _), (3, _), (4, _), (5, _), (6, _), (7, _)] (fun (st : (Bool × Bool × Bool × Bool × Bool × Bool × Bool × Bool × (List Int) × Int × Int × (List AutoEdge) × (List AutoEdge))) (hid : Unit) => match st, hid with | (z3, z4, z5, z6, z7, z8, z9, z10, z11, z12, z13, z14, z15), _ => []) (fun F (st : (Bool × Bool × Bool × Bool × Bool × Bool × Bool × Bool × (List Int) × Int × Int × (List AutoEdge) × (List AutoEdge))) (hid : Unit) => match st, hid with | (z3, z4, z5, z6, z7, z8, z9, z10, z11, z12, z13, z14, z15), _ => [box b6 89 [.bool z3, .bool z4, .bool z5, .bool z6, .bool z7, .bool z8, .bool z9, .bool z10, .list 1 D.i64 z11, .i64 z12, .i64 z13, .list 2 AutoEdge.d z14, .list 2 AutoEdge.d z15], (nthF F 0), (nthF F 1), (nthF F 2), (nthF F 3), (nthF F 4), (nthF F 5), (nthF F 6)]) (fun st => st = o_3) ⟨rfl, rfl, rfl, rfl, rfl, rfl, rfl, rfl, trivial⟩ ⟨rfl, rfl, rfl, rfl, rfl, rfl, rfl, trivial⟩ ?_ ?_
        · skip
          refine g_cond rfl (fun hc2 => ?_) (fun hc2 => ?_)
          · replace hj3 := cond_t hc2 hj3
            obtain ⟨x6, hx8, hj3⟩ := bind_some hj3
            obtain ⟨x7, hx9, hj3⟩ := bind_some hj3
            refine g_draw_c [11, 13] [5, 8, 9, 12] [5, 8, 9] Try_mixed (by decide +kernel) (by decide +kernel) rfl ?_
            refine gde_p rfl rfl rfl rfl rfl rfl (o_load_box 5 Try.isAgg47 rfl rfl rfl rfl) ?_
            refine gde_p rfl rfl rfl rfl rfl rfl (o_fieldAddr_box fi_89_9 rfl) ?_
            refine gde_p rfl rfl rfl rfl rfl rfl (o_load_box 0 Try.isAgg3 rfl rfl rfl rfl) ?_
            refine gde_p rfl rfl rfl rfl rfl rfl (.view (peekE (i := 39) 6 rfl rfl rfl) (o_indexAddr_m Try.runUnderlying47 Try.sizeOf3 rfl rfl hx8)) ?_
            refine gde_p rfl rfl rfl rfl rfl rfl (o_load Try.isAgg3 rfl rfl) ?_
            refine gde_f rfl rfl rfl rfl rfl (o_load_box 5 Try.isAgg47 rfl rfl rfl rfl) ?_
            refine gde_p rfl rfl rfl rfl rfl rfl (o_fieldAddr_box fi_89_10 rfl) ?_
            refine gde_p rfl rfl rfl rfl rfl rfl (o_load_box 0 Try.isAgg3 rfl rfl rfl rfl) ?_
            refine gde_f rfl rfl rfl rfl rfl (.view (peekE (i := 44) 6 rfl rfl rfl) (o_indexAddr_m Try.runUnderlying47 Try.sizeOf3 rfl rfl hx9)) ?_
            refine gde_f rfl rfl rfl rfl rfl (o_load Try.isAgg3 rfl rfl) ?_
            refine gde_p rfl rfl rfl rfl rfl rfl (o_fieldAddr_box fi_89_9 rfl) ?_
            refine gde_e rfl ?_
            refine gde_p rfl rfl rfl rfl rfl rfl (o_fieldAddr_box fi_89_10 rfl) ?_
            refine gde_e rfl ?_
            refine gde_nil ?_
            refine gde2_u rfl rfl (o_store_box 0 Try.sizeOf3 rfl rfl rfl rfl rfl rfl rfl rfl (Nat.le_of_ble_eq_true rfl)) ?_
            rintro _ _ rfl
            refine ⟨⟨⟨⟨trivial, o_load_box 5 Try.isAgg47 rfl rfl rfl rfl⟩, .view (peekE (i := 44) 6 rfl rfl rfl) (o_indexAddr_m Try.runUnderlying47 Try.sizeOf3 rfl rfl hx9)⟩, o_load Try.isAgg3 rfl rfl⟩, ?_⟩
            refine gde2_u rfl rfl (o_store_box 0 Try.sizeOf3 rfl rfl rfl rfl rfl rfl rfl rfl (Nat.le_of_ble_eq_true rfl)) ?_
            rintro _ _ rfl
            refine ⟨⟨⟨⟨trivial, o_load_box 5 Try.isAgg47 rfl rfl rfl rfl⟩, .view (peekE (i := 44) 6 rfl rfl rfl) (o_indexAddr_m Try.runUnderlying47 Try.sizeOf3 rfl rfl hx9)⟩, o_load Try.isAgg3 rfl rfl⟩, ?_⟩
            refine gde2_nil ?_
            exact ⟨_, (), some_eq hj3, trivial, ⟨rfl, rfl, rfl, rfl, rfl, rfl, rfl, rfl, trivial⟩, [], rfl⟩
          · replace hj3 := cond_f hc2 hj3
            refine g_skip ?_
            exact ⟨_, (), some_eq hj3, trivial, ⟨rfl, rfl, rfl, rfl, rfl, rfl, rfl, rfl, trivial⟩, [], rfl⟩
        · rintro ⟨z3, z4, z5, z6, z7, z8, z9, z10, z11, z12, z13, z14, z15⟩ _ hst
          subst hst
          refine k_norm (L' := [(1, _), (2, _), (3, _), (6, _), (9, _), (26, _), (27, _), (28, _)]) (ms' := [box b6 89 [.bool z3, .bool z4, .bool z5, .bool z6, .bool z7, .bool z8, .bool z9, .bool z10, .list 1 D.i64 z11, .i64 z12, .i64 z13, .list 2 AutoEdge.d z14, .list 2 AutoEdge.d z15], _, _, _, _, _, _, _]) rfl rfl ?_
          refine g_seq ?_
          refine g_region ?_
          refine go_p rfl rfl rfl (o_fieldAddr_box fi_89_8 rfl) ?_
          refine go_p rfl rfl rfl (o_load_box 0 Try.isAgg47 rfl rfl rfl rfl) ?_
          obtain ⟨hg10, hm3⟩ := grd_some hm3
          refine go_op rfl rfl rfl (o_call (ms₁ := []) Try.call102 rfl (List.Perm.refl _) (w_Clone_102 hg10)) ?_
          rintro _ _ ⟨_, ⟨a_r4, cap_r4, rfl, rfl⟩, rfl⟩
          generalize hm_r4 : z11.length = m_r4
          clear hm_r4
          refine go_p rfl rfl rfl (o_fieldAddr_box fi_89_8 rfl) ?_
          refine go_u rfl rfl (o_store_box 1 Try.sizeOf47 rfl rfl rfl rfl rfl rfl rfl rfl (Nat.le_of_ble_eq_true rfl)) ?_
          rintro _ _ rfl
          refine go_ms (ms' := [_, box b6 89 [_, _, _, _, _, _, _, _, _, _, _, _, _], _, box b5 81 [_, _], _, box b3 47 [_], box b2 47 [_], _, box b1 81 [_, _]]) rfl ?_
          refine go_nil ?_
          refine g_seq ?_
          obtain ⟨x8, hx11, hm3⟩ := bind_some hm3
          obtain ⟨x9, hx12, hm3⟩ := bind_some hm3
          refine g_draw 9 Try_mixed (by decide +kernel) ?_
          refine gd_p rfl rfl rfl (o_fieldAddr_box fi_89_11 rfl) ?_
          refine gd_p rfl rfl rfl (o_load_box 1 Try.isAgg87 rfl rfl rfl rfl) ?_
          refine gd_p rfl rfl rfl (o_load_box 6 Try.isAgg47 rfl rfl rfl rfl) ?_
          refine gd_p rfl rfl rfl (.view (peekE (i := 57) 7 rfl rfl rfl) (o_call0 Try.call119 rfl (w_auto_moved hx11))) ?_
          refine gd_p rfl rfl rfl (o_fieldAddr_box fi_89_12 rfl) ?_
          refine gd_p rfl rfl rfl (o_load_box 1 Try.isAgg87 rfl rfl rfl rfl) ?_
          refine gd_p rfl rfl rfl (o_load_box 6 Try.isAgg47 rfl rfl rfl rfl) ?_
          refine gd_p rfl rfl rfl (.view (peekE (i := 61) 7 rfl rfl rfl) (o_call0 Try.call119 rfl (w_auto_moved hx12))) ?_
          refine gd_p rfl rfl rfl (o_fieldAddr_box fi_89_11 rfl) ?_
          refine gd_nil ?_
          refine go_u rfl rfl (o_store_box 1 Try.sizeOf87 rfl rfl rfl rfl rfl rfl rfl rfl (Nat.le_of_ble_eq_true rfl)) ?_
          rintro _ _ rfl
          refine go_ms (ms' := [_, box b6 89 [_, _, _, _, _, _, _, _, _, _, _, _, _], _, box b5 81 [_, _], _, box b3 47 [_], box b2 47 [_], _, box b1 81 [_, _]]) rfl ?_
          refine go_p rfl rfl rfl (o_fieldAddr_box fi_89_12 rfl) ?_
          refine go_u rfl rfl (o_store_box 1 Try.sizeOf87 rfl rfl rfl rfl rfl rfl rfl rfl (Nat.le_of_ble_eq_true rfl)) ?_
          rintro _ _ rfl
          refine go_ms (ms' := [_, box b6 89 [_, _, _, _, _, _, _, _, _, _, _, _, _], _, box b5 81 [_, _], _, box b3 47 [_], box b2 47 [_], _, box b1 81 [_, _]]) rfl ?_
          refine go_nil ?_
          refine g_region ?_
          refine go_p rfl rfl rfl (o_fieldAddr_box fi_81_0 rfl) ?_
          refine go_p rfl rfl rfl (o_load_box 3 Try.isAgg79 rfl rfl rfl rfl) ?_
          refine go_thaw 0 rfl rfl ?_
          rintro rfl
          refine go_p rfl rfl rfl (o_load_box_agg 1 Try.isAgg89 Try.sizeOf89 rfl rfl rfl rfl (Nat.le_of_ble_eq_true rfl)) ?_
          refine go_conv (peekAggE (i := 67) (q := 8) 0 rfl rfl rfl rfl rfl).refines ?_
          refine go_p rfl rfl rfl (o_buildSlice (xs := [_]) (f := AutoState.d) (l := [(⟨z3, z4, z5, z6, z7, z8, z9, z10, z11, z12, z13, x8, x9⟩ : AutoState)]) Try.runUnderlying79 Try.sizeOf89 Try.zeroValue89 rfl rfl rfl (fun _ => ⟨rfl, rfl, rfl⟩) rfl) ?_
          obtain ⟨hg13, hm3⟩ := grd_some hm3
          refine go_op rfl rfl rfl (o_append (a := _) 2 Try.underlying79 Try.type89 rfl rfl rfl rfl rfl rfl rfl (fun _ => rfl) (fun _ => rfl) hg13 (app_len hg13 rfl)) ?_
          rintro _ _ ⟨a_r3, cap_r3, rfl, rfl⟩
          refine go_ms (ms' := [_, box b6 89 [_, _, _, _, _, _, _, _, _, _, _, _, _], _, box b5 81 [_, _], _, box b3 47 [_], box b2 47 [_], _, box b1 81 [_, _]]) rfl ?_
          refine go_p rfl rfl rfl (o_fieldAddr_box fi_81_0 rfl) ?_
          refine go_u rfl rfl (o_store_box 3 Try.sizeOf79 rfl rfl rfl rfl rfl rfl rfl rfl (Nat.le_of_ble_eq_true rfl)) ?_
          rintro _ _ rfl
          refine go_ms (ms' := [_, box b6 89 [_, _, _, _, _, _, _, _, _, _, _, _, _], _, box b5 81 [_, _], _, box b3 47 [_], box b2 47 [_], _, box b1 81 [_, _]]) rfl ?_
          refine go_nil ?_
          refine g_region ?_
          obtain ⟨hg14, hm3⟩ := grd_some hm3
          refine go_p rfl rfl rfl (o_add rfl rfl (i64_id hg14)) ?_
          refine go_p rfl rfl rfl (o_move rfl) ?_
          refine go_nil ?_
          exact ⟨_, (_, _), hm3, ⟨rfl, trivial⟩, ⟨rfl, rfl, rfl, rfl, rfl, rfl, trivial⟩, [_, _], rfl⟩
      · replace hj2 := cond_f hc1 hj2
        refine g_exit ?_
        exact ⟨_, (_, _), some_eq hj2, trivial, ⟨rfl, rfl, trivial⟩, [], rfl⟩
    · rintro ⟨l5, z1⟩ ⟨a_r3, cap_r3⟩ hst
      subst hst
      refine k_norm (L' := [(2, _), (6, _)]) (ms' := [row a_r3 cap_r3 89 13 AutoState.d l5, box b5 81 [.v (.slice a_r3 l5.length cap_r3), .i64 z1], _, _, _, _, _]) rfl rfl ?_
      refine g_seq ?_
      refine g_region ?_
      refine go_p rfl rfl rfl (o_load_box_agg 1 Try.isAgg81 Try.sizeOf81 rfl rfl rfl rfl (Nat.le_of_ble_eq_true rfl)) ?_
      refine go_conv (peekAggE (i := 72) (q := 0) 0 rfl rfl rfl rfl rfl).refines ?_
      refine go_u rfl rfl (o_store_box 6 Try.sizeOf81 rfl rfl rfl rfl rfl rfl rfl rfl (Nat.le_of_ble_eq_true rfl)) ?_
      rintro _ _ rfl
      refine go_ms (ms' := [_, box b5 81 [_, _], _, box b3 47 [_], box b2 47 [_], _, box b1 81 [_, _]]) rfl ?_
      refine go_nil ?_
      refine g_ret ?_
      exact retK (ret_one' rfl (ret_cell 6 rfl rfl rfl Try.isAgg81 Try.sizeOf81 rfl) (perm_drop _)) (congrArg (fun (p : AutoAuto) => (AutoAuto.d p : D)) (some_eq hm2))

def m_auto_Norm (a1 : AutoAuto) : Option (AutoAuto × Int) :=
  (m_auto_May a1).bind fun x1 =>
  bif (!decide (x1 = 0)) then
    some ((⟨([] : List AutoState), 0⟩ : AutoAuto), x1)
  else
    (m_auto_norm a1).bind fun x2 =>
    some ((⟨x2.l, x2.start⟩ : AutoAuto), 0)
theorem w_auto_Norm {a1 : AutoAuto} {r1 : AutoAuto} {r2 : Int} (hm : m_auto_Norm a1 = some (r1, r2)) : Fn0 Try.prog 52 [AutoAuto.d a1] (.tup [AutoAuto.d r1, .i64 r2]) := by
  unfold m_auto_Norm at hm
  refine fn_intro Try.func52 rfl Try.ntmps52 rfl fun H0 fr w0 => ?_
  refine g_seq ?_
  refine g_region ?_
  refine go_p rfl rfl rfl (o_box rfl rfl) ?_
  refine go_op rfl rfl rfl (o_alloc_own Try.zeroValue81 (cs := [.list 13 AutoState.d [], .i64 0]) rfl) ?_
  rintro _ _ ⟨b1, rfl, rfl⟩
  refine go_p rfl rfl rfl (o_assign rfl) ?_
  refine go_nil ?_
  refine g_seq ?_
  refine g_seq ?_
  refine g_region ?_
  refine go_p rfl rfl rfl (o_load_agg Try.isAgg81 Try.sizeOf81 rfl rfl) ?_
  obtain ⟨x1, hx1, hm⟩ := bind_some hm
  refine go_p rfl rfl rfl (o_call0 Try.call47 rfl (w_auto_May hx1)) ?_
  refine go_p rfl rfl rfl (o_assign rfl) ?_
  refine go_nil ?_
  refine g_seq ?_
  refine g_region ?_
  refine go_p rfl rfl rfl (o_move rfl) ?_
  refine go_p rfl rfl rfl (o_cmp rfl rfl rfl) ?_
  refine go_nil ?_
  refine g_cond rfl (fun hc1 => ?_) (fun hc1 => ?_)
  · replace hm := cond_t hc1 hm
    refine g_seq ?_
    refine g_region ?_
    refine go_p rfl rfl rfl (o_build (zs := [.list 13 AutoState.d [], .v (.int .i64 0)]) Try.runUnderlying81 Try.zeroValue81 (pl_81 _ Try.runUnderlying81) rfl rfl rfl rfl) ?_
    refine go_p rfl rfl rfl (o_move rfl) ?_
    refine go_u rfl rfl (o_store_box 0 Try.sizeOf81 rfl rfl rfl rfl rfl rfl rfl rfl (Nat.le_of_ble_eq_true rfl)) ?_
    rintro _ _ rfl
    refine go_ms (ms' := [box b1 81 [_, _]]) rfl ?_
    refine go_p rfl rfl rfl (o_assign rfl) ?_
    refine go_nil ?_
    refine g_ret ?_
    exact retK (ret_many (ds := [_, _]) rfl (by decide) ⟨ret_cell 0 rfl rfl rfl Try.isAgg81 Try.sizeOf81 rfl, ⟨ret_tmp rfl, rfl⟩⟩ (perm_drop _)) (congrArg (fun (p : (AutoAuto × Int)) => D.tup [AutoAuto.d p.1, .i64 p.2]) (some_eq hm))
  · replace hm := cond_f hc1 hm
    refine g_skip ?_
    refine g_seq ?_
    refine g_region ?_
    refine go_p rfl rfl rfl (o_load_agg Try.isAgg81 Try.sizeOf81 rfl rfl) ?_
    obtain ⟨x2, hx2, hm⟩ := bind_some hm
    refine go_p rfl rfl rfl (o_call0 Try.call87 rfl (w_auto_norm hx2)) ?_
    refine go_u rfl rfl (o_store_box 0 Try.sizeOf81 rfl rfl rfl rfl rfl rfl rfl rfl (Nat.le_of_ble_eq_true rfl)) ?_
    rintro _ _ rfl
    refine go_ms (ms' := [box b1 81 [_, _]]) rfl ?_
    refine go_p rfl rfl rfl (o_assign rfl) ?_
    refine go_nil ?_
    refine g_ret ?_
    exact retK (ret_many (ds := [_, _]) rfl (by decide) ⟨ret_cell 0 rfl rfl rfl Try.isAgg81 Try.sizeOf81 rfl, ⟨ret_tmp rfl, rfl⟩⟩ (perm_drop _)) (congrArg (fun (p : (AutoAuto × Int)) => D.tup [AutoAuto.d p.1, .i64 p.2]) (some_eq hm))

def m_slices_EqualFunc_auto_State_auto_State_auto_State_auto_State_l1 (s1 : (List AutoState)) (s2 : (List AutoState)) (eq1 : (AutoState → AutoState → Option Bool)) : Nat → Int → Option (Out Bool Unit)
  | 0, _ => none
  | n + 1, x1 =>
    bif (decide (x1 < (s1.length : Int))) then
      (idx s1 x1).bind fun x2 =>
      (idx s2 x1).bind fun x3 =>
      (eq1 (⟨x2.plus, x2.all, x2.int, x2.bool, x2.str, x2.arrow, x2.rec_, x2.tag, x2.vars, x2.dom, x2.cod, x2.fields, x2.tags⟩ : AutoState) (⟨x3.plus, x3.all, x3.int, x3.bool, x3.str, x3.arrow, x3.rec_, x3.tag, x3.vars, x3.dom, x3.cod, x3.fields, x3.tags⟩ : AutoState)).bind fun x4 =>
      bif (!x4) then
        some (Out.ret false)
      else
        grd (InR (x1 + 1)) <|
        m_slices_EqualFunc_auto_State_auto_State_auto_State_auto_State_l1 s1 s2 eq1 n (x1 + 1)
    else
      some (Out.go (()))
def m_slices_EqualFunc_auto_State_auto_State_auto_State_auto_State (s1 : (List AutoState)) (s2 : (List AutoState)) (eq1 : (AutoState → AutoState → Option Bool)) : Option Bool :=
  bif (!decide ((s1.length : Int) = (s2.length : Int))) then
    some false
  else
    ((m_slices_EqualFunc_auto_State_auto_State_auto_State_auto_State_l1 s1 s2 eq1 FU 0 : Option (Out Bool Unit))).bind (fun oo => oo.on (fun r1 => some r1) (fun _ =>
    some true))
theorem w_slices_EqualFunc_auto_State_auto_State_auto_State_auto_State {s1 : (List AutoState)} {s2 : (List AutoState)} {eq1 : (AutoState → AutoState → Option Bool)} {r : Bool} {fv_eq1 : D} (hfeq1 : FunOk2 Try.prog fv_eq1 AutoState.d AutoState.d D.bool eq1) (hm : m_slices_EqualFunc_auto_State_auto_State_auto_State_auto_State s1 s2 eq1 = some r) : Fn0 Try.prog 88 [.list 13 AutoState.d s1, .list 13 AutoState.d s2, fv_eq1] (.bool r) := by
  unfold m_slices_EqualFunc_auto_State_auto_State_auto_State_auto_State at hm
  refine fn_intro Try.func88 rfl Try.ntmps88 rfl fun H0 fr w0 => ?_
  refine g_seq ?_
  refine g_region ?_
  refine go_p rfl rfl rfl (o_assign rfl) ?_
  refine go_nil ?_
  refine g_seq ?_
  refine g_seq ?_
  refine g_region ?_
  refine go_p rfl rfl rfl (o_move rfl) ?_
  refine go_p rfl rfl rfl (o_len Try.runUnderlying79 rfl) ?_
  refine go_p rfl rfl rfl (o_move rfl) ?_
  refine go_p rfl rfl rfl (o_len Try.runUnderlying79 rfl) ?_
  refine go_p rfl rfl rfl (o_cmp rfl rfl rfl) ?_
  refine go_nil ?_
  refine g_cond rfl (fun hc1 => ?_) (fun hc1 => ?_)
  · replace hm := cond_t hc1 hm
    refine g_seq ?_
    refine g_region ?_
    refine go_p rfl rfl rfl (o_assign rfl) ?_
    refine go_nil ?_
    refine g_ret ?_
    exact retK (ret_one' rfl (ret_tmp rfl) (perm_drop _)) (congrArg (fun (p : Bool) => (.bool p : D)) (some_eq hm))
  · replace hm := cond_f hc1 hm
    refine g_skip ?_
    refine g_seq ?_
    refine g_seq ?_
    refine g_region ?_
    refine go_p rfl rfl rfl (o_move rfl) ?_
    refine go_p rfl rfl rfl (o_len Try.runUnderlying79 rfl) ?_
    refine go_p rfl rfl rfl (o_move rfl) ?_
    refine go_nil ?_
    obtain ⟨o_1, hj1, hm1⟩ := bind_some hm
    refine g_cut_m [] [] (fun (st : Unit) (hid : Unit) => match st, hid with | _, _ => []) (fun F (st : Unit) (hid : Unit) => match st, hid with | _, _ => []) (fun st => Out.go (st) = o_1) trivial trivial ?_ ?_
    · skip
      refine g_block ?_
      refine g_loop_m [(1, _), (2, _), (15, _), (16, _)] [] (fun (st : Int) (hid : Unit) => match st, hid with | x1, _ => [(17, .i64 x1)]) (fun F (st : Int) (hid : Unit) => match st, hid with | x1, _ => []) () hj1 (fun _ => rfl) ⟨rfl, rfl, rfl, rfl, trivial⟩ trivial ⟨rfl, trivial⟩ rfl ?_
      rintro n x1 _ hj1
      rw [m_slices_EqualFunc_auto_State_auto_State_auto_State_auto_State_l1] at hj1
      refine g_norm (L' := [(17, .i64 x1), (1, _), (2, _), (15, _), (16, _)]) (ms' := []) rfl rfl ?_
      refine g_seq ?_
      refine g_region ?_
      refine go_p rfl rfl rfl (o_cmp rfl rfl rfl) ?_
      refine go_nil ?_
      refine g_seq ?_
      refine g_cond rfl (fun hc2 => ?_) (fun hc2 => ?_)
      · replace hj1 := cond_t hc2 hj1
        refine g_skip ?_
        refine g_seq ?_
        refine g_block ?_
        refine g_seq ?_
        refine g_region ?_
        refine go_p rfl rfl rfl (o_move rfl) ?_
        obtain ⟨x2, hx1, hj1⟩ := bind_some hj1
        refine go_p rfl rfl rfl (o_indexAddr_m Try.runUnderlying79 Try.sizeOf89 rfl rfl hx1) ?_
        refine go_p rfl rfl rfl (o_load_agg Try.isAgg89 Try.sizeOf89 rfl rfl) ?_
        refine go_op rfl rfl rfl (o_alloc_own Try.zeroValue89 (cs := [.bool false, .bool false, .bool false, .bool false, .bool false, .bool false, .bool false, .bool false, .list 1 D.i64 [], .i64 0, .i64 0, .list 2 AutoEdge.d [], .list 2 AutoEdge.d []]) rfl) ?_
        rintro _ _ ⟨b1, rfl, rfl⟩
        refine go_p rfl rfl rfl (o_assign rfl) ?_
        refine go_u rfl rfl (o_store_box 0 Try.sizeOf89 rfl rfl rfl rfl rfl rfl rfl rfl (Nat.le_of_ble_eq_true rfl)) ?_
        rintro _ _ rfl
        refine go_ms (ms' := [box b1 89 [_, _, _, _, _, _, _, _, _, _, _, _, _]]) rfl ?_
        refine go_nil ?_
        refine g_seq ?_
        refine g_region ?_
        refine go_p rfl rfl rfl (o_move rfl) ?_
        refine go_p rfl rfl rfl (o_move rfl) ?_
        obtain ⟨x3, hx2, hj1⟩ := bind_some hj1
        refine go_p rfl rfl rfl (o_indexAddr_m Try.runUnderlying79 Try.sizeOf89 rfl rfl hx2) ?_
        refine go_p rfl rfl rfl (o_load_agg Try.isAgg89 Try.sizeOf89 rfl rfl) ?_
        refine go_op rfl rfl rfl (o_alloc_own Try.zeroValue89 (cs := [.bool false, .bool false, .bool false, .bool false, .bool false, .bool false, .bool false, .bool false, .list 1 D.i64 [], .i64 0, .i64 0, .list 2 AutoEdge.d [], .list 2 AutoEdge.d []]) rfl) ?_
        rintro _ _ ⟨b2, rfl, rfl⟩
        refine go_u rfl rfl (o_store_box 0 Try.sizeOf89 rfl rfl rfl rfl rfl rfl rfl rfl (Nat.le_of_ble_eq_true rfl)) ?_
        rintro _ _ rfl
        refine go_ms (ms' := [box b2 89 [_, _, _, _, _, _, _, _, _, _, _, _, _], box b1 89 [_, _, _, _, _, _, _, _, _, _, _, _, _]]) rfl ?_
        refine go_nil ?_
        refine g_seq ?_
        refine g_region ?_
        refine go_p rfl rfl rfl (o_move rfl) ?_
        refine go_p rfl rfl rfl (o_load_box_agg 1 Try.isAgg89 Try.sizeOf89 rfl rfl rfl rfl (Nat.le_of_ble_eq_true rfl)) ?_
        refine go_p rfl rfl rfl (o_load_box_agg 0 Try.isAgg89 Try.sizeOf89 rfl rfl rfl rfl (Nat.le_of_ble_eq_true rfl)) ?_
        obtain ⟨x4, hx3, hj1⟩ := bind_some hj1
        refine go_p rfl rfl rfl (o_callv0 rfl rfl (hfeq1 _ _ _ hx3)) ?_
        refine go_p rfl rfl rfl (o_not rfl) ?_
        refine go_nil ?_
        refine g_cond rfl (fun hc3 => ?_) (fun hc3 => ?_)
        · replace hj1 := cond_t hc3 hj1
          refine g_seq ?_
          refine g_region ?_
          refine go_p rfl rfl rfl (o_assign rfl) ?_
          refine go_nil ?_
          refine g_ret ?_
          obtain rfl := some_eq hj1
          replace hm1 := on_ret hm1
          exact retK (ret_one' rfl (ret_tmp rfl) (perm_drop _)) (congrArg (fun (p : Bool) => (.bool p : D)) (some_eq hm1))
        · replace hj1 := cond_f hc3 hj1
          refine g_skip ?_
          refine g_region ?_
          obtain ⟨hg4, hj1⟩ := grd_some hj1
          refine go_p rfl rfl rfl (o_add rfl rfl (i64_id hg4)) ?_
          refine go_p rfl rfl rfl (o_move rfl) ?_
          refine go_nil ?_
          exact ⟨_, (), hj1, ⟨rfl, trivial⟩, ⟨rfl, rfl, rfl, rfl, trivial⟩, [_, _], rfl⟩
      · replace hj1 := cond_f hc2 hj1
        refine g_exit ?_
        exact ⟨_, (), some_eq hj1, trivial, trivial, [], rfl⟩
    · rintro _ _ hst
      subst hst
      replace hm1 := on_go hm1
      refine k_norm (L' := []) (ms' := []) rfl rfl ?_
      refine g_seq ?_
      refine g_region ?_
      refine go_p rfl rfl rfl (o_assign rfl) ?_
      refine go_nil ?_
      refine g_ret ?_
      exact retK (ret_one' rfl (ret_tmp rfl) (perm_drop _)) (congrArg (fun (p : Bool) => (.bool p : D)) (some_eq hm1))

def m_slices_Equal_int_int_l1 (s1 : (List Int)) (s2 : (List Int)) : Nat → Int → Option (Out Bool Unit)
  | 0, _ => none
  | n + 1, x1 =>
    bif (decide (x1 < (s1.length : Int))) then
      (idx s1 x1).bind fun x2 =>
      (idx s2 x1).bind fun x3 =>
      bif (!decide (x2 = x3)) then
        some (Out.ret false)
      else
        grd (InR (x1 + 1)) <|
        m_slices_Equal_int_int_l1 s1 s2 n (x1 + 1)
    else
      some (Out.go (()))
def m_slices_Equal_int_int (s1 : (List Int)) (s2 : (List Int)) : Option Bool :=
  bif (!decide ((s1.length : Int) = (s2.length : Int))) then
    some false
  else
    ((m_slices_Equal_int_int_l1 s1 s2 FU 0 : Option (Out Bool Unit))).bind (fun oo => oo.on (fun r1 => some r1) (fun _ =>
    some true))
theorem w_slices_Equal_int_int {s1 : (List Int)} {s2 : (List Int)} {r : Bool} (hm : m_slices_Equal_int_int s1 s2 = some r) : Fn0 Try.prog 120 [.list 1 D.i64 s1, .list 1 D.i64 s2] (.bool r) := by
  unfold m_slices_Equal_int_int at hm
  refine fn_intro Try.func120 rfl Try.ntmps120 rfl fun H0 fr w0 => ?_
  refine g_seq ?_
  refine g_region ?_
  refine go_p rfl rfl rfl (o_assign rfl) ?_
  refine go_nil ?_
  refine g_seq ?_
  refine g_seq ?_
  refine g_region ?_
  refine go_p rfl rfl rfl (o_move rfl) ?_
  refine go_p rfl rfl rfl (o_len Try.runUnderlying47 rfl) ?_
  refine go_p rfl rfl rfl (o_move rfl) ?_
  refine go_p rfl rfl rfl (o_len Try.runUnderlying47 rfl) ?_
  refine go_p rfl rfl rfl (o_cmp rfl rfl rfl) ?_
  refine go_nil ?_
  refine g_cond rfl (fun hc1 => ?_) (fun hc1 => ?_)
  · replace hm := cond_t hc1 hm
    refine g_seq ?_
    refine g_region ?_
    refine go_p rfl rfl rfl (o_assign rfl) ?_
    refine go_nil ?_
    refine g_ret ?_
    exact retK (ret_one' rfl (ret_tmp rfl) (perm_drop _)) (congrArg (fun (p : Bool) => (.bool p : D)) (some_eq hm))
  · replace hm := cond_f hc1 hm
    refine g_skip ?_
    refine g_seq ?_
    refine g_seq ?_
    refine g_region ?_
    refine go_p rfl rfl rfl (o_move rfl) ?_
    refine go_p rfl rfl rfl (o_len Try.runUnderlying47 rfl) ?_
    refine go_p rfl rfl rfl (o_move rfl) ?_
    refine go_nil ?_
    obtain ⟨o_1, hj1, hm1⟩ := bind_some hm
    refine g_cut_m [] [] (fun (st : Unit) (hid : Unit) => match st, hid with | _, _ => []) (fun F (st : Unit) (hid : Unit) => match st, hid with | _, _ => []) (fun st => Out.go (st) = o_1) trivial trivial ?_ ?_
    · skip
      refine g_block ?_
      refine g_loop_m [(0, _), (1, _), (12, _)] [] (fun (st : Int) (hid : Unit) => match st, hid with | x1, _ => [(13, .i64 x1)]) (fun F (st : Int) (hid : Unit) => match st, hid with | x1, _ => []) () hj1 (fun _ => rfl) ⟨rfl, rfl, rfl, trivial⟩ trivial ⟨rfl, trivial⟩ rfl ?_
      rintro n x1 _ hj1
      rw [m_slices_Equal_int_int_l1] at hj1
      refine g_norm (L' := [(13, .i64 x1), (0, _), (1, _), (12, _)]) (ms' := []) rfl rfl ?_
      refine g_seq ?_
      refine g_region ?_
      refine go_p rfl rfl rfl (o_cmp rfl rfl rfl) ?_
      refine go_nil ?_
      refine g_seq ?_
      refine g_cond rfl (fun hc2 => ?_) (fun hc2 => ?_)
      · replace hj1 := cond_t hc2 hj1
        refine g_skip ?_
        refine g_seq ?_
        refine g_block ?_
        refine g_seq ?_
        refine g_region ?_
        refine go_p rfl rfl rfl (o_move rfl) ?_
        refine go_p rfl rfl rfl (o_assign rfl) ?_
        refine go_nil ?_
        refine g_seq ?_
        obtain ⟨x2, hx1, hj1⟩ := bind_some hj1
        obtain ⟨x3, hx2, hj1⟩ := bind_some hj1
        refine g_draw 9 Try_mixed (by decide +kernel) ?_
        refine gd_p rfl rfl rfl (o_move rfl) ?_
        refine gd_p rfl rfl rfl (o_move rfl) ?_
        refine gd_p rfl rfl rfl (o_indexAddr_m Try.runUnderlying47 Try.sizeOf3 rfl rfl hx1) ?_
        refine gd_p rfl rfl rfl (o_load Try.isAgg3 rfl rfl) ?_
        refine gd_p rfl rfl rfl (o_move rfl) ?_
        refine gd_p rfl rfl rfl (o_move rfl) ?_
        refine gd_p rfl rfl rfl (o_indexAddr_m Try.runUnderlying47 Try.sizeOf3 rfl rfl hx2) ?_
        refine gd_p rfl rfl rfl (o_load Try.isAgg3 rfl rfl) ?_
        refine gd_p rfl rfl rfl (o_cmp rfl rfl rfl) ?_
        refine gd_nil ?_
        refine go_nil ?_
        refine g_cond rfl (fun hc3 => ?_) (fun hc3 => ?_)
        · replace hj1 := cond_t hc3 hj1
          refine g_seq ?_
          refine g_region ?_
          refine go_p rfl rfl rfl (o_assign rfl) ?_
          refine go_nil ?_
          refine g_ret ?_
          obtain rfl := some_eq hj1
          replace hm1 := on_ret hm1
          exact retK (ret_one' rfl (ret_tmp rfl) (perm_drop _)) (congrArg (fun (p : Bool) => (.bool p : D)) (some_eq hm1))
        · replace hj1 := cond_f hc3 hj1
          refine g_skip ?_
          refine g_region ?_
          obtain ⟨hg3, hj1⟩ := grd_some hj1
          refine go_p rfl rfl rfl (o_add rfl rfl (i64_id hg3)) ?_
          refine go_p rfl rfl rfl (o_move rfl) ?_
          refine go_nil ?_
          exact ⟨_, (), hj1, ⟨rfl, trivial⟩, ⟨rfl, rfl, rfl, trivial⟩, [], rfl⟩
      · replace hj1 := cond_f hc2 hj1
        refine g_exit ?_
        exact ⟨_, (), some_eq hj1, trivial, trivial, [], rfl⟩
    · rintro _ _ hst
      subst hst
      replace hm1 := on_go hm1
      refine k_norm (L' := []) (ms' := []) rfl rfl ?_
      refine g_seq ?_
      refine g_region ?_
      refine go_p rfl rfl rfl (o_assign rfl) ?_
      refine go_nil ?_
      refine g_ret ?_
      exact retK (ret_one' rfl (ret_tmp rfl) (perm_drop _)) (congrArg (fun (p : Bool) => (.bool p : D)) (some_eq hm1))

def AutoEdge.eqv (x y : AutoEdge) : Bool := ((x.name == y.name) && ((x.to_ == y.to_) && true))
theorem eqf_145 : ∀ fs : Array Field, Try.prog.underlying 145 = some (.struct fs) → EqFields Try.prog fs.toList 0 [.str, .int] := by
  intro fs h
  have := h.symm.trans Try.underlying145
  simp only [Option.some.injEq, TypeDesc.struct.injEq] at this
  subst this
  exact ⟨by decide, rfl, Try.isAgg9, Try.underlying9, ⟨by decide, rfl, Try.isAgg3, ⟨_, Try.underlying3⟩, trivial⟩⟩
def m_slices_Equal_auto_Edge_auto_Edge_l1 (s1 : (List AutoEdge)) (s2 : (List AutoEdge)) : Nat → Int → Option (Out Bool Unit)
  | 0, _ => none
  | n + 1, x1 =>
    bif (decide (x1 < (s1.length : Int))) then
      (idx s1 x1).bind fun x2 =>
      (idx s2 x1).bind fun x3 =>
      bif (!(AutoEdge.eqv x2 x3)) then
        some (Out.ret false)
      else
        grd (InR (x1 + 1)) <|
        m_slices_Equal_auto_Edge_auto_Edge_l1 s1 s2 n (x1 + 1)
    else
      some (Out.go (()))
def m_slices_Equal_auto_Edge_auto_Edge (s1 : (List AutoEdge)) (s2 : (List AutoEdge)) : Option Bool :=
  bif (!decide ((s1.length : Int) = (s2.length : Int))) then
    some false
  else
    ((m_slices_Equal_auto_Edge_auto_Edge_l1 s1 s2 FU 0 : Option (Out Bool Unit))).bind (fun oo => oo.on (fun r1 => some r1) (fun _ =>
    some true))
theorem w_slices_Equal_auto_Edge_auto_Edge {s1 : (List AutoEdge)} {s2 : (List AutoEdge)} {r : Bool} (hm : m_slices_Equal_auto_Edge_auto_Edge s1 s2 = some r) : Fn0 Try.prog 121 [.list 2 AutoEdge.d s1, .list 2 AutoEdge.d s2] (.bool r) := by
  unfold m_slices_Equal_auto_Edge_auto_Edge at hm
  refine fn_intro Try.func121 rfl Try.ntmps121 rfl fun H0 fr w0 => ?_
  refine g_seq ?_
  refine g_region ?_
  refine go_p rfl rfl rfl (o_assign rfl) ?_
  refine go_nil ?_
  refine g_seq ?_
  refine g_seq ?_
  refine g_region ?_
  refine go_p rfl rfl rfl (o_move rfl) ?_
  refine go_p rfl rfl rfl (o_len Try.runUnderlying87 rfl) ?_
  refine go_p rfl rfl rfl (o_move rfl) ?_
  refine go_p rfl rfl rfl (o_len Try.runUnderlying87 rfl) ?_
  refine go_p rfl rfl rfl (o_cmp rfl rfl rfl) ?_
  refine go_nil ?_
  refine g_cond rfl (fun hc1 => ?_) (fun hc1 => ?_)
  · replace hm := cond_t hc1 hm
    refine g_seq ?_
    refine g_region ?_
    refine go_p rfl rfl rfl (o_assign rfl) ?_
    refine go_nil ?_
    refine g_ret ?_
    exact retK (ret_one' rfl (ret_tmp rfl) (perm_drop _)) (congrArg (fun (p : Bool) => (.bool p : D)) (some_eq hm))
  · replace hm := cond_f hc1 hm
    refine g_skip ?_
    refine g_seq ?_
    refine g_seq ?_
    refine g_region ?_
    refine go_p rfl rfl rfl (o_move rfl) ?_
    refine go_p rfl rfl rfl (o_len Try.runUnderlying87 rfl) ?_
    refine go_p rfl rfl rfl (o_move rfl) ?_
    refine go_nil ?_
    obtain ⟨o_1, hj1, hm1⟩ := bind_some hm
    refine g_cut_m [] [] (fun (st : Unit) (hid : Unit) => match st, hid with | _, _ => []) (fun F (st : Unit) (hid : Unit) => match st, hid with | _, _ => []) (fun st => Out.go (st) = o_1) trivial trivial ?_ ?_
    · skip
      refine g_block ?_
      refine g_loop_m [(0, _), (1, _), (12, _)] [] (fun (st : Int) (hid : Unit) => match st, hid with | x1, _ => [(13, .i64 x1)]) (fun F (st : Int) (hid : Unit) => match st, hid with | x1, _ => []) () hj1 (fun _ => rfl) ⟨rfl, rfl, rfl, trivial⟩ trivial ⟨rfl, trivial⟩ rfl ?_
      rintro n x1 _ hj1
      rw [m_slices_Equal_auto_Edge_auto_Edge_l1] at hj1
      refine g_norm (L' := [(13, .i64 x1), (0, _), (1, _), (12, _)]) (ms' := []) rfl rfl ?_
      refine g_seq ?_
      refine g_region ?_
      refine go_p rfl rfl rfl (o_cmp rfl rfl rfl) ?_
      refine go_nil ?_
      refine g_seq ?_
      refine g_cond rfl (fun hc2 => ?_) (fun hc2 => ?_)
      · replace hj1 := cond_t hc2 hj1
        refine g_skip ?_
        refine g_seq ?_
        refine g_block ?_
        refine g_seq ?_
        refine g_region ?_
        refine go_p rfl rfl rfl (o_move rfl) ?_
        refine go_p rfl rfl rfl (o_assign rfl) ?_
        refine go_nil ?_
        refine g_seq ?_
        obtain ⟨x2, hx1, hj1⟩ := bind_some hj1
        obtain ⟨x3, hx2, hj1⟩ := bind_some hj1
        refine g_draw 9 Try_mixed (by decide +kernel) ?_
        refine gd_p rfl rfl rfl (o_move rfl) ?_
        refine gd_p rfl rfl rfl (o_move rfl) ?_
        refine gd_p rfl rfl rfl (o_indexAddr_m Try.runUnderlying87 Try.sizeOf145 rfl rfl hx1) ?_
        refine gd_p rfl rfl rfl (o_load_agg Try.isAgg145 Try.sizeOf145 rfl rfl) ?_
        refine gd_p rfl rfl rfl (o_move rfl) ?_
        refine gd_p rfl rfl rfl (o_move rfl) ?_
        refine gd_p rfl rfl rfl (o_indexAddr_m Try.runUnderlying87 Try.sizeOf145 rfl rfl hx2) ?_
        refine gd_p rfl rfl rfl (o_load_agg Try.isAgg145 Try.sizeOf145 rfl rfl) ?_
        refine gd_p rfl rfl rfl (o_neqagg (ks := [.str, .int]) Try.underlying145 (by kernel_rfl) (by kernel_rfl) (eqf_145 _ Try.underlying145) rfl rfl rfl) ?_
        refine gd_nil ?_
        refine go_nil ?_
        refine g_cond rfl (fun hc3 => ?_) (fun hc3 => ?_)
        · replace hj1 := cond_t hc3 hj1
          refine g_seq ?_
          refine g_region ?_
          refine go_p rfl rfl rfl (o_assign rfl) ?_
          refine go_nil ?_
          refine g_ret ?_
          obtain rfl := some_eq hj1
          replace hm1 := on_ret hm1
          exact retK (ret_one' rfl (ret_tmp rfl) (perm_drop _)) (congrArg (fun (p : Bool) => (.bool p : D)) (some_eq hm1))
        · replace hj1 := cond_f hc3 hj1
          refine g_skip ?_
          refine g_region ?_
          obtain ⟨hg3, hj1⟩ := grd_some hj1
          refine go_p rfl rfl rfl (o_add rfl rfl (i64_id hg3)) ?_
          refine go_p rfl rfl rfl (o_move rfl) ?_
          refine go_nil ?_
          exact ⟨_, (), hj1, ⟨rfl, trivial⟩, ⟨rfl, rfl, rfl, trivial⟩, [], rfl⟩
      · replace hj1 := cond_f hc2 hj1
        refine g_exit ?_
        exact ⟨_, (), some_eq hj1, trivial, trivial, [], rfl⟩
    · rintro _ _ hst
      subst hst
      replace hm1 := on_go hm1
      refine k_norm (L' := []) (ms' := []) rfl rfl ?_
      refine g_seq ?_
      refine g_region ?_
      refine go_p rfl rfl rfl (o_assign rfl) ?_
      refine go_nil ?_
      refine g_ret ?_
      exact retK (ret_one' rfl (ret_tmp rfl) (perm_drop _)) (congrArg (fun (p : Bool) => (.bool p : D)) (some_eq hm1))

def m_auto_sameState (a1 : AutoState) (b1 : AutoState) : Option Bool :=
  (m_slices_Equal_int_int a1.vars b1.vars).bind fun x1 =>
  (bif (!x1) then (some true) else ((m_slices_Equal_auto_Edge_auto_Edge a1.fields b1.fields).bind fun x2 =>
  some (!x2))).bind fun p1 =>
  (bif p1 then (some true) else ((m_slices_Equal_auto_Edge_auto_Edge a1.tags b1.tags).bind fun x3 =>
  some (!x3))).bind fun p2 =>
  bif p2 then
    some false
  else
    bif (((((!(a1.plus == b1.plus)) || (!(a1.all == b1.all))) || (!(a1.int == b1.int))) || (!(a1.bool == b1.bool))) || (!(a1.str == b1.str))) then
      some false
    else
      some (((((a1.arrow == b1.arrow) && (a1.rec_ == b1.rec_)) && (a1.tag == b1.tag)) && (decide (a1.dom = b1.dom))) && (decide (a1.cod = b1.cod)))
theorem w_auto_sameState {a1 : AutoState} {b1 : AutoState} {r : Bool} (hm : m_auto_sameState a1 b1 = some r) : Fn0 Try.prog 89 [AutoState.d a1, AutoState.d b1] (.bool r) := by
  unfold m_auto_sameState at hm
  refine fn_intro Try.func89 rfl Try.ntmps89 rfl fun H0 fr w0 => ?_
  refine g_seq ?_
  refine g_region ?_
  refine go_p rfl rfl rfl (o_box rfl rfl) ?_
  refine go_p rfl rfl rfl (o_box rfl rfl) ?_
  refine go_p rfl rfl rfl (o_assign rfl) ?_
  refine go_nil ?_
  refine g_seq ?_
  refine g_seq ?_
  refine g_region ?_
  refine go_p rfl rfl rfl (o_fieldAddr fi_89_8 rfl rfl rfl) ?_
  refine go_p rfl rfl rfl (o_load Try.isAgg47 rfl rfl) ?_
  refine go_p rfl rfl rfl (o_fieldAddr fi_89_8 rfl rfl rfl) ?_
  refine go_p rfl rfl rfl (o_load Try.isAgg47 rfl rfl) ?_
  obtain ⟨x1, hx1, hm⟩ := bind_some hm
  refine go_p rfl rfl rfl (o_call0 Try.call120 rfl (w_slices_Equal_int_int hx1)) ?_
  refine go_p rfl rfl rfl (o_not rfl) ?_
  refine go_p rfl rfl rfl (o_move rfl) ?_
  obtain ⟨p1, hp_1, hm⟩ := bind_some hm
  refine go_two [(2, _), (3, _)] 7 18 p1 (t := 11) ⟨rfl, rfl, trivial⟩ rfl (fun hg_1 hk1 => ?_) (fun hg_1 hk1 => ?_) ?_
  · replace hp_1 := cond_t hg_1 hp_1
    refine go_skip rfl rfl rfl hg_1 rfl rfl ?_
    refine go_skip rfl rfl rfl hg_1 rfl rfl ?_
    refine go_skip rfl rfl rfl hg_1 rfl rfl ?_
    refine go_skip rfl rfl rfl hg_1 rfl rfl ?_
    refine go_skip rfl rfl rfl hg_1 rfl rfl ?_
    refine go_skip rfl rfl rfl hg_1 rfl rfl ?_
    refine go_p rfl rfl rfl (o_pickT rfl hg_1 rfl) ?_
    exact go_meet hk1 (congrArg (fun b => some (D.bool b)) (some_eq hp_1)) ⟨rfl, rfl, trivial⟩
  · replace hp_1 := cond_f hg_1 hp_1
    refine go_wantp rfl rfl rfl hg_1 rfl rfl (o_fieldAddr fi_89_11 rfl rfl rfl) ?_
    refine go_wantp rfl rfl rfl hg_1 rfl rfl (o_load Try.isAgg87 rfl rfl) ?_
    refine go_wantp rfl rfl rfl hg_1 rfl rfl (o_fieldAddr fi_89_11 rfl rfl rfl) ?_
    refine go_wantp rfl rfl rfl hg_1 rfl rfl (o_load Try.isAgg87 rfl rfl) ?_
    obtain ⟨x2, hx2, hp_1⟩ := bind_some hp_1
    refine go_wantp rfl rfl rfl hg_1 rfl rfl (o_call0 Try.call121 rfl (w_slices_Equal_auto_Edge_auto_Edge hx2)) ?_
    refine go_wantp rfl rfl rfl hg_1 rfl rfl (o_not rfl) ?_
    refine go_p rfl rfl rfl (o_pickF rfl hg_1 rfl) ?_
    exact go_meet hk1 (congrArg (fun b => some (D.bool b)) (some_eq hp_1)) ⟨rfl, rfl, trivial⟩
  refine go_p rfl rfl rfl (o_move rfl) ?_
  obtain ⟨p2, hp_2, hm⟩ := bind_some hm
  refine go_two [(2, _), (3, _)] 7 26 p2 (t := 19) ⟨rfl, rfl, trivial⟩ rfl (fun hg_2 hk2 => ?_) (fun hg_2 hk2 => ?_) ?_
  · replace hp_2 := cond_t hg_2 hp_2
    refine go_skip rfl rfl rfl hg_2 rfl rfl ?_
    refine go_skip rfl rfl rfl hg_2 rfl rfl ?_
    refine go_skip rfl rfl rfl hg_2 rfl rfl ?_
    refine go_skip rfl rfl rfl hg_2 rfl rfl ?_
    refine go_skip rfl rfl rfl hg_2 rfl rfl ?_
    refine go_skip rfl rfl rfl hg_2 rfl rfl ?_
    refine go_p rfl rfl rfl (o_pickT rfl hg_2 rfl) ?_
    exact go_meet hk2 (congrArg (fun b => some (D.bool b)) (some_eq hp_2)) ⟨rfl, rfl, trivial⟩
  · replace hp_2 := cond_f hg_2 hp_2
    refine go_wantp rfl rfl rfl hg_2 rfl rfl (o_fieldAddr fi_89_12 rfl rfl rfl) ?_
    refine go_wantp rfl rfl rfl hg_2 rfl rfl (o_load Try.isAgg87 rfl rfl) ?_
    refine go_wantp rfl rfl rfl hg_2 rfl rfl (o_fieldAddr fi_89_12 rfl rfl rfl) ?_
    refine go_wantp rfl rfl rfl hg_2 rfl rfl (o_load Try.isAgg87 rfl rfl) ?_
    obtain ⟨x3, hx3, hp_2⟩ := bind_some hp_2
    refine go_wantp rfl rfl rfl hg_2 rfl rfl (o_call0 Try.call121 rfl (w_slices_Equal_auto_Edge_auto_Edge hx3)) ?_
    refine go_wantp rfl rfl rfl hg_2 rfl rfl (o_not rfl) ?_
    refine go_p rfl rfl rfl (o_pickF rfl hg_2 rfl) ?_
    exact go_meet hk2 (congrArg (fun b => some (D.bool b)) (some_eq hp_2)) ⟨rfl, rfl, trivial⟩
  refine go_nil ?_
  refine g_cond rfl (fun hc1 => ?_) (fun hc1 => ?_)
  · replace hm := cond_t hc1 hm
    refine g_seq ?_
    refine g_region ?_
    refine go_p rfl rfl rfl (o_assign rfl) ?_
    refine go_nil ?_
    refine g_ret ?_
    exact retK (ret_one' rfl (ret_tmp rfl) (perm_drop _)) (congrArg (fun (p : Bool) => (.bool p : D)) (some_eq hm))
  · replace hm := cond_f hc1 hm
    refine g_skip ?_
    refine g_seq ?_
    refine g_seq ?_
    refine g_region ?_
    refine go_p rfl rfl rfl (o_fieldAddr fi_89_0 rfl rfl rfl) ?_
    refine go_p rfl rfl rfl (o_load Try.isAgg4 rfl rfl) ?_
    refine go_p rfl rfl rfl (o_fieldAddr fi_89_0 rfl rfl rfl) ?_
    refine go_p rfl rfl rfl (o_load Try.isAgg4 rfl rfl) ?_
    refine go_p rfl rfl rfl (o_neqb Try.runUnderlying4 rfl rfl) ?_
    refine go_p rfl rfl rfl (o_move rfl) ?_
    apply go_or [(2, _), (3, _)] 6 38 (t := 32) ⟨rfl, rfl, trivial⟩ rfl
    · intro hg_3 hk3
      refine go_wantp rfl rfl rfl hg_3 rfl rfl (o_fieldAddr fi_89_1 rfl rfl rfl) ?_
      refine go_wantp rfl rfl rfl hg_3 rfl rfl (o_load Try.isAgg4 rfl rfl) ?_
      refine go_wantp rfl rfl rfl hg_3 rfl rfl (o_fieldAddr fi_89_1 rfl rfl rfl) ?_
      refine go_wantp rfl rfl rfl hg_3 rfl rfl (o_load Try.isAgg4 rfl rfl) ?_
      refine go_wantp rfl rfl rfl hg_3 rfl rfl (o_neqb Try.runUnderlying4 rfl rfl) ?_
      refine go_p rfl rfl rfl (o_pickF rfl hg_3 rfl) ?_
      exact go_meet hk3 (rfl) ⟨rfl, rfl, trivial⟩
    · intro hg_3 hk3
      refine go_skip rfl rfl rfl hg_3 rfl rfl ?_
      refine go_skip rfl rfl rfl hg_3 rfl rfl ?_
      refine go_skip rfl rfl rfl hg_3 rfl rfl ?_
      refine go_skip rfl rfl rfl hg_3 rfl rfl ?_
      refine go_skip rfl rfl rfl hg_3 rfl rfl ?_
      refine go_p rfl rfl rfl (o_pickT rfl hg_3 rfl) ?_
      exact go_meet hk3 (rfl) ⟨rfl, rfl, trivial⟩
    refine go_p rfl rfl rfl (o_move rfl) ?_
    apply go_or [(2, _), (3, _)] 6 45 (t := 39) ⟨rfl, rfl, trivial⟩ rfl
    · intro hg_4 hk4
      refine go_wantp rfl rfl rfl hg_4 rfl rfl (o_fieldAddr fi_89_2 rfl rfl rfl) ?_
      refine go_wantp rfl rfl rfl hg_4 rfl rfl (o_load Try.isAgg4 rfl rfl) ?_
      refine go_wantp rfl rfl rfl hg_4 rfl rfl (o_fieldAddr fi_89_2 rfl rfl rfl) ?_
      refine go_wantp rfl rfl rfl hg_4 rfl rfl (o_load Try.isAgg4 rfl rfl) ?_
      refine go_wantp rfl rfl rfl hg_4 rfl rfl (o_neqb Try.runUnderlying4 rfl rfl) ?_
      refine go_p rfl rfl rfl (o_pickF rfl hg_4 rfl) ?_
      exact go_meet hk4 (rfl) ⟨rfl, rfl, trivial⟩
    · intro hg_4 hk4
      refine go_skip rfl rfl rfl hg_4 rfl rfl ?_
      refine go_skip rfl rfl rfl hg_4 rfl rfl ?_
      refine go_skip rfl rfl rfl hg_4 rfl rfl ?_
      refine go_skip rfl rfl rfl hg_4 rfl rfl ?_
      refine go_skip rfl rfl rfl hg_4 rfl rfl ?_
      refine go_p rfl rfl rfl (o_pickT rfl hg_4 rfl) ?_
      exact go_meet hk4 (rfl) ⟨rfl, rfl, trivial⟩
    refine go_p rfl rfl rfl (o_move rfl) ?_
    apply go_or [(2, _), (3, _)] 6 52 (t := 46) ⟨rfl, rfl, trivial⟩ rfl
    · intro hg_5 hk5
      refine go_wantp rfl rfl rfl hg_5 rfl rfl (o_fieldAddr fi_89_3 rfl rfl rfl) ?_
      refine go_wantp rfl rfl rfl hg_5 rfl rfl (o_load Try.isAgg4 rfl rfl) ?_
      refine go_wantp rfl rfl rfl hg_5 rfl rfl (o_fieldAddr fi_89_3 rfl rfl rfl) ?_
      refine go_wantp rfl rfl rfl hg_5 rfl rfl (o_load Try.isAgg4 rfl rfl) ?_
      refine go_wantp rfl rfl rfl hg_5 rfl rfl (o_neqb Try.runUnderlying4 rfl rfl) ?_
      refine go_p rfl rfl rfl (o_pickF rfl hg_5 rfl) ?_
      exact go_meet hk5 (rfl) ⟨rfl, rfl, trivial⟩
    · intro hg_5 hk5
      refine go_skip rfl rfl rfl hg_5 rfl rfl ?_
      refine go_skip rfl rfl rfl hg_5 rfl rfl ?_
      refine go_skip rfl rfl rfl hg_5 rfl rfl ?_
      refine go_skip rfl rfl rfl hg_5 rfl rfl ?_
      refine go_skip rfl rfl rfl hg_5 rfl rfl ?_
      refine go_p rfl rfl rfl (o_pickT rfl hg_5 rfl) ?_
      exact go_meet hk5 (rfl) ⟨rfl, rfl, trivial⟩
    refine go_p rfl rfl rfl (o_move rfl) ?_
    apply go_or [(2, _), (3, _)] 6 59 (t := 53) ⟨rfl, rfl, trivial⟩ rfl
    · intro hg_6 hk6
      refine go_wantp rfl rfl rfl hg_6 rfl rfl (o_fieldAddr fi_89_4 rfl rfl rfl) ?_
      refine go_wantp rfl rfl rfl hg_6 rfl rfl (o_load Try.isAgg4 rfl rfl) ?_
      refine go_wantp rfl rfl rfl hg_6 rfl rfl (o_fieldAddr fi_89_4 rfl rfl rfl) ?_
      refine go_wantp rfl rfl rfl hg_6 rfl rfl (o_load Try.isAgg4 rfl rfl) ?_
      refine go_wantp rfl rfl rfl hg_6 rfl rfl (o_neqb Try.runUnderlying4 rfl rfl) ?_
      refine go_p rfl rfl rfl (o_pickF rfl hg_6 rfl) ?_
      exact go_meet hk6 (rfl) ⟨rfl, rfl, trivial⟩
    · intro hg_6 hk6
      refine go_skip rfl rfl rfl hg_6 rfl rfl ?_
      refine go_skip rfl rfl rfl hg_6 rfl rfl ?_
      refine go_skip rfl rfl rfl hg_6 rfl rfl ?_
      refine go_skip rfl rfl rfl hg_6 rfl rfl ?_
      refine go_skip rfl rfl rfl hg_6 rfl rfl ?_
      refine go_p rfl rfl rfl (o_pickT rfl hg_6 rfl) ?_
      exact go_meet hk6 (rfl) ⟨rfl, rfl, trivial⟩
    refine go_nil ?_
    refine g_cond rfl (fun hc2 => ?_) (fun hc2 => ?_)
    · replace hm := cond_t hc2 hm
      refine g_seq ?_
      refine g_region ?_
      refine go_p rfl rfl rfl (o_assign rfl) ?_
      refine go_nil ?_
      refine g_ret ?_
      exact retK (ret_one' rfl (ret_tmp rfl) (perm_drop _)) (congrArg (fun (p : Bool) => (.bool p : D)) (some_eq hm))
    · replace hm := cond_f hc2 hm
      refine g_skip ?_
      refine g_seq ?_
      refine g_region ?_
      refine go_p rfl rfl rfl (o_fieldAddr fi_89_5 rfl rfl rfl) ?_
      refine go_p rfl rfl rfl (o_load Try.isAgg4 rfl rfl) ?_
      refine go_p rfl rfl rfl (o_fieldAddr fi_89_5 rfl rfl rfl) ?_
      refine go_p rfl rfl rfl (o_load Try.isAgg4 rfl rfl) ?_
      refine go_p rfl rfl rfl (o_cmpb Try.runUnderlying4 rfl rfl) ?_
      refine go_p rfl rfl rfl (o_move rfl) ?_
      apply go_and [(2, _), (3, _)] 6 71 (t := 65) ⟨rfl, rfl, trivial⟩ rfl
      · intro hg_7 hk7
        refine go_wantp rfl rfl rfl hg_7 rfl rfl (o_fieldAddr fi_89_6 rfl rfl rfl) ?_
        refine go_wantp rfl rfl rfl hg_7 rfl rfl (o_load Try.isAgg4 rfl rfl) ?_
        refine go_wantp rfl rfl rfl hg_7 rfl rfl (o_fieldAddr fi_89_6 rfl rfl rfl) ?_
        refine go_wantp rfl rfl rfl hg_7 rfl rfl (o_load Try.isAgg4 rfl rfl) ?_
        refine go_wantp rfl rfl rfl hg_7 rfl rfl (o_cmpb Try.runUnderlying4 rfl rfl) ?_
        refine go_p rfl rfl rfl (o_pickT rfl hg_7 rfl) ?_
        exact go_meet hk7 (rfl) ⟨rfl, rfl, trivial⟩
      · intro hg_7 hk7
        refine go_skip rfl rfl rfl hg_7 rfl rfl ?_
        refine go_skip rfl rfl rfl hg_7 rfl rfl ?_
        refine go_skip rfl rfl rfl hg_7 rfl rfl ?_
        refine go_skip rfl rfl rfl hg_7 rfl rfl ?_
        refine go_skip rfl rfl rfl hg_7 rfl rfl ?_
        refine go_p rfl rfl rfl (o_pickF rfl hg_7 rfl) ?_
        exact go_meet hk7 (rfl) ⟨rfl, rfl, trivial⟩
      refine go_p rfl rfl rfl (o_move rfl) ?_
      apply go_and [(2, _), (3, _)] 6 78 (t := 72) ⟨rfl, rfl, trivial⟩ rfl
      · intro hg_8 hk8
        refine go_wantp rfl rfl rfl hg_8 rfl rfl (o_fieldAddr fi_89_7 rfl rfl rfl) ?_
        refine go_wantp rfl rfl rfl hg_8 rfl rfl (o_load Try.isAgg4 rfl rfl) ?_
        refine go_wantp rfl rfl rfl hg_8 rfl rfl (o_fieldAddr fi_89_7 rfl rfl rfl) ?_
        refine go_wantp rfl rfl rfl hg_8 rfl rfl (o_load Try.isAgg4 rfl rfl) ?_
        refine go_wantp rfl rfl rfl hg_8 rfl rfl (o_cmpb Try.runUnderlying4 rfl rfl) ?_
        refine go_p rfl rfl rfl (o_pickT rfl hg_8 rfl) ?_
        exact go_meet hk8 (rfl) ⟨rfl, rfl, trivial⟩
      · intro hg_8 hk8
        refine go_skip rfl rfl rfl hg_8 rfl rfl ?_
        refine go_skip rfl rfl rfl hg_8 rfl rfl ?_
        refine go_skip rfl rfl rfl hg_8 rfl rfl ?_
        refine go_skip rfl rfl rfl hg_8 rfl rfl ?_
        refine go_skip rfl rfl rfl hg_8 rfl rfl ?_
        refine go_p rfl rfl rfl (o_pickF rfl hg_8 rfl) ?_
        exact go_meet hk8 (rfl) ⟨rfl, rfl, trivial⟩
      refine go_p rfl rfl rfl (o_move rfl) ?_
      apply go_and [(2, _), (3, _)] 6 85 (t := 79) ⟨rfl, rfl, trivial⟩ rfl
      · intro hg_9 hk9
        refine go_wantp rfl rfl rfl hg_9 rfl rfl (o_fieldAddr fi_89_9 rfl rfl rfl) ?_
        refine go_wantp rfl rfl rfl hg_9 rfl rfl (o_load Try.isAgg3 rfl rfl) ?_
        refine go_wantp rfl rfl rfl hg_9 rfl rfl (o_fieldAddr fi_89_9 rfl rfl rfl) ?_
        refine go_wantp rfl rfl rfl hg_9 rfl rfl (o_load Try.isAgg3 rfl rfl) ?_
        refine go_wantp rfl rfl rfl hg_9 rfl rfl (o_cmp rfl rfl rfl) ?_
        refine go_p rfl rfl rfl (o_pickT rfl hg_9 rfl) ?_
        exact go_meet hk9 (rfl) ⟨rfl, rfl, trivial⟩
      · intro hg_9 hk9
        refine go_skip rfl rfl rfl hg_9 rfl rfl ?_
        refine go_skip rfl rfl rfl hg_9 rfl rfl ?_
        refine go_skip rfl rfl rfl hg_9 rfl rfl ?_
        refine go_skip rfl rfl rfl hg_9 rfl rfl ?_
        refine go_skip rfl rfl rfl hg_9 rfl rfl ?_
        refine go_p rfl rfl rfl (o_pickF rfl hg_9 rfl) ?_
        exact go_meet hk9 (rfl) ⟨rfl, rfl, trivial⟩
      refine go_p rfl rfl rfl (o_move rfl) ?_
      apply go_and [] 6 92 (t := 86) trivial rfl
      · intro hg_10 hk10
        refine go_wantp rfl rfl rfl hg_10 rfl rfl (o_fieldAddr fi_89_10 rfl rfl rfl) ?_
        refine go_wantp rfl rfl rfl hg_10 rfl rfl (o_load Try.isAgg3 rfl rfl) ?_
        refine go_wantp rfl rfl rfl hg_10 rfl rfl (o_fieldAddr fi_89_10 rfl rfl rfl) ?_
        refine go_wantp rfl rfl rfl hg_10 rfl rfl (o_load Try.isAgg3 rfl rfl) ?_
        refine go_wantp rfl rfl rfl hg_10 rfl rfl (o_cmp rfl rfl rfl) ?_
        refine go_p rfl rfl rfl (o_pickT rfl hg_10 rfl) ?_
        exact go_meet hk10 (rfl) trivial
      · intro hg_10 hk10
        refine go_skip rfl rfl rfl hg_10 rfl rfl ?_
        refine go_skip rfl rfl rfl hg_10 rfl rfl ?_
        refine go_skip rfl rfl rfl hg_10 rfl rfl ?_
        refine go_skip rfl rfl rfl hg_10 rfl rfl ?_
        refine go_skip rfl rfl rfl hg_10 rfl rfl ?_
        refine go_p rfl rfl rfl (o_pickF rfl hg_10 rfl) ?_
        exact go_meet hk10 (rfl) trivial
      refine go_p rfl rfl rfl (o_assign rfl) ?_
      refine go_nil ?_
      refine g_ret ?_
      exact retK (ret_one' rfl (ret_tmp rfl) (perm_drop _)) (congrArg (fun (p : Bool) => (.bool p : D)) (some_eq hm))

def m_auto_Same (a1 : AutoAuto) (b1 : AutoAuto) : Option Bool :=
  (m_auto_Norm a1).bind fun (x1, x2) =>
  (m_auto_Norm b1).bind fun (x3, x4) =>
  (bif ((decide (x2 = 0)) && (decide (x4 = 0))) then ((m_slices_EqualFunc_auto_State_auto_State_auto_State_auto_State x1.l x3.l (fun y0 y1 => m_auto_sameState y0 y1)).bind fun x5 =>
  some x5) else (some false)).bind fun p1 =>
  some p1
theorem w_auto_Same {a1 : AutoAuto} {b1 : AutoAuto} {r : Bool} (hm : m_auto_Same a1 b1 = some r) : Fn0 Try.prog 53 [AutoAuto.d a1, AutoAuto.d b1] (.bool r) := by
  unfold m_auto_Same at hm
  refine fn_intro Try.func53 rfl Try.ntmps53 rfl fun H0 fr w0 => ?_
  refine g_seq ?_
  refine g_region ?_
  refine go_p rfl rfl rfl (o_box rfl rfl) ?_
  refine go_p rfl rfl rfl (o_box rfl rfl) ?_
  refine go_p rfl rfl rfl (o_assign rfl) ?_
  refine go_nil ?_
  refine g_seq ?_
  refine g_region ?_
  refine go_p rfl rfl rfl (o_load_agg Try.isAgg81 Try.sizeOf81 rfl rfl) ?_
  obtain ⟨⟨x1, x2⟩, hx1, hm⟩ := bind_some hm
  refine go_p rfl rfl rfl (o_call0 Try.call52 rfl (w_auto_Norm hx1)) ?_
  refine go_p rfl rfl rfl (o_move rfl) ?_
  refine go_p rfl rfl rfl (o_extract rfl rfl) ?_
  refine go_p rfl rfl rfl (o_extract rfl rfl) ?_
  refine go_op rfl rfl rfl (o_alloc_own Try.zeroValue81 (cs := [.list 13 AutoState.d [], .i64 0]) rfl) ?_
  rintro _ _ ⟨b1, rfl, rfl⟩
  refine go_u rfl rfl (o_store_box 0 Try.sizeOf81 rfl rfl rfl rfl rfl rfl rfl rfl (Nat.le_of_ble_eq_true rfl)) ?_
  rintro _ _ rfl
  refine go_ms (ms' := [box b1 81 [_, _]]) rfl ?_
  refine go_p rfl rfl rfl (o_assign rfl) ?_
  refine go_nil ?_
  refine g_seq ?_
  refine g_region ?_
  refine go_p rfl rfl rfl (o_load_agg Try.isAgg81 Try.sizeOf81 rfl rfl) ?_
  obtain ⟨⟨x3, x4⟩, hx2, hm⟩ := bind_some hm
  refine go_p rfl rfl rfl (o_call0 Try.call52 rfl (w_auto_Norm hx2)) ?_
  refine go_p rfl rfl rfl (o_move rfl) ?_
  refine go_p rfl rfl rfl (o_extract rfl rfl) ?_
  refine go_p rfl rfl rfl (o_extract rfl rfl) ?_
  refine go_op rfl rfl rfl (o_alloc_own Try.zeroValue81 (cs := [.list 13 AutoState.d [], .i64 0]) rfl) ?_
  rintro _ _ ⟨b2, rfl, rfl⟩
  refine go_u rfl rfl (o_store_box 0 Try.sizeOf81 rfl rfl rfl rfl rfl rfl rfl rfl (Nat.le_of_ble_eq_true rfl)) ?_
  rintro _ _ rfl
  refine go_ms (ms' := [box b2 81 [_, _], box b1 81 [_, _]]) rfl ?_
  refine go_p rfl rfl rfl (o_assign rfl) ?_
  refine go_nil ?_
  refine g_seq ?_
  refine g_region ?_
  refine go_p rfl rfl rfl (o_move rfl) ?_
  refine go_p rfl rfl rfl (o_cmp rfl rfl rfl) ?_
  refine go_p rfl rfl rfl (o_move rfl) ?_
  apply go_and [(5, _), (7, _)] 3 24 (t := 21) ⟨rfl, rfl, trivial⟩ rfl
  · intro hg_1 hk1
    refine go_wantp rfl rfl rfl hg_1 rfl rfl (o_move rfl) ?_
    refine go_wantp rfl rfl rfl hg_1 rfl rfl (o_cmp rfl rfl rfl) ?_
    refine go_p rfl rfl rfl (o_pickT rfl hg_1 rfl) ?_
    exact go_meet hk1 (rfl) ⟨rfl, rfl, trivial⟩
  · intro hg_1 hk1
    refine go_skip rfl rfl rfl hg_1 rfl rfl ?_
    refine go_skip rfl rfl rfl hg_1 rfl rfl ?_
    refine go_p rfl rfl rfl (o_pickF rfl hg_1 rfl) ?_
    exact go_meet hk1 (rfl) ⟨rfl, rfl, trivial⟩
  refine go_p rfl rfl rfl (o_move rfl) ?_
  obtain ⟨p1, hp_2, hm⟩ := bind_some hm
  refine go_two [] 6 31 p1 (t := 25) trivial rfl (fun hg_2 hk2 => ?_) (fun hg_2 hk2 => ?_) ?_
  · replace hp_2 := cond_t hg_2 hp_2
    refine go_wantp rfl rfl rfl hg_2 rfl rfl (o_fieldAddr_box fi_81_0 rfl) ?_
    refine go_wantp rfl rfl rfl hg_2 rfl rfl (o_load_box 1 Try.isAgg79 rfl rfl rfl rfl) ?_
    refine go_wantp rfl rfl rfl hg_2 rfl rfl (o_fieldAddr_box fi_81_0 rfl) ?_
    refine go_wantp rfl rfl rfl hg_2 rfl rfl (o_load_box 0 Try.isAgg79 rfl rfl rfl rfl) ?_
    obtain ⟨x5, hx3, hp_2⟩ := bind_some hp_2
    refine go_wantp rfl rfl rfl hg_2 rfl rfl (o_call0 Try.call88 rfl (w_slices_EqualFunc_auto_State_auto_State_auto_State_auto_State (fun _ _ _ h => fv_func Try.call89 (w_auto_sameState h)) hx3)) ?_
    refine go_p rfl rfl rfl (o_pickT rfl hg_2 rfl) ?_
    exact go_meet hk2 (congrArg (fun b => some (D.bool b)) (some_eq hp_2)) trivial
  · replace hp_2 := cond_f hg_2 hp_2
    refine go_skip rfl rfl rfl hg_2 rfl rfl ?_
    refine go_skip rfl rfl rfl hg_2 rfl rfl ?_
    refine go_skip rfl rfl rfl hg_2 rfl rfl ?_
    refine go_skip rfl rfl rfl hg_2 rfl rfl ?_
    refine go_skip rfl rfl rfl hg_2 rfl rfl ?_
    refine go_p rfl rfl rfl (o_pickF rfl hg_2 rfl) ?_
    exact go_meet hk2 (congrArg (fun b => some (D.bool b)) (some_eq hp_2)) trivial
  refine go_p rfl rfl rfl (o_assign rfl) ?_
  refine go_nil ?_
  refine g_ret ?_
  exact retK (ret_one' rfl (ret_tmp rfl) (perm_drop _)) (congrArg (fun (p : Bool) => (.bool p : D)) (some_eq hm))

def m_syntagmalaw24_number  : Option AutoAuto :=
  some (⟨[(⟨true, false, false, false, false, true, false, false, ([] : List Int), 1, 2, ([] : List AutoEdge), ([] : List AutoEdge)⟩ : AutoState), (⟨false, false, true, false, false, false, false, false, ([] : List Int), 0, 0, ([] : List AutoEdge), ([] : List AutoEdge)⟩ : AutoState), (⟨true, false, true, false, false, false, false, false, ([] : List Int), 0, 0, ([] : List AutoEdge), ([] : List AutoEdge)⟩ : AutoState)], 0⟩ : AutoAuto)
theorem w_syntagmalaw24_number  {r : AutoAuto} (hm : m_syntagmalaw24_number = some r) : Fn0 Try.prog 84 [] (AutoAuto.d r) := by
  unfold m_syntagmalaw24_number at hm
  refine fn_intro Try.func84 rfl Try.ntmps84 rfl fun H0 fr w0 => ?_
  refine g_seq ?_
  refine g_region ?_
  refine go_op rfl rfl rfl (o_alloc_own Try.zeroValue81 (cs := [.list 13 AutoState.d [], .i64 0]) rfl) ?_
  rintro _ _ ⟨b1, rfl, rfl⟩
  refine go_nil ?_
  refine g_seq ?_
  refine g_region ?_
  refine go_p rfl rfl rfl (o_build (zs := [.bool false, .bool false, .bool false, .bool false, .bool false, .bool false, .bool false, .bool false, .list 1 D.i64 [], .v (.int .i64 0), .v (.int .i64 0), .list 2 AutoEdge.d [], .list 2 AutoEdge.d []]) Try.runUnderlying89 Try.zeroValue89 (pl_89 _ Try.runUnderlying89) rfl rfl rfl rfl) ?_
  refine go_p rfl rfl rfl (o_build (zs := [.bool false, .bool false, .bool false, .bool false, .bool false, .bool false, .bool false, .bool false, .list 1 D.i64 [], .v (.int .i64 0), .v (.int .i64 0), .list 2 AutoEdge.d [], .list 2 AutoEdge.d []]) Try.runUnderlying89 Try.zeroValue89 (pl_89 _ Try.runUnderlying89) rfl rfl rfl rfl) ?_
  refine go_p rfl rfl rfl (o_build (zs := [.bool false, .bool false, .bool false, .bool false, .bool false, .bool false, .bool false, .bool false, .list 1 D.i64 [], .v (.int .i64 0), .v (.int .i64 0), .list 2 AutoEdge.d [], .list 2 AutoEdge.d []]) Try.runUnderlying89 Try.zeroValue89 (pl_89 _ Try.runUnderlying89) rfl rfl rfl rfl) ?_
  refine go_p rfl rfl rfl (o_buildSlice (xs := [_, _, _]) (f := AutoState.d) (l := [(⟨true, false, false, false, false, true, false, false, ([] : List Int), 1, 2, ([] : List AutoEdge), ([] : List AutoEdge)⟩ : AutoState), (⟨false, false, true, false, false, false, false, false, ([] : List Int), 0, 0, ([] : List AutoEdge), ([] : List AutoEdge)⟩ : AutoState), (⟨true, false, true, false, false, false, false, false, ([] : List Int), 0, 0, ([] : List AutoEdge), ([] : List AutoEdge)⟩ : AutoState)]) Try.runUnderlying79 Try.sizeOf89 Try.zeroValue89 rfl rfl rfl (fun _ => ⟨rfl, rfl, rfl⟩) rfl) ?_
  refine go_p rfl rfl rfl (o_build (zs := [.list 13 AutoState.d [], .v (.int .i64 0)]) Try.runUnderlying81 Try.zeroValue81 (pl_81 _ Try.runUnderlying81) rfl rfl rfl rfl) ?_
  refine go_u rfl rfl (o_store_box 0 Try.sizeOf81 rfl rfl rfl rfl rfl rfl rfl rfl (Nat.le_of_ble_eq_true rfl)) ?_
  rintro _ _ rfl
  refine go_ms (ms' := [box b1 81 [_, _]]) rfl ?_
  refine go_nil ?_
  refine g_ret ?_
  exact retK (ret_one' rfl (ret_cell 0 rfl rfl rfl Try.isAgg81 Try.sizeOf81 rfl) (perm_drop _)) (congrArg (fun (p : AutoAuto) => (AutoAuto.d p : D)) (some_eq hm))

def m_syntagmalaw24_works  : Option Bool :=
  (m_syntagmalaw24_number).bind fun x1 =>
  (m_auto_Norm x1).bind fun (x2, x3) =>
  (m_syntagmalaw24_number).bind fun x4 =>
  (m_auto_May x4).bind fun x5 =>
  bif (decide (x5 = 0)) then (bif (decide (x3 = 0)) then (bif (decide ((x2.l.length : Int) = 3)) then ((m_syntagmalaw24_number).bind fun x6 =>
  (m_auto_Same (⟨x2.l, x2.start⟩ : AutoAuto) x6).bind fun x7 =>
  bif x7 then ((idx x2.l 0).bind fun x8 =>
  (m_auto_Next x8).bind fun x9 =>
  (m_syntagmabase_SameInts x9 [1, 2]).bind fun x10 =>
  some x10) else (some false)) else (some false)) else (some false)) else (some false)
theorem w_syntagmalaw24_works  {r : Bool} (hm : m_syntagmalaw24_works = some r) : Fn0 Try.prog 49 [] (.bool r) := by
  unfold m_syntagmalaw24_works at hm
  refine fn_intro Try.func49 rfl Try.ntmps49 rfl fun H0 fr w0 => ?_
  refine g_seq ?_
  refine g_region ?_
  refine go_p rfl rfl rfl (o_assign rfl) ?_
  refine go_nil ?_
  refine g_seq ?_
  refine g_region ?_
  obtain ⟨x1, hx1, hm⟩ := bind_some hm
  refine go_p rfl rfl rfl (o_call0 Try.call84 rfl (w_syntagmalaw24_number hx1)) ?_
  obtain ⟨⟨x2, x3⟩, hx2, hm⟩ := bind_some hm
  refine go_p rfl rfl rfl (o_call0 Try.call52 rfl (w_auto_Norm hx2)) ?_
  refine go_p rfl rfl rfl (o_move rfl) ?_
  refine go_p rfl rfl rfl (o_extract rfl rfl) ?_
  refine go_p rfl rfl rfl (o_extract rfl rfl) ?_
  refine go_op rfl rfl rfl (o_alloc_own Try.zeroValue81 (cs := [.list 13 AutoState.d [], .i64 0]) rfl) ?_
  rintro _ _ ⟨b1, rfl, rfl⟩
  refine go_u rfl rfl (o_store_box 0 Try.sizeOf81 rfl rfl rfl rfl rfl rfl rfl rfl (Nat.le_of_ble_eq_true rfl)) ?_
  rintro _ _ rfl
  refine go_ms (ms' := [box b1 81 [_, _]]) rfl ?_
  refine go_p rfl rfl rfl (o_assign rfl) ?_
  refine go_nil ?_
  refine g_seq ?_
  obtain ⟨x4, hx3, hm⟩ := bind_some hm
  obtain ⟨x5, hx4, hm⟩ := bind_some hm
  rcases cond_split hm with ⟨hg_1, hm⟩ | ⟨hg_1, hm⟩
  ·
    skip
    rcases cond_split hm with ⟨hg_2, hm⟩ | ⟨hg_2, hm⟩
    ·
      skip
      rcases cond_split hm with ⟨hg_3, hm⟩ | ⟨hg_3, hm⟩
      ·
        skip
        obtain ⟨x6, hx5, hm⟩ := bind_some hm
        obtain ⟨x7, hx6, hm⟩ := bind_some hm
        rcases cond_split hm with ⟨hg_4, hm⟩ | ⟨hg_4, hm⟩
        ·
          skip
          obtain ⟨x8, hx7, hm⟩ := bind_some hm
          obtain ⟨x9, hx8, hm⟩ := bind_some hm
          obtain ⟨x10, hx9, hm⟩ := bind_some hm
          refine g_draw 28 Try_mixed (by decide +kernel) ?_
          refine gd_p rfl rfl rfl (o_call0 Try.call84 rfl (w_syntagmalaw24_number hx3)) ?_
          refine gd_p rfl rfl rfl (o_call0 Try.call47 rfl (w_auto_May hx4)) ?_
          refine gd_p rfl rfl rfl (o_cmp rfl rfl rfl) ?_
          refine gd_p rfl rfl rfl (o_move rfl) ?_
          refine gd_want rfl rfl rfl hg_1 rfl rfl (o_move rfl) ?_
          refine gd_want rfl rfl rfl hg_1 rfl rfl (o_cmp rfl rfl rfl) ?_
          refine gd_p rfl rfl rfl (o_pickT rfl hg_1 rfl) ?_
          refine gd_p rfl rfl rfl (o_move rfl) ?_
          refine gd_want rfl rfl rfl hg_2 rfl rfl (o_fieldAddr_box fi_81_0 rfl) ?_
          refine gd_want rfl rfl rfl hg_2 rfl rfl (o_load_box 0 Try.isAgg79 rfl rfl rfl rfl) ?_
          refine gd_want rfl rfl rfl hg_2 rfl rfl (o_len Try.runUnderlying79 rfl) ?_
          refine gd_want rfl rfl rfl hg_2 rfl rfl (o_cmp rfl rfl rfl) ?_
          refine gd_p rfl rfl rfl (o_pickT rfl hg_2 rfl) ?_
          refine gd_p rfl rfl rfl (o_move rfl) ?_
          refine gd_want rfl rfl rfl hg_3 rfl rfl (o_load_box_agg 0 Try.isAgg81 Try.sizeOf81 rfl rfl rfl rfl (Nat.le_of_ble_eq_true rfl)) ?_
          refine gd_want rfl rfl rfl hg_3 rfl rfl (o_call0 Try.call84 rfl (w_syntagmalaw24_number hx5)) ?_
          refine gd_want rfl rfl rfl hg_3 rfl rfl (o_call0 Try.call53 rfl (w_auto_Same hx6)) ?_
          refine gd_p rfl rfl rfl (o_pickT rfl hg_3 rfl) ?_
          refine gd_p rfl rfl rfl (o_move rfl) ?_
          refine gd_want rfl rfl rfl hg_4 rfl rfl (o_fieldAddr_box fi_81_0 rfl) ?_
          refine gd_want rfl rfl rfl hg_4 rfl rfl (o_load_box 0 Try.isAgg79 rfl rfl rfl rfl) ?_
          refine gd_want rfl rfl rfl hg_4 rfl rfl (o_indexAddr_m Try.runUnderlying79 Try.sizeOf89 rfl rfl hx7) ?_
          refine gd_want rfl rfl rfl hg_4 rfl rfl (o_load_agg Try.isAgg89 Try.sizeOf89 rfl rfl) ?_
          refine gd_want rfl rfl rfl hg_4 rfl rfl (o_call0 Try.call50 rfl (w_auto_Next hx8)) ?_
          refine gd_want rfl rfl rfl hg_4 rfl rfl (o_buildSlice (xs := [_, _]) (f := D.i64) (l := [_, _]) Try.runUnderlying47 Try.sizeOf3 Try.zeroValue3 rfl rfl rfl (fun _ => ⟨rfl, rfl, rfl⟩) rfl) ?_
          refine gd_want rfl rfl rfl hg_4 rfl rfl (o_call0 Try.call28 rfl (w_syntagmabase_SameInts hx9)) ?_
          refine gd_p rfl rfl rfl (o_pickT rfl hg_4 rfl) ?_
          refine gd_p rfl rfl rfl (o_assign rfl) ?_
          refine gd_nil ?_
          refine go_nil ?_
          refine g_ret ?_
          exact retK (ret_one' rfl (ret_tmp rfl) (perm_drop _)) (congrArg (fun (p : Bool) => (.bool p : D)) (some_eq hm))
        ·
          skip
          refine g_draw 28 Try_mixed (by decide +kernel) ?_
          refine gd_p rfl rfl rfl (o_call0 Try.call84 rfl (w_syntagmalaw24_number hx3)) ?_
          refine gd_p rfl rfl rfl (o_call0 Try.call47 rfl (w_auto_May hx4)) ?_
          refine gd_p rfl rfl rfl (o_cmp rfl rfl rfl) ?_
          refine gd_p rfl rfl rfl (o_move rfl) ?_
          refine gd_want rfl rfl rfl hg_1 rfl rfl (o_move rfl) ?_
          refine gd_want rfl rfl rfl hg_1 rfl rfl (o_cmp rfl rfl rfl) ?_
          refine gd_p rfl rfl rfl (o_pickT rfl hg_1 rfl) ?_
          refine gd_p rfl rfl rfl (o_move rfl) ?_
          refine gd_want rfl rfl rfl hg_2 rfl rfl (o_fieldAddr_box fi_81_0 rfl) ?_
          refine gd_want rfl rfl rfl hg_2 rfl rfl (o_load_box 0 Try.isAgg79 rfl rfl rfl rfl) ?_
          refine gd_want rfl rfl rfl hg_2 rfl rfl (o_len Try.runUnderlying79 rfl) ?_
          refine gd_want rfl rfl rfl hg_2 rfl rfl (o_cmp rfl rfl rfl) ?_
          refine gd_p rfl rfl rfl (o_pickT rfl hg_2 rfl) ?_
          refine gd_p rfl rfl rfl (o_move rfl) ?_
          refine gd_want rfl rfl rfl hg_3 rfl rfl (o_load_box_agg 0 Try.isAgg81 Try.sizeOf81 rfl rfl rfl rfl (Nat.le_of_ble_eq_true rfl)) ?_
          refine gd_want rfl rfl rfl hg_3 rfl rfl (o_call0 Try.call84 rfl (w_syntagmalaw24_number hx5)) ?_
          refine gd_want rfl rfl rfl hg_3 rfl rfl (o_call0 Try.call53 rfl (w_auto_Same hx6)) ?_
          refine gd_p rfl rfl rfl (o_pickT rfl hg_3 rfl) ?_
          refine gd_p rfl rfl rfl (o_move rfl) ?_
          refine gd_skip rfl rfl rfl hg_4 rfl rfl ?_
          refine gd_skip rfl rfl rfl hg_4 rfl rfl ?_
          refine gd_skip rfl rfl rfl hg_4 rfl rfl ?_
          refine gd_skip rfl rfl rfl hg_4 rfl rfl ?_
          refine gd_skip rfl rfl rfl hg_4 rfl rfl ?_
          refine gd_skip rfl rfl rfl hg_4 rfl rfl ?_
          refine gd_skip rfl rfl rfl hg_4 rfl rfl ?_
          refine gd_p rfl rfl rfl (o_pickF rfl hg_4 rfl) ?_
          refine gd_p rfl rfl rfl (o_assign rfl) ?_
          refine gd_nil ?_
          refine go_nil ?_
          refine g_ret ?_
          exact retK (ret_one' rfl (ret_tmp rfl) (perm_drop _)) (congrArg (fun (p : Bool) => (.bool p : D)) (some_eq hm))
      ·
        skip
        refine g_draw 28 Try_mixed (by decide +kernel) ?_
        refine gd_p rfl rfl rfl (o_call0 Try.call84 rfl (w_syntagmalaw24_number hx3)) ?_
        refine gd_p rfl rfl rfl (o_call0 Try.call47 rfl (w_auto_May hx4)) ?_
        refine gd_p rfl rfl rfl (o_cmp rfl rfl rfl) ?_
        refine gd_p rfl rfl rfl (o_move rfl) ?_
        refine gd_want rfl rfl rfl hg_1 rfl rfl (o_move rfl) ?_
        refine gd_want rfl rfl rfl hg_1 rfl rfl (o_cmp rfl rfl rfl) ?_
        refine gd_p rfl rfl rfl (o_pickT rfl hg_1 rfl) ?_
        refine gd_p rfl rfl rfl (o_move rfl) ?_
        refine gd_want rfl rfl rfl hg_2 rfl rfl (o_fieldAddr_box fi_81_0 rfl) ?_
        refine gd_want rfl rfl rfl hg_2 rfl rfl (o_load_box 0 Try.isAgg79 rfl rfl rfl rfl) ?_
        refine gd_want rfl rfl rfl hg_2 rfl rfl (o_len Try.runUnderlying79 rfl) ?_
        refine gd_want rfl rfl rfl hg_2 rfl rfl (o_cmp rfl rfl rfl) ?_
        refine gd_p rfl rfl rfl (o_pickT rfl hg_2 rfl) ?_
        refine gd_p rfl rfl rfl (o_move rfl) ?_
        refine gd_skip rfl rfl rfl hg_3 rfl rfl ?_
        refine gd_skip rfl rfl rfl hg_3 rfl rfl ?_
        refine gd_skip rfl rfl rfl hg_3 rfl rfl ?_
        refine gd_p rfl rfl rfl (o_pickF rfl hg_3 rfl) ?_
        refine gd_p rfl rfl rfl (o_move rfl) ?_
        refine gd_skip rfl rfl rfl rfl rfl rfl ?_
        refine gd_skip rfl rfl rfl rfl rfl rfl ?_
        refine gd_skip rfl rfl rfl rfl rfl rfl ?_
        refine gd_skip rfl rfl rfl rfl rfl rfl ?_
        refine gd_skip rfl rfl rfl rfl rfl rfl ?_
        refine gd_skip rfl rfl rfl rfl rfl rfl ?_
        refine gd_skip rfl rfl rfl rfl rfl rfl ?_
        refine gd_p rfl rfl rfl (o_pickF rfl rfl rfl) ?_
        refine gd_p rfl rfl rfl (o_assign rfl) ?_
        refine gd_nil ?_
        refine go_nil ?_
        refine g_ret ?_
        exact retK (ret_one' rfl (ret_tmp rfl) (perm_drop _)) (congrArg (fun (p : Bool) => (.bool p : D)) (some_eq hm))
    ·
      skip
      refine g_draw 28 Try_mixed (by decide +kernel) ?_
      refine gd_p rfl rfl rfl (o_call0 Try.call84 rfl (w_syntagmalaw24_number hx3)) ?_
      refine gd_p rfl rfl rfl (o_call0 Try.call47 rfl (w_auto_May hx4)) ?_
      refine gd_p rfl rfl rfl (o_cmp rfl rfl rfl) ?_
      refine gd_p rfl rfl rfl (o_move rfl) ?_
      refine gd_want rfl rfl rfl hg_1 rfl rfl (o_move rfl) ?_
      refine gd_want rfl rfl rfl hg_1 rfl rfl (o_cmp rfl rfl rfl) ?_
      refine gd_p rfl rfl rfl (o_pickT rfl hg_1 rfl) ?_
      refine gd_p rfl rfl rfl (o_move rfl) ?_
      refine gd_skip rfl rfl rfl hg_2 rfl rfl ?_
      refine gd_skip rfl rfl rfl hg_2 rfl rfl ?_
      refine gd_skip rfl rfl rfl hg_2 rfl rfl ?_
      refine gd_skip rfl rfl rfl hg_2 rfl rfl ?_
      refine gd_p rfl rfl rfl (o_pickF rfl hg_2 rfl) ?_
      refine gd_p rfl rfl rfl (o_move rfl) ?_
      refine gd_skip rfl rfl rfl rfl rfl rfl ?_
      refine gd_skip rfl rfl rfl rfl rfl rfl ?_
      refine gd_skip rfl rfl rfl rfl rfl rfl ?_
      refine gd_p rfl rfl rfl (o_pickF rfl rfl rfl) ?_
      refine gd_p rfl rfl rfl (o_move rfl) ?_
      refine gd_skip rfl rfl rfl rfl rfl rfl ?_
      refine gd_skip rfl rfl rfl rfl rfl rfl ?_
      refine gd_skip rfl rfl rfl rfl rfl rfl ?_
      refine gd_skip rfl rfl rfl rfl rfl rfl ?_
      refine gd_skip rfl rfl rfl rfl rfl rfl ?_
      refine gd_skip rfl rfl rfl rfl rfl rfl ?_
      refine gd_skip rfl rfl rfl rfl rfl rfl ?_
      refine gd_p rfl rfl rfl (o_pickF rfl rfl rfl) ?_
      refine gd_p rfl rfl rfl (o_assign rfl) ?_
      refine gd_nil ?_
      refine go_nil ?_
      refine g_ret ?_
      exact retK (ret_one' rfl (ret_tmp rfl) (perm_drop _)) (congrArg (fun (p : Bool) => (.bool p : D)) (some_eq hm))
  ·
    skip
    refine g_draw 28 Try_mixed (by decide +kernel) ?_
    refine gd_p rfl rfl rfl (o_call0 Try.call84 rfl (w_syntagmalaw24_number hx3)) ?_
    refine gd_p rfl rfl rfl (o_call0 Try.call47 rfl (w_auto_May hx4)) ?_
    refine gd_p rfl rfl rfl (o_cmp rfl rfl rfl) ?_
    refine gd_p rfl rfl rfl (o_move rfl) ?_
    refine gd_skip rfl rfl rfl hg_1 rfl rfl ?_
    refine gd_skip rfl rfl rfl hg_1 rfl rfl ?_
    refine gd_p rfl rfl rfl (o_pickF rfl hg_1 rfl) ?_
    refine gd_p rfl rfl rfl (o_move rfl) ?_
    refine gd_skip rfl rfl rfl rfl rfl rfl ?_
    refine gd_skip rfl rfl rfl rfl rfl rfl ?_
    refine gd_skip rfl rfl rfl rfl rfl rfl ?_
    refine gd_skip rfl rfl rfl rfl rfl rfl ?_
    refine gd_p rfl rfl rfl (o_pickF rfl rfl rfl) ?_
    refine gd_p rfl rfl rfl (o_move rfl) ?_
    refine gd_skip rfl rfl rfl rfl rfl rfl ?_
    refine gd_skip rfl rfl rfl rfl rfl rfl ?_
    refine gd_skip rfl rfl rfl rfl rfl rfl ?_
    refine gd_p rfl rfl rfl (o_pickF rfl rfl rfl) ?_
    refine gd_p rfl rfl rfl (o_move rfl) ?_
    refine gd_skip rfl rfl rfl rfl rfl rfl ?_
    refine gd_skip rfl rfl rfl rfl rfl rfl ?_
    refine gd_skip rfl rfl rfl rfl rfl rfl ?_
    refine gd_skip rfl rfl rfl rfl rfl rfl ?_
    refine gd_skip rfl rfl rfl rfl rfl rfl ?_
    refine gd_skip rfl rfl rfl rfl rfl rfl ?_
    refine gd_skip rfl rfl rfl rfl rfl rfl ?_
    refine gd_p rfl rfl rfl (o_pickF rfl rfl rfl) ?_
    refine gd_p rfl rfl rfl (o_assign rfl) ?_
    refine gd_nil ?_
    refine go_nil ?_
    refine g_ret ?_
    exact retK (ret_one' rfl (ret_tmp rfl) (perm_drop _)) (congrArg (fun (p : Bool) => (.bool p : D)) (some_eq hm))

def m_syntagmalaw24_AutoMays (a1 : AutoAuto) (at1 : Int) : Option Bool :=
  (m_syntagmalaw24_Give a1 30).bind fun x1 =>
  (m_syntagmalaw24_Of (⟨x1.l, x1.start⟩ : AutoAuto)).bind fun x2 =>
  (m_auto_May (⟨x1.l, x1.start⟩ : AutoAuto)).bind fun x3 =>
  (m_syntagmaref24_May (⟨x2.l, x2.start⟩ : AutoAuto)).bind fun x4 =>
  bif (!decide (x3 = x4)) then
    some false
  else
    bif (decide ((x1.l.length : Int) = 0)) then
      (m_syntagmalaw24_works).bind fun x5 =>
      some x5
    else
      (m_syntagmabase_Among at1 (x1.l.length : Int)).bind fun x6 =>
      (idx x1.l x6).bind fun x7 =>
      (m_auto_Next x7).bind fun x8 =>
      (idx x2.l x6).bind fun x9 =>
      (m_syntagmaref24_Next x9).bind fun x10 =>
      (m_syntagmabase_SameInts x8 x10).bind fun x11 =>
      bif x11 then ((m_syntagmalaw24_works).bind fun x12 =>
      some x12) else (some false)
theorem w_syntagmalaw24_AutoMays {a1 : AutoAuto} {at1 : Int} {r : Bool} (hm : m_syntagmalaw24_AutoMays a1 at1 = some r) : Fn0 Try.prog 10 [AutoAuto.d a1, .i64 at1] (.bool r) := by
  unfold m_syntagmalaw24_AutoMays at hm
  refine fn_intro Try.func10 rfl Try.ntmps10 rfl fun H0 fr w0 => ?_
  refine g_seq ?_
  refine g_region ?_
  refine go_p rfl rfl rfl (o_box rfl rfl) ?_
  refine go_p rfl rfl rfl (o_assign rfl) ?_
  refine go_nil ?_
  refine g_seq ?_
  refine g_region ?_
  refine go_p rfl rfl rfl (o_load_agg Try.isAgg78 Try.sizeOf78 rfl rfl) ?_
  obtain ⟨x1, hx1, hm⟩ := bind_some hm
  refine go_p rfl rfl rfl (o_call0 Try.call45 rfl (w_syntagmalaw24_Give hx1)) ?_
  refine go_op rfl rfl rfl (o_alloc_own Try.zeroValue81 (cs := [.list 13 AutoState.d [], .i64 0]) rfl) ?_
  rintro _ _ ⟨b1, rfl, rfl⟩
  refine go_u rfl rfl (o_store_box 0 Try.sizeOf81 rfl rfl rfl rfl rfl rfl rfl rfl (Nat.le_of_ble_eq_true rfl)) ?_
  rintro _ _ rfl
  refine go_ms (ms' := [box b1 81 [_, _]]) rfl ?_
  refine go_nil ?_
  refine g_seq ?_
  refine g_region ?_
  refine go_p rfl rfl rfl (o_load_box_agg 0 Try.isAgg81 Try.sizeOf81 rfl rfl rfl rfl (Nat.le_of_ble_eq_true rfl)) ?_
  obtain ⟨x2, hx2, hm⟩ := bind_some hm
  refine go_p rfl rfl rfl (o_call0 Try.call46 rfl (w_syntagmalaw24_Of hx2)) ?_
  refine go_op rfl rfl rfl (o_alloc_own Try.zeroValue78 (cs := [.list 13 AutoState.d [], .i64 0]) rfl) ?_
  rintro _ _ ⟨b2, rfl, rfl⟩
  refine go_u rfl rfl (o_store_box 0 Try.sizeOf78 rfl rfl rfl rfl rfl rfl rfl rfl (Nat.le_of_ble_eq_true rfl)) ?_
  rintro _ _ rfl
  refine go_ms (ms' := [box b2 78 [_, _], box b1 81 [_, _]]) rfl ?_
  refine go_nil ?_
  refine g_seq ?_
  refine g_seq ?_
  obtain ⟨x3, hx3, hm⟩ := bind_some hm
  obtain ⟨x4, hx4, hm⟩ := bind_some hm
  refine g_draw 5 Try_mixed (by decide +kernel) ?_
  refine gd_p rfl rfl rfl (o_load_box_agg 1 Try.isAgg81 Try.sizeOf81 rfl rfl rfl rfl (Nat.le_of_ble_eq_true rfl)) ?_
  refine gd_p rfl rfl rfl (o_call0 Try.call47 rfl (w_auto_May hx3)) ?_
  refine gd_p rfl rfl rfl (o_load_box_agg 0 Try.isAgg78 Try.sizeOf78 rfl rfl rfl rfl (Nat.le_of_ble_eq_true rfl)) ?_
  refine gd_p rfl rfl rfl (o_call0 Try.call48 rfl (w_syntagmaref24_May hx4)) ?_
  refine gd_p rfl rfl rfl (o_cmp rfl rfl rfl) ?_
  refine gd_nil ?_
  refine go_nil ?_
  refine g_cond rfl (fun hc1 => ?_) (fun hc1 => ?_)
  · replace hm := cond_t hc1 hm
    refine g_seq ?_
    refine g_region ?_
    refine go_p rfl rfl rfl (o_assign rfl) ?_
    refine go_nil ?_
    refine g_ret ?_
    exact retK (ret_one' rfl (ret_tmp rfl) (perm_drop _)) (congrArg (fun (p : Bool) => (.bool p : D)) (some_eq hm))
  · replace hm := cond_f hc1 hm
    refine g_skip ?_
    refine g_seq ?_
    refine g_seq ?_
    refine g_region ?_
    refine go_p rfl rfl rfl (o_fieldAddr_box fi_81_0 rfl) ?_
    refine go_p rfl rfl rfl (o_load_box 1 Try.isAgg79 rfl rfl rfl rfl) ?_
    refine go_p rfl rfl rfl (o_len Try.runUnderlying79 rfl) ?_
    refine go_p rfl rfl rfl (o_cmp rfl rfl rfl) ?_
    refine go_nil ?_
    refine g_cond rfl (fun hc2 => ?_) (fun hc2 => ?_)
    · replace hm := cond_t hc2 hm
      refine g_seq ?_
      refine g_region ?_
      obtain ⟨x5, hx5, hm⟩ := bind_some hm
      refine go_p rfl rfl rfl (o_call0 Try.call49 rfl (w_syntagmalaw24_works hx5)) ?_
      refine go_p rfl rfl rfl (o_assign rfl) ?_
      refine go_nil ?_
      refine g_ret ?_
      exact retK (ret_one' rfl (ret_tmp rfl) (perm_drop _)) (congrArg (fun (p : Bool) => (.bool p : D)) (some_eq hm))
    · replace hm := cond_f hc2 hm
      refine g_skip ?_
      refine g_seq ?_
      refine g_region ?_
      refine go_p rfl rfl rfl (o_move rfl) ?_
      refine go_p rfl rfl rfl (o_fieldAddr_box fi_81_0 rfl) ?_
      refine go_p rfl rfl rfl (o_load_box 1 Try.isAgg79 rfl rfl rfl rfl) ?_
      refine go_p rfl rfl rfl (o_len Try.runUnderlying79 rfl) ?_
      obtain ⟨x6, hx6, hm⟩ := bind_some hm
      refine go_p rfl rfl rfl (o_call0 Try.call25 rfl (w_syntagmabase_Among hx6)) ?_
      refine go_p rfl rfl rfl (o_assign rfl) ?_
      refine go_nil ?_
      refine g_seq ?_
      obtain ⟨x7, hx7, hm⟩ := bind_some hm
      obtain ⟨x8, hx8, hm⟩ := bind_some hm
      obtain ⟨x9, hx9, hm⟩ := bind_some hm
      obtain ⟨x10, hx10, hm⟩ := bind_some hm
      obtain ⟨x11, hx11, hm⟩ := bind_some hm
      rcases cond_split hm with ⟨hg_1, hm⟩ | ⟨hg_1, hm⟩
      ·
        skip
        obtain ⟨x12, hx12, hm⟩ := bind_some hm
        refine g_draw 17 Try_mixed (by decide +kernel) ?_
        refine gd_p rfl rfl rfl (o_fieldAddr_box fi_81_0 rfl) ?_
        refine gd_p rfl rfl rfl (o_load_box 1 Try.isAgg79 rfl rfl rfl rfl) ?_
        refine gd_p rfl rfl rfl (o_move rfl) ?_
        refine gd_p rfl rfl rfl (o_indexAddr_m Try.runUnderlying79 Try.sizeOf89 rfl rfl hx7) ?_
        refine gd_p rfl rfl rfl (o_load_agg Try.isAgg89 Try.sizeOf89 rfl rfl) ?_
        refine gd_p rfl rfl rfl (o_call0 Try.call50 rfl (w_auto_Next hx8)) ?_
        refine gd_p rfl rfl rfl (o_fieldAddr_box fi_78_0 rfl) ?_
        refine gd_p rfl rfl rfl (o_load_box 0 Try.isAgg76 rfl rfl rfl rfl) ?_
        refine gd_p rfl rfl rfl (o_move rfl) ?_
        refine gd_p rfl rfl rfl (o_indexAddr_m Try.runUnderlying76 Try.sizeOf93 rfl rfl hx9) ?_
        refine gd_p rfl rfl rfl (o_load_agg Try.isAgg93 Try.sizeOf93 rfl rfl) ?_
        refine gd_p rfl rfl rfl (o_call0 Try.call51 rfl (w_syntagmaref24_Next hx10)) ?_
        refine gd_p rfl rfl rfl (o_call0 Try.call28 rfl (w_syntagmabase_SameInts hx11)) ?_
        refine gd_p rfl rfl rfl (o_move rfl) ?_
        refine gd_want rfl rfl rfl hg_1 rfl rfl (o_call0 Try.call49 rfl (w_syntagmalaw24_works hx12)) ?_
        refine gd_p rfl rfl rfl (o_pickT rfl hg_1 rfl) ?_
        refine gd_p rfl rfl rfl (o_assign rfl) ?_
        refine gd_nil ?_
        refine go_nil ?_
        refine g_ret ?_
        exact retK (ret_one' rfl (ret_tmp rfl) (perm_drop _)) (congrArg (fun (p : Bool) => (.bool p : D)) (some_eq hm))
      ·
        skip
        refine g_draw 17 Try_mixed (by decide +kernel) ?_
        refine gd_p rfl rfl rfl (o_fieldAddr_box fi_81_0 rfl) ?_
        refine gd_p rfl rfl rfl (o_load_box 1 Try.isAgg79 rfl rfl rfl rfl) ?_
        refine gd_p rfl rfl rfl (o_move rfl) ?_
        refine gd_p rfl rfl rfl (o_indexAddr_m Try.runUnderlying79 Try.sizeOf89 rfl rfl hx7) ?_
        refine gd_p rfl rfl rfl (o_load_agg Try.isAgg89 Try.sizeOf89 rfl rfl) ?_
        refine gd_p rfl rfl rfl (o_call0 Try.call50 rfl (w_auto_Next hx8)) ?_
        refine gd_p rfl rfl rfl (o_fieldAddr_box fi_78_0 rfl) ?_
        refine gd_p rfl rfl rfl (o_load_box 0 Try.isAgg76 rfl rfl rfl rfl) ?_
        refine gd_p rfl rfl rfl (o_move rfl) ?_
        refine gd_p rfl rfl rfl (o_indexAddr_m Try.runUnderlying76 Try.sizeOf93 rfl rfl hx9) ?_
        refine gd_p rfl rfl rfl (o_load_agg Try.isAgg93 Try.sizeOf93 rfl rfl) ?_
        refine gd_p rfl rfl rfl (o_call0 Try.call51 rfl (w_syntagmaref24_Next hx10)) ?_
        refine gd_p rfl rfl rfl (o_call0 Try.call28 rfl (w_syntagmabase_SameInts hx11)) ?_
        refine gd_p rfl rfl rfl (o_move rfl) ?_
        refine gd_skip rfl rfl rfl hg_1 rfl rfl ?_
        refine gd_p rfl rfl rfl (o_pickF rfl hg_1 rfl) ?_
        refine gd_p rfl rfl rfl (o_assign rfl) ?_
        refine gd_nil ?_
        refine go_nil ?_
        refine g_ret ?_
        exact retK (ret_one' rfl (ret_tmp rfl) (perm_drop _)) (congrArg (fun (p : Bool) => (.bool p : D)) (some_eq hm))

theorem eqf_144 : ∀ fs : Array Field, Try.prog.underlying 144 = some (.struct fs) → EqFields Try.prog fs.toList 0 [.str, .int] := by
  intro fs h
  have := h.symm.trans Try.underlying144
  simp only [Option.some.injEq, TypeDesc.struct.injEq] at this
  subst this
  exact ⟨by decide, rfl, Try.isAgg9, Try.underlying9, ⟨by decide, rfl, Try.isAgg3, ⟨_, Try.underlying3⟩, trivial⟩⟩
def m_syntagmaref24_sameEdges_l1 (a1 : (List AutoEdge)) (b1 : (List AutoEdge)) : Nat → Int → Option (Out Bool Unit)
  | 0, _ => none
  | n + 1, i1 =>
    bif (decide (i1 < (a1.length : Int))) then
      (idx a1 i1).bind fun x1 =>
      (idx b1 i1).bind fun x2 =>
      bif (!(AutoEdge.eqv x1 x2)) then
        some (Out.ret false)
      else
        grd (InR (i1 + 1)) <|
        m_syntagmaref24_sameEdges_l1 a1 b1 n (i1 + 1)
    else
      some (Out.go (()))
def m_syntagmaref24_sameEdges (a1 : (List AutoEdge)) (b1 : (List AutoEdge)) : Option Bool :=
  bif (!decide ((a1.length : Int) = (b1.length : Int))) then
    some false
  else
    ((m_syntagmaref24_sameEdges_l1 a1 b1 FU 0 : Option (Out Bool Unit))).bind (fun oo => oo.on (fun r1 => some r1) (fun _ =>
    some true))
theorem w_syntagmaref24_sameEdges {a1 : (List AutoEdge)} {b1 : (List AutoEdge)} {r : Bool} (hm : m_syntagmaref24_sameEdges a1 b1 = some r) : Fn0 Try.prog 122 [.list 2 AutoEdge.d a1, .list 2 AutoEdge.d b1] (.bool r) := by
  unfold m_syntagmaref24_sameEdges at hm
  refine fn_intro Try.func122 rfl Try.ntmps122 rfl fun H0 fr w0 => ?_
  refine g_seq ?_
  refine g_region ?_
  refine go_p rfl rfl rfl (o_assign rfl) ?_
  refine go_nil ?_
  refine g_seq ?_
  refine g_seq ?_
  refine g_region ?_
  refine go_p rfl rfl rfl (o_move rfl) ?_
  refine go_p rfl rfl rfl (o_len Try.runUnderlying91 rfl) ?_
  refine go_p rfl rfl rfl (o_move rfl) ?_
  refine go_p rfl rfl rfl (o_len Try.runUnderlying91 rfl) ?_
  refine go_p rfl rfl rfl (o_cmp rfl rfl rfl) ?_
  refine go_nil ?_
  refine g_cond rfl (fun hc1 => ?_) (fun hc1 => ?_)
  · replace hm := cond_t hc1 hm
    refine g_seq ?_
    refine g_region ?_
    refine go_p rfl rfl rfl (o_assign rfl) ?_
    refine go_nil ?_
    refine g_ret ?_
    exact retK (ret_one' rfl (ret_tmp rfl) (perm_drop _)) (congrArg (fun (p : Bool) => (.bool p : D)) (some_eq hm))
  · replace hm := cond_f hc1 hm
    refine g_skip ?_
    refine g_seq ?_
    refine g_seq ?_
    refine g_region ?_
    refine go_p rfl rfl rfl (o_assign rfl) ?_
    refine go_nil ?_
    obtain ⟨o_1, hj1, hm1⟩ := bind_some hm
    refine g_cut_m [] [] (fun (st : Unit) (hid : Unit) => match st, hid with | _, _ => []) (fun F (st : Unit) (hid : Unit) => match st, hid with | _, _ => []) (fun st => Out.go (st) = o_1) trivial trivial ?_ ?_
    · skip
      refine g_block ?_
      refine g_loop_m [(0, _), (1, _)] [] (fun (st : Int) (hid : Unit) => match st, hid with | i1, _ => [(5, .i64 i1)]) (fun F (st : Int) (hid : Unit) => match st, hid with | i1, _ => []) () hj1 (fun _ => rfl) ⟨rfl, rfl, trivial⟩ trivial ⟨rfl, trivial⟩ rfl ?_
      rintro n i1 _ hj1
      rw [m_syntagmaref24_sameEdges_l1] at hj1
      refine g_norm (L' := [(5, .i64 i1), (0, _), (1, _)]) (ms' := []) rfl rfl ?_
      refine g_seq ?_
      refine g_seq ?_
      refine g_region ?_
      refine go_p rfl rfl rfl (o_move rfl) ?_
      refine go_p rfl rfl rfl (o_move rfl) ?_
      refine go_p rfl rfl rfl (o_len Try.runUnderlying91 rfl) ?_
      refine go_p rfl rfl rfl (o_cmp rfl rfl rfl) ?_
      refine go_nil ?_
      refine g_cond rfl (fun hc2 => ?_) (fun hc2 => ?_)
      · replace hj1 := cond_t hc2 hj1
        refine g_skip ?_
        refine g_seq ?_
        refine g_block ?_
        refine g_seq ?_
        obtain ⟨x1, hx1, hj1⟩ := bind_some hj1
        obtain ⟨x2, hx2, hj1⟩ := bind_some hj1
        refine g_draw 9 Try_mixed (by decide +kernel) ?_
        refine gd_p rfl rfl rfl (o_move rfl) ?_
        refine gd_p rfl rfl rfl (o_move rfl) ?_
        refine gd_p rfl rfl rfl (o_indexAddr_m Try.runUnderlying91 Try.sizeOf144 rfl rfl hx1) ?_
        refine gd_p rfl rfl rfl (o_load_agg Try.isAgg144 Try.sizeOf144 rfl rfl) ?_
        refine gd_p rfl rfl rfl (o_move rfl) ?_
        refine gd_p rfl rfl rfl (o_move rfl) ?_
        refine gd_p rfl rfl rfl (o_indexAddr_m Try.runUnderlying91 Try.sizeOf144 rfl rfl hx2) ?_
        refine gd_p rfl rfl rfl (o_load_agg Try.isAgg144 Try.sizeOf144 rfl rfl) ?_
        refine gd_p rfl rfl rfl (o_neqagg (ks := [.str, .int]) Try.underlying144 (by kernel_rfl) (by kernel_rfl) (eqf_144 _ Try.underlying144) rfl rfl rfl) ?_
        refine gd_nil ?_
        refine go_nil ?_
        refine g_cond rfl (fun hc3 => ?_) (fun hc3 => ?_)
        · replace hj1 := cond_t hc3 hj1
          refine g_seq ?_
          refine g_region ?_
          refine go_p rfl rfl rfl (o_assign rfl) ?_
          refine go_nil ?_
          refine g_ret ?_
          obtain rfl := some_eq hj1
          replace hm1 := on_ret hm1
          exact retK (ret_one' rfl (ret_tmp rfl) (perm_drop _)) (congrArg (fun (p : Bool) => (.bool p : D)) (some_eq hm1))
        · replace hj1 := cond_f hc3 hj1
          refine g_skip ?_
          refine g_region ?_
          refine go_p rfl rfl rfl (o_move rfl) ?_
          obtain ⟨hg3, hj1⟩ := grd_some hj1
          refine go_p rfl rfl rfl (o_add rfl rfl (i64_id hg3)) ?_
          refine go_p rfl rfl rfl (o_assign rfl) ?_
          refine go_nil ?_
          exact ⟨_, (), hj1, ⟨rfl, trivial⟩, ⟨rfl, rfl, trivial⟩, [], rfl⟩
      · replace hj1 := cond_f hc2 hj1
        refine g_exit ?_
        exact ⟨_, (), some_eq hj1, trivial, trivial, [], rfl⟩
    · rintro _ _ hst
      subst hst
      replace hm1 := on_go hm1
      refine k_norm (L' := []) (ms' := []) rfl rfl ?_
      refine g_seq ?_
      refine g_region ?_
      refine go_p rfl rfl rfl (o_assign rfl) ?_
      refine go_nil ?_
      refine g_ret ?_
      exact retK (ret_one' rfl (ret_tmp rfl) (perm_drop _)) (congrArg (fun (p : Bool) => (.bool p : D)) (some_eq hm1))

def m_syntagmaref24_SameState (a1 : AutoState) (b1 : AutoState) : Option Bool :=
  (bif ((((((((((a1.plus == b1.plus) && (a1.all == b1.all)) && (a1.int == b1.int)) && (a1.bool == b1.bool)) && (a1.str == b1.str)) && (a1.arrow == b1.arrow)) && (a1.rec_ == b1.rec_)) && (a1.tag == b1.tag)) && (decide (a1.dom = b1.dom))) && (decide (a1.cod = b1.cod))) then ((m_syntagmabase_SameInts a1.vars b1.vars).bind fun x1 =>
  some x1) else (some false)).bind fun p1 =>
  (bif p1 then ((m_syntagmaref24_sameEdges a1.fields b1.fields).bind fun x2 =>
  some x2) else (some false)).bind fun p2 =>
  (bif p2 then ((m_syntagmaref24_sameEdges a1.tags b1.tags).bind fun x3 =>
  some x3) else (some false)).bind fun p3 =>
  some p3
theorem w_syntagmaref24_SameState {a1 : AutoState} {b1 : AutoState} {r : Bool} (hm : m_syntagmaref24_SameState a1 b1 = some r) : Fn0 Try.prog 90 [AutoState.d a1, AutoState.d b1] (.bool r) := by
  unfold m_syntagmaref24_SameState at hm
  refine fn_intro Try.func90 rfl Try.ntmps90 rfl fun H0 fr w0 => ?_
  refine g_seq ?_
  refine g_region ?_
  refine go_p rfl rfl rfl (o_box rfl rfl) ?_
  refine go_p rfl rfl rfl (o_box rfl rfl) ?_
  refine go_p rfl rfl rfl (o_assign rfl) ?_
  refine go_nil ?_
  refine g_seq ?_
  refine g_region ?_
  refine go_p rfl rfl rfl (o_fieldAddr fi_93_0 rfl rfl rfl) ?_
  refine go_p rfl rfl rfl (o_load Try.isAgg4 rfl rfl) ?_
  refine go_p rfl rfl rfl (o_fieldAddr fi_93_0 rfl rfl rfl) ?_
  refine go_p rfl rfl rfl (o_load Try.isAgg4 rfl rfl) ?_
  refine go_p rfl rfl rfl (o_cmpb Try.runUnderlying4 rfl rfl) ?_
  refine go_p rfl rfl rfl (o_move rfl) ?_
  apply go_and [(2, _), (3, _)] 6 16 (t := 10) ⟨rfl, rfl, trivial⟩ rfl
  · intro hg_1 hk1
    refine go_wantp rfl rfl rfl hg_1 rfl rfl (o_fieldAddr fi_93_1 rfl rfl rfl) ?_
    refine go_wantp rfl rfl rfl hg_1 rfl rfl (o_load Try.isAgg4 rfl rfl) ?_
    refine go_wantp rfl rfl rfl hg_1 rfl rfl (o_fieldAddr fi_93_1 rfl rfl rfl) ?_
    refine go_wantp rfl rfl rfl hg_1 rfl rfl (o_load Try.isAgg4 rfl rfl) ?_
    refine go_wantp rfl rfl rfl hg_1 rfl rfl (o_cmpb Try.runUnderlying4 rfl rfl) ?_
    refine go_p rfl rfl rfl (o_pickT rfl hg_1 rfl) ?_
    exact go_meet hk1 (rfl) ⟨rfl, rfl, trivial⟩
  · intro hg_1 hk1
    refine go_skip rfl rfl rfl hg_1 rfl rfl ?_
    refine go_skip rfl rfl rfl hg_1 rfl rfl ?_
    refine go_skip rfl rfl rfl hg_1 rfl rfl ?_
    refine go_skip rfl rfl rfl hg_1 rfl rfl ?_
    refine go_skip rfl rfl rfl hg_1 rfl rfl ?_
    refine go_p rfl rfl rfl (o_pickF rfl hg_1 rfl) ?_
    exact go_meet hk1 (rfl) ⟨rfl, rfl, trivial⟩
  refine go_p rfl rfl rfl (o_move rfl) ?_
  apply go_and [(2, _), (3, _)] 6 23 (t := 17) ⟨rfl, rfl, trivial⟩ rfl
  · intro hg_2 hk2
    refine go_wantp rfl rfl rfl hg_2 rfl rfl (o_fieldAddr fi_93_2 rfl rfl rfl) ?_
    refine go_wantp rfl rfl rfl hg_2 rfl rfl (o_load Try.isAgg4 rfl rfl) ?_
    refine go_wantp rfl rfl rfl hg_2 rfl rfl (o_fieldAddr fi_93_2 rfl rfl rfl) ?_
    refine go_wantp rfl rfl rfl hg_2 rfl rfl (o_load Try.isAgg4 rfl rfl) ?_
    refine go_wantp rfl rfl rfl hg_2 rfl rfl (o_cmpb Try.runUnderlying4 rfl rfl) ?_
    refine go_p rfl rfl rfl (o_pickT rfl hg_2 rfl) ?_
    exact go_meet hk2 (rfl) ⟨rfl, rfl, trivial⟩
  · intro hg_2 hk2
    refine go_skip rfl rfl rfl hg_2 rfl rfl ?_
    refine go_skip rfl rfl rfl hg_2 rfl rfl ?_
    refine go_skip rfl rfl rfl hg_2 rfl rfl ?_
    refine go_skip rfl rfl rfl hg_2 rfl rfl ?_
    refine go_skip rfl rfl rfl hg_2 rfl rfl ?_
    refine go_p rfl rfl rfl (o_pickF rfl hg_2 rfl) ?_
    exact go_meet hk2 (rfl) ⟨rfl, rfl, trivial⟩
  refine go_p rfl rfl rfl (o_move rfl) ?_
  apply go_and [(2, _), (3, _)] 6 30 (t := 24) ⟨rfl, rfl, trivial⟩ rfl
  · intro hg_3 hk3
    refine go_wantp rfl rfl rfl hg_3 rfl rfl (o_fieldAddr fi_93_3 rfl rfl rfl) ?_
    refine go_wantp rfl rfl rfl hg_3 rfl rfl (o_load Try.isAgg4 rfl rfl) ?_
    refine go_wantp rfl rfl rfl hg_3 rfl rfl (o_fieldAddr fi_93_3 rfl rfl rfl) ?_
    refine go_wantp rfl rfl rfl hg_3 rfl rfl (o_load Try.isAgg4 rfl rfl) ?_
    refine go_wantp rfl rfl rfl hg_3 rfl rfl (o_cmpb Try.runUnderlying4 rfl rfl) ?_
    refine go_p rfl rfl rfl (o_pickT rfl hg_3 rfl) ?_
    exact go_meet hk3 (rfl) ⟨rfl, rfl, trivial⟩
  · intro hg_3 hk3
    refine go_skip rfl rfl rfl hg_3 rfl rfl ?_
    refine go_skip rfl rfl rfl hg_3 rfl rfl ?_
    refine go_skip rfl rfl rfl hg_3 rfl rfl ?_
    refine go_skip rfl rfl rfl hg_3 rfl rfl ?_
    refine go_skip rfl rfl rfl hg_3 rfl rfl ?_
    refine go_p rfl rfl rfl (o_pickF rfl hg_3 rfl) ?_
    exact go_meet hk3 (rfl) ⟨rfl, rfl, trivial⟩
  refine go_p rfl rfl rfl (o_move rfl) ?_
  apply go_and [(2, _), (3, _)] 6 37 (t := 31) ⟨rfl, rfl, trivial⟩ rfl
  · intro hg_4 hk4
    refine go_wantp rfl rfl rfl hg_4 rfl rfl (o_fieldAddr fi_93_4 rfl rfl rfl) ?_
    refine go_wantp rfl rfl rfl hg_4 rfl rfl (o_load Try.isAgg4 rfl rfl) ?_
    refine go_wantp rfl rfl rfl hg_4 rfl rfl (o_fieldAddr fi_93_4 rfl rfl rfl) ?_
    refine go_wantp rfl rfl rfl hg_4 rfl rfl (o_load Try.isAgg4 rfl rfl) ?_
    refine go_wantp rfl rfl rfl hg_4 rfl rfl (o_cmpb Try.runUnderlying4 rfl rfl) ?_
    refine go_p rfl rfl rfl (o_pickT rfl hg_4 rfl) ?_
    exact go_meet hk4 (rfl) ⟨rfl, rfl, trivial⟩
  · intro hg_4 hk4
    refine go_skip rfl rfl rfl hg_4 rfl rfl ?_
    refine go_skip rfl rfl rfl hg_4 rfl rfl ?_
    refine go_skip rfl rfl rfl hg_4 rfl rfl ?_
    refine go_skip rfl rfl rfl hg_4 rfl rfl ?_
    refine go_skip rfl rfl rfl hg_4 rfl rfl ?_
    refine go_p rfl rfl rfl (o_pickF rfl hg_4 rfl) ?_
    exact go_meet hk4 (rfl) ⟨rfl, rfl, trivial⟩
  refine go_p rfl rfl rfl (o_move rfl) ?_
  apply go_and [(2, _), (3, _)] 6 44 (t := 38) ⟨rfl, rfl, trivial⟩ rfl
  · intro hg_5 hk5
    refine go_wantp rfl rfl rfl hg_5 rfl rfl (o_fieldAddr fi_93_5 rfl rfl rfl) ?_
    refine go_wantp rfl rfl rfl hg_5 rfl rfl (o_load Try.isAgg4 rfl rfl) ?_
    refine go_wantp rfl rfl rfl hg_5 rfl rfl (o_fieldAddr fi_93_5 rfl rfl rfl) ?_
    refine go_wantp rfl rfl rfl hg_5 rfl rfl (o_load Try.isAgg4 rfl rfl) ?_
    refine go_wantp rfl rfl rfl hg_5 rfl rfl (o_cmpb Try.runUnderlying4 rfl rfl) ?_
    refine go_p rfl rfl rfl (o_pickT rfl hg_5 rfl) ?_
    exact go_meet hk5 (rfl) ⟨rfl, rfl, trivial⟩
  · intro hg_5 hk5
    refine go_skip rfl rfl rfl hg_5 rfl rfl ?_
    refine go_skip rfl rfl rfl hg_5 rfl rfl ?_
    refine go_skip rfl rfl rfl hg_5 rfl rfl ?_
    refine go_skip rfl rfl rfl hg_5 rfl rfl ?_
    refine go_skip rfl rfl rfl hg_5 rfl rfl ?_
    refine go_p rfl rfl rfl (o_pickF rfl hg_5 rfl) ?_
    exact go_meet hk5 (rfl) ⟨rfl, rfl, trivial⟩
  refine go_p rfl rfl rfl (o_move rfl) ?_
  apply go_and [(2, _), (3, _)] 6 51 (t := 45) ⟨rfl, rfl, trivial⟩ rfl
  · intro hg_6 hk6
    refine go_wantp rfl rfl rfl hg_6 rfl rfl (o_fieldAddr fi_93_6 rfl rfl rfl) ?_
    refine go_wantp rfl rfl rfl hg_6 rfl rfl (o_load Try.isAgg4 rfl rfl) ?_
    refine go_wantp rfl rfl rfl hg_6 rfl rfl (o_fieldAddr fi_93_6 rfl rfl rfl) ?_
    refine go_wantp rfl rfl rfl hg_6 rfl rfl (o_load Try.isAgg4 rfl rfl) ?_
    refine go_wantp rfl rfl rfl hg_6 rfl rfl (o_cmpb Try.runUnderlying4 rfl rfl) ?_
    refine go_p rfl rfl rfl (o_pickT rfl hg_6 rfl) ?_
    exact go_meet hk6 (rfl) ⟨rfl, rfl, trivial⟩
  · intro hg_6 hk6
    refine go_skip rfl rfl rfl hg_6 rfl rfl ?_
    refine go_skip rfl rfl rfl hg_6 rfl rfl ?_
    refine go_skip rfl rfl rfl hg_6 rfl rfl ?_
    refine go_skip rfl rfl rfl hg_6 rfl rfl ?_
    refine go_skip rfl rfl rfl hg_6 rfl rfl ?_
    refine go_p rfl rfl rfl (o_pickF rfl hg_6 rfl) ?_
    exact go_meet hk6 (rfl) ⟨rfl, rfl, trivial⟩
  refine go_p rfl rfl rfl (o_move rfl) ?_
  apply go_and [(2, _), (3, _)] 6 58 (t := 52) ⟨rfl, rfl, trivial⟩ rfl
  · intro hg_7 hk7
    refine go_wantp rfl rfl rfl hg_7 rfl rfl (o_fieldAddr fi_93_7 rfl rfl rfl) ?_
    refine go_wantp rfl rfl rfl hg_7 rfl rfl (o_load Try.isAgg4 rfl rfl) ?_
    refine go_wantp rfl rfl rfl hg_7 rfl rfl (o_fieldAddr fi_93_7 rfl rfl rfl) ?_
    refine go_wantp rfl rfl rfl hg_7 rfl rfl (o_load Try.isAgg4 rfl rfl) ?_
    refine go_wantp rfl rfl rfl hg_7 rfl rfl (o_cmpb Try.runUnderlying4 rfl rfl) ?_
    refine go_p rfl rfl rfl (o_pickT rfl hg_7 rfl) ?_
    exact go_meet hk7 (rfl) ⟨rfl, rfl, trivial⟩
  · intro hg_7 hk7
    refine go_skip rfl rfl rfl hg_7 rfl rfl ?_
    refine go_skip rfl rfl rfl hg_7 rfl rfl ?_
    refine go_skip rfl rfl rfl hg_7 rfl rfl ?_
    refine go_skip rfl rfl rfl hg_7 rfl rfl ?_
    refine go_skip rfl rfl rfl hg_7 rfl rfl ?_
    refine go_p rfl rfl rfl (o_pickF rfl hg_7 rfl) ?_
    exact go_meet hk7 (rfl) ⟨rfl, rfl, trivial⟩
  refine go_p rfl rfl rfl (o_move rfl) ?_
  apply go_and [(2, _), (3, _)] 6 65 (t := 59) ⟨rfl, rfl, trivial⟩ rfl
  · intro hg_8 hk8
    refine go_wantp rfl rfl rfl hg_8 rfl rfl (o_fieldAddr fi_93_9 rfl rfl rfl) ?_
    refine go_wantp rfl rfl rfl hg_8 rfl rfl (o_load Try.isAgg3 rfl rfl) ?_
    refine go_wantp rfl rfl rfl hg_8 rfl rfl (o_fieldAddr fi_93_9 rfl rfl rfl) ?_
    refine go_wantp rfl rfl rfl hg_8 rfl rfl (o_load Try.isAgg3 rfl rfl) ?_
    refine go_wantp rfl rfl rfl hg_8 rfl rfl (o_cmp rfl rfl rfl) ?_
    refine go_p rfl rfl rfl (o_pickT rfl hg_8 rfl) ?_
    exact go_meet hk8 (rfl) ⟨rfl, rfl, trivial⟩
  · intro hg_8 hk8
    refine go_skip rfl rfl rfl hg_8 rfl rfl ?_
    refine go_skip rfl rfl rfl hg_8 rfl rfl ?_
    refine go_skip rfl rfl rfl hg_8 rfl rfl ?_
    refine go_skip rfl rfl rfl hg_8 rfl rfl ?_
    refine go_skip rfl rfl rfl hg_8 rfl rfl ?_
    refine go_p rfl rfl rfl (o_pickF rfl hg_8 rfl) ?_
    exact go_meet hk8 (rfl) ⟨rfl, rfl, trivial⟩
  refine go_p rfl rfl rfl (o_move rfl) ?_
  apply go_and [(2, _), (3, _)] 6 72 (t := 66) ⟨rfl, rfl, trivial⟩ rfl
  · intro hg_9 hk9
    refine go_wantp rfl rfl rfl hg_9 rfl rfl (o_fieldAddr fi_93_10 rfl rfl rfl) ?_
    refine go_wantp rfl rfl rfl hg_9 rfl rfl (o_load Try.isAgg3 rfl rfl) ?_
    refine go_wantp rfl rfl rfl hg_9 rfl rfl (o_fieldAddr fi_93_10 rfl rfl rfl) ?_
    refine go_wantp rfl rfl rfl hg_9 rfl rfl (o_load Try.isAgg3 rfl rfl) ?_
    refine go_wantp rfl rfl rfl hg_9 rfl rfl (o_cmp rfl rfl rfl) ?_
    refine go_p rfl rfl rfl (o_pickT rfl hg_9 rfl) ?_
    exact go_meet hk9 (rfl) ⟨rfl, rfl, trivial⟩
  · intro hg_9 hk9
    refine go_skip rfl rfl rfl hg_9 rfl rfl ?_
    refine go_skip rfl rfl rfl hg_9 rfl rfl ?_
    refine go_skip rfl rfl rfl hg_9 rfl rfl ?_
    refine go_skip rfl rfl rfl hg_9 rfl rfl ?_
    refine go_skip rfl rfl rfl hg_9 rfl rfl ?_
    refine go_p rfl rfl rfl (o_pickF rfl hg_9 rfl) ?_
    exact go_meet hk9 (rfl) ⟨rfl, rfl, trivial⟩
  refine go_p rfl rfl rfl (o_move rfl) ?_
  obtain ⟨p1, hp_10, hm⟩ := bind_some hm
  refine go_two [(2, _), (3, _)] 6 79 p1 (t := 73) ⟨rfl, rfl, trivial⟩ rfl (fun hg_10 hk10 => ?_) (fun hg_10 hk10 => ?_) ?_
  · replace hp_10 := cond_t hg_10 hp_10
    refine go_wantp rfl rfl rfl hg_10 rfl rfl (o_fieldAddr fi_93_8 rfl rfl rfl) ?_
    refine go_wantp rfl rfl rfl hg_10 rfl rfl (o_load Try.isAgg47 rfl rfl) ?_
    refine go_wantp rfl rfl rfl hg_10 rfl rfl (o_fieldAddr fi_93_8 rfl rfl rfl) ?_
    refine go_wantp rfl rfl rfl hg_10 rfl rfl (o_load Try.isAgg47 rfl rfl) ?_
    obtain ⟨x1, hx1, hp_10⟩ := bind_some hp_10
    refine go_wantp rfl rfl rfl hg_10 rfl rfl (o_call0 Try.call28 rfl (w_syntagmabase_SameInts hx1)) ?_
    refine go_p rfl rfl rfl (o_pickT rfl hg_10 rfl) ?_
    exact go_meet hk10 (congrArg (fun b => some (D.bool b)) (some_eq hp_10)) ⟨rfl, rfl, trivial⟩
  · replace hp_10 := cond_f hg_10 hp_10
    refine go_skip rfl rfl rfl hg_10 rfl rfl ?_
    refine go_skip rfl rfl rfl hg_10 rfl rfl ?_
    refine go_skip rfl rfl rfl hg_10 rfl rfl ?_
    refine go_skip rfl rfl rfl hg_10 rfl rfl ?_
    refine go_skip rfl rfl rfl hg_10 rfl rfl ?_
    refine go_p rfl rfl rfl (o_pickF rfl hg_10 rfl) ?_
    exact go_meet hk10 (congrArg (fun b => some (D.bool b)) (some_eq hp_10)) ⟨rfl, rfl, trivial⟩
  refine go_p rfl rfl rfl (o_move rfl) ?_
  obtain ⟨p2, hp_11, hm⟩ := bind_some hm
  refine go_two [(2, _), (3, _)] 6 86 p2 (t := 80) ⟨rfl, rfl, trivial⟩ rfl (fun hg_11 hk11 => ?_) (fun hg_11 hk11 => ?_) ?_
  · replace hp_11 := cond_t hg_11 hp_11
    refine go_wantp rfl rfl rfl hg_11 rfl rfl (o_fieldAddr fi_93_11 rfl rfl rfl) ?_
    refine go_wantp rfl rfl rfl hg_11 rfl rfl (o_load Try.isAgg91 rfl rfl) ?_
    refine go_wantp rfl rfl rfl hg_11 rfl rfl (o_fieldAddr fi_93_11 rfl rfl rfl) ?_
    refine go_wantp rfl rfl rfl hg_11 rfl rfl (o_load Try.isAgg91 rfl rfl) ?_
    obtain ⟨x2, hx2, hp_11⟩ := bind_some hp_11
    refine go_wantp rfl rfl rfl hg_11 rfl rfl (o_call0 Try.call122 rfl (w_syntagmaref24_sameEdges hx2)) ?_
    refine go_p rfl rfl rfl (o_pickT rfl hg_11 rfl) ?_
    exact go_meet hk11 (congrArg (fun b => some (D.bool b)) (some_eq hp_11)) ⟨rfl, rfl, trivial⟩
  · replace hp_11 := cond_f hg_11 hp_11
    refine go_skip rfl rfl rfl hg_11 rfl rfl ?_
    refine go_skip rfl rfl rfl hg_11 rfl rfl ?_
    refine go_skip rfl rfl rfl hg_11 rfl rfl ?_
    refine go_skip rfl rfl rfl hg_11 rfl rfl ?_
    refine go_skip rfl rfl rfl hg_11 rfl rfl ?_
    refine go_p rfl rfl rfl (o_pickF rfl hg_11 rfl) ?_
    exact go_meet hk11 (congrArg (fun b => some (D.bool b)) (some_eq hp_11)) ⟨rfl, rfl, trivial⟩
  refine go_p rfl rfl rfl (o_move rfl) ?_
  obtain ⟨p3, hp_12, hm⟩ := bind_some hm
  refine go_two [] 6 93 p3 (t := 87) trivial rfl (fun hg_12 hk12 => ?_) (fun hg_12 hk12 => ?_) ?_
  · replace hp_12 := cond_t hg_12 hp_12
    refine go_wantp rfl rfl rfl hg_12 rfl rfl (o_fieldAddr fi_93_12 rfl rfl rfl) ?_
    refine go_wantp rfl rfl rfl hg_12 rfl rfl (o_load Try.isAgg91 rfl rfl) ?_
    refine go_wantp rfl rfl rfl hg_12 rfl rfl (o_fieldAddr fi_93_12 rfl rfl rfl) ?_
    refine go_wantp rfl rfl rfl hg_12 rfl rfl (o_load Try.isAgg91 rfl rfl) ?_
    obtain ⟨x3, hx3, hp_12⟩ := bind_some hp_12
    refine go_wantp rfl rfl rfl hg_12 rfl rfl (o_call0 Try.call122 rfl (w_syntagmaref24_sameEdges hx3)) ?_
    refine go_p rfl rfl rfl (o_pickT rfl hg_12 rfl) ?_
    exact go_meet hk12 (congrArg (fun b => some (D.bool b)) (some_eq hp_12)) trivial
  · replace hp_12 := cond_f hg_12 hp_12
    refine go_skip rfl rfl rfl hg_12 rfl rfl ?_
    refine go_skip rfl rfl rfl hg_12 rfl rfl ?_
    refine go_skip rfl rfl rfl hg_12 rfl rfl ?_
    refine go_skip rfl rfl rfl hg_12 rfl rfl ?_
    refine go_skip rfl rfl rfl hg_12 rfl rfl ?_
    refine go_p rfl rfl rfl (o_pickF rfl hg_12 rfl) ?_
    exact go_meet hk12 (congrArg (fun b => some (D.bool b)) (some_eq hp_12)) trivial
  refine go_p rfl rfl rfl (o_assign rfl) ?_
  refine go_nil ?_
  refine g_ret ?_
  exact retK (ret_one' rfl (ret_tmp rfl) (perm_drop _)) (congrArg (fun (p : Bool) => (.bool p : D)) (some_eq hm))

def m_syntagmaref24_SameList_l1 (a1 : AutoAuto) (b1 : AutoAuto) : Nat → Int → Option (Out Bool Unit)
  | 0, _ => none
  | n + 1, i1 =>
    bif (decide (i1 < (a1.l.length : Int))) then
      (idx a1.l i1).bind fun x1 =>
      (idx b1.l i1).bind fun x2 =>
      (m_syntagmaref24_SameState x1 x2).bind fun x3 =>
      bif (!x3) then
        some (Out.ret false)
      else
        grd (InR (i1 + 1)) <|
        m_syntagmaref24_SameList_l1 a1 b1 n (i1 + 1)
    else
      some (Out.go (()))
def m_syntagmaref24_SameList (a1 : AutoAuto) (b1 : AutoAuto) : Option Bool :=
  bif ((!decide ((a1.l.length : Int) = (b1.l.length : Int))) || (!decide (a1.start = b1.start))) then
    some false
  else
    ((m_syntagmaref24_SameList_l1 a1 b1 FU 0 : Option (Out Bool Unit))).bind (fun oo => oo.on (fun r1 => some r1) (fun _ =>
    some true))
theorem w_syntagmaref24_SameList {a1 : AutoAuto} {b1 : AutoAuto} {r : Bool} (hm : m_syntagmaref24_SameList a1 b1 = some r) : Fn0 Try.prog 55 [AutoAuto.d a1, AutoAuto.d b1] (.bool r) := by
  unfold m_syntagmaref24_SameList at hm
  refine fn_intro Try.func55 rfl Try.ntmps55 rfl fun H0 fr w0 => ?_
  refine g_seq ?_
  refine g_region ?_
  refine go_p rfl rfl rfl (o_box rfl rfl) ?_
  refine go_p rfl rfl rfl (o_box rfl rfl) ?_
  refine go_p rfl rfl rfl (o_assign rfl) ?_
  refine go_nil ?_
  refine g_seq ?_
  refine g_seq ?_
  refine g_region ?_
  refine go_p rfl rfl rfl (o_fieldAddr fi_78_0 rfl rfl rfl) ?_
  refine go_p rfl rfl rfl (o_load Try.isAgg76 rfl rfl) ?_
  refine go_p rfl rfl rfl (o_len Try.runUnderlying76 rfl) ?_
  refine go_p rfl rfl rfl (o_fieldAddr fi_78_0 rfl rfl rfl) ?_
  refine go_p rfl rfl rfl (o_load Try.isAgg76 rfl rfl) ?_
  refine go_p rfl rfl rfl (o_len Try.runUnderlying76 rfl) ?_
  refine go_p rfl rfl rfl (o_cmp rfl rfl rfl) ?_
  refine go_p rfl rfl rfl (o_move rfl) ?_
  apply go_or [(2, _), (3, _)] 6 19 (t := 13) ⟨rfl, rfl, trivial⟩ rfl
  · intro hg_1 hk1
    refine go_wantp rfl rfl rfl hg_1 rfl rfl (o_fieldAddr fi_78_1 rfl rfl rfl) ?_
    refine go_wantp rfl rfl rfl hg_1 rfl rfl (o_load Try.isAgg3 rfl rfl) ?_
    refine go_wantp rfl rfl rfl hg_1 rfl rfl (o_fieldAddr fi_78_1 rfl rfl rfl) ?_
    refine go_wantp rfl rfl rfl hg_1 rfl rfl (o_load Try.isAgg3 rfl rfl) ?_
    refine go_wantp rfl rfl rfl hg_1 rfl rfl (o_cmp rfl rfl rfl) ?_
    refine go_p rfl rfl rfl (o_pickF rfl hg_1 rfl) ?_
    exact go_meet hk1 (rfl) ⟨rfl, rfl, trivial⟩
  · intro hg_1 hk1
    refine go_skip rfl rfl rfl hg_1 rfl rfl ?_
    refine go_skip rfl rfl rfl hg_1 rfl rfl ?_
    refine go_skip rfl rfl rfl hg_1 rfl rfl ?_
    refine go_skip rfl rfl rfl hg_1 rfl rfl ?_
    refine go_skip rfl rfl rfl hg_1 rfl rfl ?_
    refine go_p rfl rfl rfl (o_pickT rfl hg_1 rfl) ?_
    exact go_meet hk1 (rfl) ⟨rfl, rfl, trivial⟩
  refine go_nil ?_
  refine g_cond rfl (fun hc1 => ?_) (fun hc1 => ?_)
  · replace hm := cond_t hc1 hm
    refine g_seq ?_
    refine g_region ?_
    refine go_p rfl rfl rfl (o_assign rfl) ?_
    refine go_nil ?_
    refine g_ret ?_
    exact retK (ret_one' rfl (ret_tmp rfl) (perm_drop _)) (congrArg (fun (p : Bool) => (.bool p : D)) (some_eq hm))
  · replace hm := cond_f hc1 hm
    refine g_skip ?_
    refine g_seq ?_
    refine g_seq ?_
    refine g_region ?_
    refine go_p rfl rfl rfl (o_assign rfl) ?_
    refine go_nil ?_
    obtain ⟨o_1, hj1, hm1⟩ := bind_some hm
    refine g_cut_m [] [] (fun (st : Unit) (hid : Unit) => match st, hid with | _, _ => []) (fun F (st : Unit) (hid : Unit) => match st, hid with | _, _ => []) (fun st => Out.go (st) = o_1) trivial trivial ?_ ?_
    · skip
      refine g_block ?_
      refine g_loop_m [(2, _), (3, _)] [] (fun (st : Int) (hid : Unit) => match st, hid with | i1, _ => [(5, .i64 i1)]) (fun F (st : Int) (hid : Unit) => match st, hid with | i1, _ => []) () hj1 (fun _ => rfl) ⟨rfl, rfl, trivial⟩ trivial ⟨rfl, trivial⟩ rfl ?_
      rintro n i1 _ hj1
      rw [m_syntagmaref24_SameList_l1] at hj1
      refine g_norm (L' := [(5, .i64 i1), (2, _), (3, _)]) (ms' := []) rfl rfl ?_
      refine g_seq ?_
      refine g_seq ?_
      refine g_region ?_
      refine go_p rfl rfl rfl (o_move rfl) ?_
      refine go_p rfl rfl rfl (o_fieldAddr fi_78_0 rfl rfl rfl) ?_
      refine go_p rfl rfl rfl (o_load Try.isAgg76 rfl rfl) ?_
      refine go_p rfl rfl rfl (o_len Try.runUnderlying76 rfl) ?_
      refine go_p rfl rfl rfl (o_cmp rfl rfl rfl) ?_
      refine go_nil ?_
      refine g_cond rfl (fun hc2 => ?_) (fun hc2 => ?_)
      · replace hj1 := cond_t hc2 hj1
        refine g_skip ?_
        refine g_seq ?_
        refine g_block ?_
        refine g_seq ?_
        obtain ⟨x1, hx1, hj1⟩ := bind_some hj1
        obtain ⟨x2, hx2, hj1⟩ := bind_some hj1
        obtain ⟨x3, hx3, hj1⟩ := bind_some hj1
        refine g_draw 12 Try_mixed (by decide +kernel) ?_
        refine gd_p rfl rfl rfl (o_fieldAddr fi_78_0 rfl rfl rfl) ?_
        refine gd_p rfl rfl rfl (o_load Try.isAgg76 rfl rfl) ?_
        refine gd_p rfl rfl rfl (o_move rfl) ?_
        refine gd_p rfl rfl rfl (o_indexAddr_m Try.runUnderlying76 Try.sizeOf93 rfl rfl hx1) ?_
        refine gd_p rfl rfl rfl (o_load_agg Try.isAgg93 Try.sizeOf93 rfl rfl) ?_
        refine gd_p rfl rfl rfl (o_fieldAddr fi_78_0 rfl rfl rfl) ?_
        refine gd_p rfl rfl rfl (o_load Try.isAgg76 rfl rfl) ?_
        refine gd_p rfl rfl rfl (o_move rfl) ?_
        refine gd_p rfl rfl rfl (o_indexAddr_m Try.runUnderlying76 Try.sizeOf93 rfl rfl hx2) ?_
        refine gd_p rfl rfl rfl (o_load_agg Try.isAgg93 Try.sizeOf93 rfl rfl) ?_
        refine gd_p rfl rfl rfl (o_call0 Try.call90 rfl (w_syntagmaref24_SameState hx3)) ?_
        refine gd_p rfl rfl rfl (o_not rfl) ?_
        refine gd_nil ?_
        refine go_nil ?_
        refine g_cond rfl (fun hc3 => ?_) (fun hc3 => ?_)
        · replace hj1 := cond_t hc3 hj1
          refine g_seq ?_
          refine g_region ?_
          refine go_p rfl rfl rfl (o_assign rfl) ?_
          refine go_nil ?_
          refine g_ret ?_
          obtain rfl := some_eq hj1
          replace hm1 := on_ret hm1
          exact retK (ret_one' rfl (ret_tmp rfl) (perm_drop _)) (congrArg (fun (p : Bool) => (.bool p : D)) (some_eq hm1))
        · replace hj1 := cond_f hc3 hj1
          refine g_skip ?_
          refine g_region ?_
          refine go_p rfl rfl rfl (o_move rfl) ?_
          obtain ⟨hg4, hj1⟩ := grd_some hj1
          refine go_p rfl rfl rfl (o_add rfl rfl (i64_id hg4)) ?_
          refine go_p rfl rfl rfl (o_assign rfl) ?_
          refine go_nil ?_
          exact ⟨_, (), hj1, ⟨rfl, trivial⟩, ⟨rfl, rfl, trivial⟩, [], rfl⟩
      · replace hj1 := cond_f hc2 hj1
        refine g_exit ?_
        exact ⟨_, (), some_eq hj1, trivial, trivial, [], rfl⟩
    · rintro _ _ hst
      subst hst
      replace hm1 := on_go hm1
      refine k_norm (L' := []) (ms' := []) rfl rfl ?_
      refine g_seq ?_
      refine g_region ?_
      refine go_p rfl rfl rfl (o_assign rfl) ?_
      refine go_nil ?_
      refine g_ret ?_
      exact retK (ret_one' rfl (ret_tmp rfl) (perm_drop _)) (congrArg (fun (p : Bool) => (.bool p : D)) (some_eq hm1))

def m_syntagmabase_HasInt_l1 (l1 : (List Int)) (n1 : Int) : Nat → Int → Option (Out Bool Unit)
  | 0, _ => none
  | n + 1, i1 =>
    bif (decide (i1 < (l1.length : Int))) then
      (idx l1 i1).bind fun x1 =>
      bif (decide (x1 = n1)) then
        some (Out.ret true)
      else
        grd (InR (i1 + 1)) <|
        m_syntagmabase_HasInt_l1 l1 n1 n (i1 + 1)
    else
      some (Out.go (()))
def m_syntagmabase_HasInt (l1 : (List Int)) (n1 : Int) : Option Bool :=
  ((m_syntagmabase_HasInt_l1 l1 n1 FU 0 : Option (Out Bool Unit))).bind (fun oo => oo.on (fun r1 => some r1) (fun _ =>
  some false))
theorem w_syntagmabase_HasInt {l1 : (List Int)} {n1 : Int} {r : Bool} (hm : m_syntagmabase_HasInt l1 n1 = some r) : Fn0 Try.prog 91 [.list 1 D.i64 l1, .i64 n1] (.bool r) := by
  unfold m_syntagmabase_HasInt at hm
  refine fn_intro Try.func91 rfl Try.ntmps91 rfl fun H0 fr w0 => ?_
  refine g_seq ?_
  refine g_region ?_
  refine go_p rfl rfl rfl (o_assign rfl) ?_
  refine go_nil ?_
  refine g_seq ?_
  refine g_seq ?_
  refine g_region ?_
  refine go_p rfl rfl rfl (o_assign rfl) ?_
  refine go_nil ?_
  obtain ⟨o_1, hj1, hm1⟩ := bind_some hm
  refine g_cut_m [] [] (fun (st : Unit) (hid : Unit) => match st, hid with | _, _ => []) (fun F (st : Unit) (hid : Unit) => match st, hid with | _, _ => []) (fun st => Out.go (st) = o_1) trivial trivial ?_ ?_
  · skip
    refine g_block ?_
    refine g_loop_m [(0, _), (1, _)] [] (fun (st : Int) (hid : Unit) => match st, hid with | i1, _ => [(5, .i64 i1)]) (fun F (st : Int) (hid : Unit) => match st, hid with | i1, _ => []) () hj1 (fun _ => rfl) ⟨rfl, rfl, trivial⟩ trivial ⟨rfl, trivial⟩ rfl ?_
    rintro n i1 _ hj1
    rw [m_syntagmabase_HasInt_l1] at hj1
    refine g_norm (L' := [(5, .i64 i1), (0, _), (1, _)]) (ms' := []) rfl rfl ?_
    refine g_seq ?_
    refine g_seq ?_
    refine g_region ?_
    refine go_p rfl rfl rfl (o_move rfl) ?_
    refine go_p rfl rfl rfl (o_move rfl) ?_
    refine go_p rfl rfl rfl (o_len Try.runUnderlying47 rfl) ?_
    refine go_p rfl rfl rfl (o_cmp rfl rfl rfl) ?_
    refine go_nil ?_
    refine g_cond rfl (fun hc1 => ?_) (fun hc1 => ?_)
    · replace hj1 := cond_t hc1 hj1
      refine g_skip ?_
      refine g_seq ?_
      refine g_block ?_
      refine g_seq ?_
      refine g_region ?_
      refine go_p rfl rfl rfl (o_move rfl) ?_
      refine go_p rfl rfl rfl (o_move rfl) ?_
      obtain ⟨x1, hx1, hj1⟩ := bind_some hj1
      refine go_p rfl rfl rfl (o_indexAddr_m Try.runUnderlying47 Try.sizeOf3 rfl rfl hx1) ?_
      refine go_p rfl rfl rfl (o_load Try.isAgg3 rfl rfl) ?_
      refine go_p rfl rfl rfl (o_move rfl) ?_
      refine go_p rfl rfl rfl (o_cmp rfl rfl rfl) ?_
      refine go_nil ?_
      refine g_cond rfl (fun hc2 => ?_) (fun hc2 => ?_)
      · replace hj1 := cond_t hc2 hj1
        refine g_seq ?_
        refine g_region ?_
        refine go_p rfl rfl rfl (o_assign rfl) ?_
        refine go_nil ?_
        refine g_ret ?_
        obtain rfl := some_eq hj1
        replace hm1 := on_ret hm1
        exact retK (ret_one' rfl (ret_tmp rfl) (perm_drop _)) (congrArg (fun (p : Bool) => (.bool p : D)) (some_eq hm1))
      · replace hj1 := cond_f hc2 hj1
        refine g_skip ?_
        refine g_region ?_
        refine go_p rfl rfl rfl (o_move rfl) ?_
        obtain ⟨hg2, hj1⟩ := grd_some hj1
        refine go_p rfl rfl rfl (o_add rfl rfl (i64_id hg2)) ?_
        refine go_p rfl rfl rfl (o_assign rfl) ?_
        refine go_nil ?_
        exact ⟨_, (), hj1, ⟨rfl, trivial⟩, ⟨rfl, rfl, trivial⟩, [], rfl⟩
    · replace hj1 := cond_f hc1 hj1
      refine g_exit ?_
      exact ⟨_, (), some_eq hj1, trivial, trivial, [], rfl⟩
  · rintro _ _ hst
    subst hst
    replace hm1 := on_go hm1
    refine k_norm (L' := []) (ms' := []) rfl rfl ?_
    refine g_seq ?_
    refine g_region ?_
    refine go_p rfl rfl rfl (o_assign rfl) ?_
    refine go_nil ?_
    refine g_ret ?_
    exact retK (ret_one' rfl (ret_tmp rfl) (perm_drop _)) (congrArg (fun (p : Bool) => (.bool p : D)) (some_eq hm1))

def m_syntagmaref24_Moved_l1 (s1 : AutoState) (to1 : (List Int)) : Nat → (Int × (List AutoEdge) × (List AutoEdge) × Bool × Bool × Bool × Bool × Bool × Bool × Bool × Bool × (List Int) × Int × Int) → Option ((List AutoEdge) × (List AutoEdge) × Bool × Bool × Bool × Bool × Bool × Bool × Bool × Bool × (List Int) × Int × Int)
  | 0, _ => none
  | n + 1, (i1, l3, l4, z25, z26, z27, z28, z29, z30, z31, z32, z33, z34, z35) =>
    bif (decide (i1 < (s1.fields.length : Int))) then
      (idx s1.fields i1).bind fun x3 =>
      (idx s1.fields i1).bind fun x4 =>
      (idx to1 x4.to_).bind fun x5 =>
      grd ((l4.length + ([(⟨x3.name, x5⟩ : AutoEdge)] : List _).length) * 24 ≤ 140737488355328) <|
      grd (InR (i1 + 1)) <|
      m_syntagmaref24_Moved_l1 s1 to1 n ((i1 + 1), l3, (l4 ++ [(⟨x3.name, x5⟩ : AutoEdge)]), z25, z26, z27, z28, z29, z30, z31, z32, z33, z34, z35)
    else
      some (l3, l4, z25, z26, z27, z28, z29, z30, z31, z32, z33, z34, z35)

def m_syntagmaref24_Moved_l2 (s1 : AutoState) (to1 : (List Int)) : Nat → (Int × (List AutoEdge) × (List AutoEdge) × Bool × Bool × Bool × Bool × Bool × Bool × Bool × Bool × (List Int) × Int × Int) → Option ((List AutoEdge) × (List AutoEdge) × Bool × Bool × Bool × Bool × Bool × Bool × Bool × Bool × (List Int) × Int × Int)
  | 0, _ => none
  | n + 1, (i2, l7, l8, z47, z48, z49, z50, z51, z52, z53, z54, z55, z56, z57) =>
    bif (decide (i2 < (s1.tags.length : Int))) then
      (idx s1.tags i2).bind fun x6 =>
      (idx s1.tags i2).bind fun x7 =>
      (idx to1 x7.to_).bind fun x8 =>
      grd ((l7.length + ([(⟨x6.name, x8⟩ : AutoEdge)] : List _).length) * 24 ≤ 140737488355328) <|
      grd (InR (i2 + 1)) <|
      m_syntagmaref24_Moved_l2 s1 to1 n ((i2 + 1), (l7 ++ [(⟨x6.name, x8⟩ : AutoEdge)]), l8, z47, z48, z49, z50, z51, z52, z53, z54, z55, z56, z57)
    else
      some (l7, l8, z47, z48, z49, z50, z51, z52, z53, z54, z55, z56, z57)
def m_syntagmaref24_Moved (s1 : AutoState) (to1 : (List Int)) : Option AutoState :=
  (bif s1.arrow then
    (idx to1 s1.dom).bind fun x1 =>
    (idx to1 s1.cod).bind fun x2 =>
    some (s1.plus, s1.all, s1.int, s1.bool, s1.str, s1.arrow, s1.rec_, s1.tag, s1.vars, x1, x2, s1.fields, s1.tags)
  else
    some (s1.plus, s1.all, s1.int, s1.bool, s1.str, s1.arrow, s1.rec_, s1.tag, s1.vars, s1.dom, s1.cod, s1.fields, s1.tags) : Option (Bool × Bool × Bool × Bool × Bool × Bool × Bool × Bool × (List Int) × Int × Int × (List AutoEdge) × (List AutoEdge))).bind fun (z1, z2, z3, z4, z5, z6, z7, z8, z9, z10, z11, z12, z13) =>
  (m_syntagmaref24_Moved_l1 s1 to1 FU (0, ([] : List AutoEdge), ([] : List AutoEdge), z1, z2, z3, z4, z5, z6, z7, z8, z9, z10, z11) : Option ((List AutoEdge) × (List AutoEdge) × Bool × Bool × Bool × Bool × Bool × Bool × Bool × Bool × (List Int) × Int × Int)).bind fun (l1, l2, z14, z15, z16, z17, z18, z19, z20, z21, z22, z23, z24) =>
  (m_syntagmaref24_Moved_l2 s1 to1 FU (0, l1, l2, z14, z15, z16, z17, z18, z19, z20, z21, z22, z23, z24) : Option ((List AutoEdge) × (List AutoEdge) × Bool × Bool × Bool × Bool × Bool × Bool × Bool × Bool × (List Int) × Int × Int)).bind fun (l5, l6, z36, z37, z38, z39, z40, z41, z42, z43, z44, z45, z46) =>
  some (⟨z36, z37, z38, z39, z40, z41, z42, z43, z44, z45, z46, l6, l5⟩ : AutoState)
theorem w_syntagmaref24_Moved {s1 : AutoState} {to1 : (List Int)} {r : AutoState} (hm : m_syntagmaref24_Moved s1 to1 = some r) : Fn0 Try.prog 92 [AutoState.d s1, .list 1 D.i64 to1] (AutoState.d r) := by
  unfold m_syntagmaref24_Moved at hm
  refine fn_intro Try.func92 rfl Try.ntmps92 rfl fun H0 fr w0 => ?_
  refine g_seq ?_
  refine g_region ?_
  refine go_p rfl rfl rfl (o_box rfl rfl) ?_
  refine go_op rfl rfl rfl (o_alloc_own Try.zeroValue93 (cs := [.bool false, .bool false, .bool false, .bool false, .bool false, .bool false, .bool false, .bool false, .list 1 D.i64 [], .i64 0, .i64 0, .list 2 AutoEdge.d [], .list 2 AutoEdge.d []]) rfl) ?_
  rintro _ _ ⟨b1, rfl, rfl⟩
  refine go_nil ?_
  refine g_seq ?_
  refine g_region ?_
  refine go_p rfl rfl rfl (o_load_agg Try.isAgg93 Try.sizeOf93 rfl rfl) ?_
  refine go_op rfl rfl rfl (o_alloc_own Try.zeroValue93 (cs := [.bool false, .bool false, .bool false, .bool false, .bool false, .bool false, .bool false, .bool false, .list 1 D.i64 [], .i64 0, .i64 0, .list 2 AutoEdge.d [], .list 2 AutoEdge.d []]) rfl) ?_
  rintro _ _ ⟨b2, rfl, rfl⟩
  refine go_u rfl rfl (o_store_box 0 Try.sizeOf93 rfl rfl rfl rfl rfl rfl rfl rfl (Nat.le_of_ble_eq_true rfl)) ?_
  rintro _ _ rfl
  refine go_ms (ms' := [box b2 93 [_, _, _, _, _, _, _, _, _, _, _, _, _], box b1 93 [_, _, _, _, _, _, _, _, _, _, _, _, _]]) rfl ?_
  refine go_nil ?_
  refine g_seq ?_
  refine g_seq ?_
  refine g_region ?_
  refine go_p rfl rfl rfl (o_fieldAddr fi_93_5 rfl rfl rfl) ?_
  refine go_p rfl rfl rfl (o_load Try.isAgg4 rfl rfl) ?_
  refine go_nil ?_
  obtain ⟨o_1, hj1, hm1⟩ := bind_some hm
  refine g_cut_m [(1, _), (2, _), (4, _), (5, _)] [(1, _)] (fun (st : (Bool × Bool × Bool × Bool × Bool × Bool × Bool × Bool × (List Int) × Int × Int × (List AutoEdge) × (List AutoEdge))) (hid : Unit) => match st, hid with | (z1, z2, z3, z4, z5, z6, z7, z8, z9, z10, z11, z12, z13), _ => []) (fun F (st : (Bool × Bool × Bool × Bool × Bool × Bool × Bool × Bool × (List Int) × Int × Int × (List AutoEdge) × (List AutoEdge))) (hid : Unit) => match st, hid with | (z1, z2, z3, z4, z5, z6, z7, z8, z9, z10, z11, z12, z13), _ => [box b2 93 [.bool z1, .bool z2, .bool z3, .bool z4, .bool z5, .bool z6, .bool z7, .bool z8, .list 1 D.i64 z9, .i64 z10, .i64 z11, .list 2 AutoEdge.d z12, .list 2 AutoEdge.d z13], (nthF F 0)]) (fun st => st = o_1) ⟨rfl, rfl, rfl, rfl, trivial⟩ ⟨rfl, trivial⟩ ?_ ?_
  · skip
    refine g_cond rfl (fun hc1 => ?_) (fun hc1 => ?_)
    · replace hj1 := cond_t hc1 hj1
      obtain ⟨x1, hx1, hj1⟩ := bind_some hj1
      obtain ⟨x2, hx2, hj1⟩ := bind_some hj1
      refine g_draw_c [11, 13] [5, 6, 7, 8, 9, 12] [] Try_mixed (by decide +kernel) (by decide +kernel) rfl ?_
      refine gde_p rfl rfl rfl rfl rfl rfl (o_move rfl) ?_
      refine gde_p rfl rfl rfl rfl rfl rfl (o_fieldAddr fi_93_9 rfl rfl rfl) ?_
      refine gde_p rfl rfl rfl rfl rfl rfl (o_load Try.isAgg3 rfl rfl) ?_
      refine gde_p rfl rfl rfl rfl rfl rfl (o_indexAddr_m Try.runUnderlying47 Try.sizeOf3 rfl rfl hx1) ?_
      refine gde_p rfl rfl rfl rfl rfl rfl (o_load Try.isAgg3 rfl rfl) ?_
      refine gde_p rfl rfl rfl rfl rfl rfl (o_move rfl) ?_
      refine gde_p rfl rfl rfl rfl rfl rfl (o_fieldAddr fi_93_10 rfl rfl rfl) ?_
      refine gde_p rfl rfl rfl rfl rfl rfl (o_load Try.isAgg3 rfl rfl) ?_
      refine gde_p rfl rfl rfl rfl rfl rfl (o_indexAddr_m Try.runUnderlying47 Try.sizeOf3 rfl rfl hx2) ?_
      refine gde_p rfl rfl rfl rfl rfl rfl (o_load Try.isAgg3 rfl rfl) ?_
      refine gde_p rfl rfl rfl rfl rfl rfl (o_fieldAddr_box fi_93_9 rfl) ?_
      refine gde_e rfl ?_
      refine gde_p rfl rfl rfl rfl rfl rfl (o_fieldAddr_box fi_93_10 rfl) ?_
      refine gde_e rfl ?_
      refine gde_nil ?_
      refine gde2_u rfl rfl (o_store_box 0 Try.sizeOf3 rfl rfl rfl rfl rfl rfl rfl rfl (Nat.le_of_ble_eq_true rfl)) ?_
      rintro _ _ rfl
      refine ⟨(trivial : True), ?_⟩
      refine gde2_u rfl rfl (o_store_box 0 Try.sizeOf3 rfl rfl rfl rfl rfl rfl rfl rfl (Nat.le_of_ble_eq_true rfl)) ?_
      rintro _ _ rfl
      refine ⟨(trivial : True), ?_⟩
      refine gde2_nil ?_
      exact ⟨_, (), some_eq hj1, trivial, ⟨rfl, rfl, rfl, rfl, trivial⟩, [], rfl⟩
    · replace hj1 := cond_f hc1 hj1
      refine g_skip ?_
      exact ⟨_, (), some_eq hj1, trivial, ⟨rfl, rfl, rfl, rfl, trivial⟩, [], rfl⟩
  · rintro ⟨z1, z2, z3, z4, z5, z6, z7, z8, z9, z10, z11, z12, z13⟩ _ hst
    subst hst
    refine k_norm (L' := [(1, _), (2, _), (4, _), (5, _)]) (ms' := [box b2 93 [.bool z1, .bool z2, .bool z3, .bool z4, .bool z5, .bool z6, .bool z7, .bool z8, .list 1 D.i64 z9, .i64 z10, .i64 z11, .list 2 AutoEdge.d z12, .list 2 AutoEdge.d z13], _]) rfl rfl ?_
    refine g_seq ?_
    refine g_region ?_
    refine go_p rfl rfl rfl (o_fieldAddr_box fi_93_11 rfl) ?_
    refine go_u rfl rfl (o_store_box 0 Try.sizeOf91 rfl rfl rfl rfl rfl rfl rfl rfl (Nat.le_of_ble_eq_true rfl)) ?_
    rintro _ _ rfl
    refine go_conv (refines_newrow (T := 144) (sz := 2) (f := AutoEdge.d)) ?_
    refine go_ms (ms' := [_, box b2 93 [_, _, _, _, _, _, _, _, _, _, _, _, _], box b1 93 [_, _, _, _, _, _, _, _, _, _, _, _, _]]) rfl ?_
    refine go_p rfl rfl rfl (o_fieldAddr_box fi_93_12 rfl) ?_
    refine go_u rfl rfl (o_store_box 1 Try.sizeOf91 rfl rfl rfl rfl rfl rfl rfl rfl (Nat.le_of_ble_eq_true rfl)) ?_
    rintro _ _ rfl
    refine go_conv (refines_newrow (T := 144) (sz := 2) (f := AutoEdge.d)) ?_
    refine go_ms (ms' := [_, _, box b2 93 [_, _, _, _, _, _, _, _, _, _, _, _, _], box b1 93 [_, _, _, _, _, _, _, _, _, _, _, _, _]]) rfl ?_
    refine go_nil ?_
    refine g_seq ?_
    refine g_seq ?_
    refine g_region ?_
    refine go_p rfl rfl rfl (o_assign rfl) ?_
    refine go_nil ?_
    obtain ⟨o_2, hj2, hm2⟩ := bind_some hm1
    refine g_cut_m [(1, _), (2, _), (4, _), (5, _)] [(3, _)] (fun (st : ((List AutoEdge) × (List AutoEdge) × Bool × Bool × Bool × Bool × Bool × Bool × Bool × Bool × (List Int) × Int × Int)) (hid : (Option Addr × Nat) × (Option Addr × Nat)) => match st, hid with | (l1, l2, z14, z15, z16, z17, z18, z19, z20, z21, z22, z23, z24), ((a_r2, cap_r2), (a_r1, cap_r1)) => []) (fun F (st : ((List AutoEdge) × (List AutoEdge) × Bool × Bool × Bool × Bool × Bool × Bool × Bool × Bool × (List Int) × Int × Int)) (hid : (Option Addr × Nat) × (Option Addr × Nat)) => match st, hid with | (l1, l2, z14, z15, z16, z17, z18, z19, z20, z21, z22, z23, z24), ((a_r2, cap_r2), (a_r1, cap_r1)) => [row a_r2 cap_r2 144 2 AutoEdge.d l1, row a_r1 cap_r1 144 2 AutoEdge.d l2, box b2 93 [.bool z14, .bool z15, .bool z16, .bool z17, .bool z18, .bool z19, .bool z20, .bool z21, .list 1 D.i64 z22, .i64 z23, .i64 z24, .v (.slice a_r1 l2.length cap_r1), .v (.slice a_r2 l1.length cap_r2)], (nthF F 0)]) (fun st => st = o_2) ⟨rfl, rfl, rfl, rfl, trivial⟩ ⟨rfl, trivial⟩ ?_ ?_
    · skip
      refine g_block ?_
      refine g_loop_m [(1, _), (2, _), (4, _), (5, _)] [(3, _)] (fun (st : (Int × (List AutoEdge) × (List AutoEdge) × Bool × Bool × Bool × Bool × Bool × Bool × Bool × Bool × (List Int) × Int × Int)) (hid : (Option Addr × Nat) × (Option Addr × Nat)) => match st, hid with | (i1, l3, l4, z25, z26, z27, z28, z29, z30, z31, z32, z33, z34, z35), ((a_r2, cap_r2), (a_r1, cap_r1)) => [(6, .i64 i1)]) (fun F (st : (Int × (List AutoEdge) × (List AutoEdge) × Bool × Bool × Bool × Bool × Bool × Bool × Bool × Bool × (List Int) × Int × Int)) (hid : (Option Addr × Nat) × (Option Addr × Nat)) => match st, hid with | (i1, l3, l4, z25, z26, z27, z28, z29, z30, z31, z32, z33, z34, z35), ((a_r2, cap_r2), (a_r1, cap_r1)) => [row a_r2 cap_r2 144 2 AutoEdge.d l3, row a_r1 cap_r1 144 2 AutoEdge.d l4, box b2 93 [.bool z25, .bool z26, .bool z27, .bool z28, .bool z29, .bool z30, .bool z31, .bool z32, .list 1 D.i64 z33, .i64 z34, .i64 z35, .v (.slice a_r1 l4.length cap_r1), .v (.slice a_r2 l3.length cap_r2)], (nthF F 0)]) ((_, _), (_, _)) hj2 (fun _ => rfl) ⟨rfl, rfl, rfl, rfl, trivial⟩ ⟨rfl, trivial⟩ ⟨rfl, trivial⟩ rfl ?_
      rintro n ⟨i1, l3, l4, z25, z26, z27, z28, z29, z30, z31, z32, z33, z34, z35⟩ ⟨⟨a_r2, cap_r2⟩, ⟨a_r1, cap_r1⟩⟩ hj2
      rw [m_syntagmaref24_Moved_l1] at hj2
      refine g_norm (L' := [(6, .i64 i1), (1, _), (2, _), (4, _), (5, _)]) (ms' := [row a_r2 cap_r2 144 2 AutoEdge.d l3, row a_r1 cap_r1 144 2 AutoEdge.d l4, box b2 93 [.bool z25, .bool z26, .bool z27, .bool z28, .bool z29, .bool z30, .bool z31, .bool z32, .list 1 D.i64 z33, .i64 z34, .i64 z35, .v (.slice a_r1 l4.length cap_r1), .v (.slice a_r2 l3.length cap_r2)], _]) rfl rfl ?_
      refine g_seq ?_
      refine g_seq ?_
      refine g_region ?_
      refine go_p rfl rfl rfl (o_move rfl) ?_
      refine go_p rfl rfl rfl (o_fieldAddr fi_93_11 rfl rfl rfl) ?_
      refine go_p rfl rfl rfl (o_load Try.isAgg91 rfl rfl) ?_
      refine go_p rfl rfl rfl (o_len Try.runUnderlying91 rfl) ?_
      refine go_p rfl rfl rfl (o_cmp rfl rfl rfl) ?_
      refine go_nil ?_
      refine g_cond rfl (fun hc2 => ?_) (fun hc2 => ?_)
      · replace hj2 := cond_t hc2 hj2
        refine g_skip ?_
        refine g_seq ?_
        refine g_block ?_
        obtain ⟨x3, hx3, hj2⟩ := bind_some hj2
        obtain ⟨x4, hx4, hj2⟩ := bind_some hj2
        obtain ⟨x5, hx5, hj2⟩ := bind_some hj2
        refine g_draw 19 Try_mixed (by decide +kernel) ?_
        refine gd_p rfl rfl rfl (o_fieldAddr_box fi_93_11 rfl) ?_
        refine gd_p rfl rfl rfl (o_load_box 2 Try.isAgg91 rfl rfl rfl rfl) ?_
        refine gd_p rfl rfl rfl (o_fieldAddr fi_93_11 rfl rfl rfl) ?_
        refine gd_p rfl rfl rfl (o_load Try.isAgg91 rfl rfl) ?_
        refine gd_p rfl rfl rfl (o_move rfl) ?_
        refine gd_p rfl rfl rfl (o_indexAddr_m Try.runUnderlying91 Try.sizeOf144 rfl rfl hx3) ?_
        refine gd_p rfl rfl rfl (o_fieldAddr fi_144_0 rfl rfl rfl) ?_
        refine gd_p rfl rfl rfl (o_load Try.isAgg9 rfl rfl) ?_
        refine gd_p rfl rfl rfl (o_move rfl) ?_
        refine gd_p rfl rfl rfl (o_fieldAddr fi_93_11 rfl rfl rfl) ?_
        refine gd_p rfl rfl rfl (o_load Try.isAgg91 rfl rfl) ?_
        refine gd_p rfl rfl rfl (o_move rfl) ?_
        refine gd_p rfl rfl rfl (o_indexAddr_m Try.runUnderlying91 Try.sizeOf144 rfl rfl hx4) ?_
        refine gd_p rfl rfl rfl (o_fieldAddr fi_144_1 rfl rfl rfl) ?_
        refine gd_p rfl rfl rfl (o_load Try.isAgg3 rfl rfl) ?_
        refine gd_p rfl rfl rfl (o_indexAddr_m Try.runUnderlying47 Try.sizeOf3 rfl rfl hx5) ?_
        refine gd_p rfl rfl rfl (o_load Try.isAgg3 rfl rfl) ?_
        refine gd_p rfl rfl rfl (o_build (zs := [.str [], .v (.int .i64 0)]) Try.runUnderlying144 Try.zeroValue144 (pl_144 _ Try.runUnderlying144) rfl rfl rfl rfl) ?_
        refine gd_p rfl rfl rfl (o_buildSlice (xs := [_]) (f := AutoEdge.d) (l := [(⟨x3.name, x5⟩ : AutoEdge)]) Try.runUnderlying91 Try.sizeOf144 Try.zeroValue144 rfl rfl rfl (fun _ => ⟨rfl, rfl, rfl⟩) rfl) ?_
        refine gd_nil ?_
        obtain ⟨hg6, hj2⟩ := grd_some hj2
        refine go_op rfl rfl rfl (o_append (a := _) 1 Try.underlying91 Try.type144 rfl rfl rfl rfl rfl rfl rfl (fun _ => rfl) (fun _ => rfl) hg6 (app_len hg6 rfl)) ?_
        rintro _ _ ⟨a_r1, cap_r1, rfl, rfl⟩
        refine go_ms (ms' := [_, _, box b2 93 [_, _, _, _, _, _, _, _, _, _, _, _, _], box b1 93 [_, _, _, _, _, _, _, _, _, _, _, _, _]]) rfl ?_
        refine go_p rfl rfl rfl (o_fieldAddr_box fi_93_11 rfl) ?_
        refine go_u rfl rfl (o_store_box 2 Try.sizeOf91 rfl rfl rfl rfl rfl rfl rfl rfl (Nat.le_of_ble_eq_true rfl)) ?_
        rintro _ _ rfl
        refine go_ms (ms' := [_, _, box b2 93 [_, _, _, _, _, _, _, _, _, _, _, _, _], box b1 93 [_, _, _, _, _, _, _, _, _, _, _, _, _]]) rfl ?_
        refine go_nil ?_
        refine g_region ?_
        refine go_p rfl rfl rfl (o_move rfl) ?_
        obtain ⟨hg7, hj2⟩ := grd_some hj2
        refine go_p rfl rfl rfl (o_add rfl rfl (i64_id hg7)) ?_
        refine go_p rfl rfl rfl (o_assign rfl) ?_
        refine go_nil ?_
        exact ⟨_, ((_, _), (_, _)), hj2, ⟨rfl, trivial⟩, ⟨rfl, rfl, rfl, rfl, trivial⟩, [], rfl⟩
      · replace hj2 := cond_f hc2 hj2
        refine g_exit ?_
        exact ⟨_, ((_, _), (_, _)), some_eq hj2, trivial, ⟨rfl, rfl, rfl, rfl, trivial⟩, [], rfl⟩
    · rintro ⟨l1, l2, z14, z15, z16, z17, z18, z19, z20, z21, z22, z23, z24⟩ ⟨⟨a_r2, cap_r2⟩, ⟨a_r1, cap_r1⟩⟩ hst
      subst hst
      refine k_norm (L' := [(1, _), (2, _), (4, _), (5, _)]) (ms' := [row a_r2 cap_r2 144 2 AutoEdge.d l1, row a_r1 cap_r1 144 2 AutoEdge.d l2, box b2 93 [.bool z14, .bool z15, .bool z16, .bool z17, .bool z18, .bool z19, .bool z20, .bool z21, .list 1 D.i64 z22, .i64 z23, .i64 z24, .v (.slice a_r1 l2.length cap_r1), .v (.slice a_r2 l1.length cap_r2)], _]) rfl rfl ?_
      refine g_seq ?_
      refine g_seq ?_
      refine g_region ?_
      refine go_p rfl rfl rfl (o_assign rfl) ?_
      refine go_nil ?_
      obtain ⟨o_3, hj3, hm3⟩ := bind_some hm2
      refine g_cut_m [(4, _), (5, _)] [(3, _)] (fun (st : ((List AutoEdge) × (List AutoEdge) × Bool × Bool × Bool × Bool × Bool × Bool × Bool × Bool × (List Int) × Int × Int)) (hid : (Option Addr × Nat) × (Option Addr × Nat)) => match st, hid with | (l5, l6, z36, z37, z38, z39, z40, z41, z42, z43, z44, z45, z46), ((a_r2, cap_r2), (a_r1, cap_r1)) => []) (fun F (st : ((List AutoEdge) × (List AutoEdge) × Bool × Bool × Bool × Bool × Bool × Bool × Bool × Bool × (List Int) × Int × Int)) (hid : (Option Addr × Nat) × (Option Addr × Nat)) => match st, hid with | (l5, l6, z36, z37, z38, z39, z40, z41, z42, z43, z44, z45, z46), ((a_r2, cap_r2), (a_r1, cap_r1)) => [row a_r2 cap_r2 144 2 AutoEdge.d l5, row a_r1 cap_r1 144 2 AutoEdge.d l6, box b2 93 [.bool z36, .bool z37, .bool z38, .bool z39, .bool z40, .bool z41, .bool z42, .bool z43, .list 1 D.i64 z44, .i64 z45, .i64 z46, .v (.slice a_r1 l6.length cap_r1), .v (.slice a_r2 l5.length cap_r2)], (nthF F 0)]) (fun st => st = o_3) ⟨rfl, rfl, trivial⟩ ⟨rfl, trivial⟩ ?_ ?_
      · skip
        refine g_block ?_
        refine g_loop_m [(1, _), (2, _), (4, _), (5, _)] [(3, _)] (fun (st : (Int × (List AutoEdge) × (List AutoEdge) × Bool × Bool × Bool × Bool × Bool × Bool × Bool × Bool × (List Int) × Int × Int)) (hid : (Option Addr × Nat) × (Option Addr × Nat)) => match st, hid with | (i2, l7, l8, z47, z48, z49, z50, z51, z52, z53, z54, z55, z56, z57), ((a_r2, cap_r2), (a_r1, cap_r1)) => [(7, .i64 i2)]) (fun F (st : (Int × (List AutoEdge) × (List AutoEdge) × Bool × Bool × Bool × Bool × Bool × Bool × Bool × Bool × (List Int) × Int × Int)) (hid : (Option Addr × Nat) × (Option Addr × Nat)) => match st, hid with | (i2, l7, l8, z47, z48, z49, z50, z51, z52, z53, z54, z55, z56, z57), ((a_r2, cap_r2), (a_r1, cap_r1)) => [row a_r2 cap_r2 144 2 AutoEdge.d l7, row a_r1 cap_r1 144 2 AutoEdge.d l8, box b2 93 [.bool z47, .bool z48, .bool z49, .bool z50, .bool z51, .bool z52, .bool z53, .bool z54, .list 1 D.i64 z55, .i64 z56, .i64 z57, .v (.slice a_r1 l8.length cap_r1), .v (.slice a_r2 l7.length cap_r2)], (nthF F 0)]) ((_, _), (_, _)) hj3 (fun _ => rfl) ⟨rfl, rfl, rfl, rfl, trivial⟩ ⟨rfl, trivial⟩ ⟨rfl, trivial⟩ rfl ?_
        rintro n ⟨i2, l7, l8, z47, z48, z49, z50, z51, z52, z53, z54, z55, z56, z57⟩ ⟨⟨a_r2, cap_r2⟩, ⟨a_r1, cap_r1⟩⟩ hj3
        rw [m_syntagmaref24_Moved_l2] at hj3
        refine g_norm (L' := [(7, .i64 i2), (1, _), (2, _), (4, _), (5, _)]) (ms' := [row a_r2 cap_r2 144 2 AutoEdge.d l7, row a_r1 cap_r1 144 2 AutoEdge.d l8, box b2 93 [.bool z47, .bool z48, .bool z49, .bool z50, .bool z51, .bool z52, .bool z53, .bool z54, .list 1 D.i64 z55, .i64 z56, .i64 z57, .v (.slice a_r1 l8.length cap_r1), .v (.slice a_r2 l7.length cap_r2)], _]) rfl rfl ?_
        refine g_seq ?_
        refine g_seq ?_
        refine g_region ?_
        refine go_p rfl rfl rfl (o_move rfl) ?_
        refine go_p rfl rfl rfl (o_fieldAddr fi_93_12 rfl rfl rfl) ?_
        refine go_p rfl rfl rfl (o_load Try.isAgg91 rfl rfl) ?_
        refine go_p rfl rfl rfl (o_len Try.runUnderlying91 rfl) ?_
        refine go_p rfl rfl rfl (o_cmp rfl rfl rfl) ?_
        refine go_nil ?_
        refine g_cond rfl (fun hc3 => ?_) (fun hc3 => ?_)
        · replace hj3 := cond_t hc3 hj3
          refine g_skip ?_
          refine g_seq ?_
          refine g_block ?_
          obtain ⟨x6, hx8, hj3⟩ := bind_some hj3
          obtain ⟨x7, hx9, hj3⟩ := bind_some hj3
          obtain ⟨x8, hx10, hj3⟩ := bind_some hj3
          refine g_draw 19 Try_mixed (by decide +kernel) ?_
          refine gd_p rfl rfl rfl (o_fieldAddr_box fi_93_12 rfl) ?_
          refine gd_p rfl rfl rfl (o_load_box 2 Try.isAgg91 rfl rfl rfl rfl) ?_
          refine gd_p rfl rfl rfl (o_fieldAddr fi_93_12 rfl rfl rfl) ?_
          refine gd_p rfl rfl rfl (o_load Try.isAgg91 rfl rfl) ?_
          refine gd_p rfl rfl rfl (o_move rfl) ?_
          refine gd_p rfl rfl rfl (o_indexAddr_m Try.runUnderlying91 Try.sizeOf144 rfl rfl hx8) ?_
          refine gd_p rfl rfl rfl (o_fieldAddr fi_144_0 rfl rfl rfl) ?_
          refine gd_p rfl rfl rfl (o_load Try.isAgg9 rfl rfl) ?_
          refine gd_p rfl rfl rfl (o_move rfl) ?_
          refine gd_p rfl rfl rfl (o_fieldAddr fi_93_12 rfl rfl rfl) ?_
          refine gd_p rfl rfl rfl (o_load Try.isAgg91 rfl rfl) ?_
          refine gd_p rfl rfl rfl (o_move rfl) ?_
          refine gd_p rfl rfl rfl (o_indexAddr_m Try.runUnderlying91 Try.sizeOf144 rfl rfl hx9) ?_
          refine gd_p rfl rfl rfl (o_fieldAddr fi_144_1 rfl rfl rfl) ?_
          refine gd_p rfl rfl rfl (o_load Try.isAgg3 rfl rfl) ?_
          refine gd_p rfl rfl rfl (o_indexAddr_m Try.runUnderlying47 Try.sizeOf3 rfl rfl hx10) ?_
          refine gd_p rfl rfl rfl (o_load Try.isAgg3 rfl rfl) ?_
          refine gd_p rfl rfl rfl (o_build (zs := [.str [], .v (.int .i64 0)]) Try.runUnderlying144 Try.zeroValue144 (pl_144 _ Try.runUnderlying144) rfl rfl rfl rfl) ?_
          refine gd_p rfl rfl rfl (o_buildSlice (xs := [_]) (f := AutoEdge.d) (l := [(⟨x6.name, x8⟩ : AutoEdge)]) Try.runUnderlying91 Try.sizeOf144 Try.zeroValue144 rfl rfl rfl (fun _ => ⟨rfl, rfl, rfl⟩) rfl) ?_
          refine gd_nil ?_
          obtain ⟨hg11, hj3⟩ := grd_some hj3
          refine go_op rfl rfl rfl (o_append (a := _) 0 Try.underlying91 Try.type144 rfl rfl rfl rfl rfl rfl rfl (fun _ => rfl) (fun _ => rfl) hg11 (app_len hg11 rfl)) ?_
          rintro _ _ ⟨a_r2, cap_r2, rfl, rfl⟩
          refine go_ms (ms' := [_, _, box b2 93 [_, _, _, _, _, _, _, _, _, _, _, _, _], box b1 93 [_, _, _, _, _, _, _, _, _, _, _, _, _]]) rfl ?_
          refine go_p rfl rfl rfl (o_fieldAddr_box fi_93_12 rfl) ?_
          refine go_u rfl rfl (o_store_box 2 Try.sizeOf91 rfl rfl rfl rfl rfl rfl rfl rfl (Nat.le_of_ble_eq_true rfl)) ?_
          rintro _ _ rfl
          refine go_ms (ms' := [_, _, box b2 93 [_, _, _, _, _, _, _, _, _, _, _, _, _], box b1 93 [_, _, _, _, _, _, _, _, _, _, _, _, _]]) rfl ?_
          refine go_nil ?_
          refine g_region ?_
          refine go_p rfl rfl rfl (o_move rfl) ?_
          obtain ⟨hg12, hj3⟩ := grd_some hj3
          refine go_p rfl rfl rfl (o_add rfl rfl (i64_id hg12)) ?_
          refine go_p rfl rfl rfl (o_assign rfl) ?_
          refine go_nil ?_
          exact ⟨_, ((_, _), (_, _)), hj3, ⟨rfl, trivial⟩, ⟨rfl, rfl, rfl, rfl, trivial⟩, [], rfl⟩
        · replace hj3 := cond_f hc3 hj3
          refine g_exit ?_
          exact ⟨_, ((_, _), (_, _)), some_eq hj3, trivial, ⟨rfl, rfl, trivial⟩, [], rfl⟩
      · rintro ⟨l5, l6, z36, z37, z38, z39, z40, z41, z42, z43, z44, z45, z46⟩ ⟨⟨a_r2, cap_r2⟩, ⟨a_r1, cap_r1⟩⟩ hst
        subst hst
        refine k_norm (L' := [(4, _), (5, _)]) (ms' := [row a_r2 cap_r2 144 2 AutoEdge.d l5, row a_r1 cap_r1 144 2 AutoEdge.d l6, box b2 93 [.bool z36, .bool z37, .bool z38, .bool z39, .bool z40, .bool z41, .bool z42, .bool z43, .list 1 D.i64 z44, .i64 z45, .i64 z46, .v (.slice a_r1 l6.length cap_r1), .v (.slice a_r2 l5.length cap_r2)], _]) rfl rfl ?_
        refine g_seq ?_
        refine g_region ?_
        refine go_p rfl rfl rfl (o_load_box_agg 2 Try.isAgg93 Try.sizeOf93 rfl rfl rfl rfl (Nat.le_of_ble_eq_true rfl)) ?_
        refine go_conv (peekAggE (i := 81) (q := 11) 1 rfl rfl rfl rfl rfl).refines ?_
        refine go_conv (peekAggE (i := 81) (q := 12) 0 rfl rfl rfl rfl rfl).refines ?_
        refine go_u rfl rfl (o_store_box 3 Try.sizeOf93 rfl rfl rfl rfl rfl rfl rfl rfl (Nat.le_of_ble_eq_true rfl)) ?_
        rintro _ _ rfl
        refine go_ms (ms' := [_, _, box b2 93 [_, _, _, _, _, _, _, _, _, _, _, _, _], box b1 93 [_, _, _, _, _, _, _, _, _, _, _, _, _]]) rfl ?_
        refine go_nil ?_
        refine g_ret ?_
        exact retK (ret_one' rfl (ret_cell 3 rfl rfl rfl Try.isAgg93 Try.sizeOf93 rfl) (perm_drop _)) (congrArg (fun (p : AutoState) => (AutoState.d p : D)) (some_eq hm3))

def m_syntagmaref24_Norm_l2 (x3 : (List Int)) : Nat → (Int × (List Int)) → Option (List Int)
  | 0, _ => none
  | n + 1, (k1, l4) =>
    bif (decide (k1 < (x3.length : Int))) then
      (idx x3 k1).bind fun x4 =>
      (m_syntagmabase_HasInt l4 x4).bind fun x5 =>
      bif (!x5) then
        (idx x3 k1).bind fun x6 =>
        grd ((l4.length + ([x6] : List _).length) * 8 ≤ 140737488355328) <|
        grd (InR (k1 + 1)) <|
        m_syntagmaref24_Norm_l2 x3 n ((k1 + 1), (l4 ++ [x6]))
      else
        grd (InR (k1 + 1)) <|
        m_syntagmaref24_Norm_l2 x3 n ((k1 + 1), l4)
    else
      some l4

def m_syntagmaref24_Norm_l1 (a1 : AutoAuto) : Nat → (Int × (List Int)) → Option (List Int)
  | 0, _ => none
  | n + 1, (i1, l2) =>
    bif (decide (i1 < (l2.length : Int))) then
      (idx l2 i1).bind fun x1 =>
      (idx a1.l x1).bind fun x2 =>
      (m_syntagmaref24_Next x2).bind fun x3 =>
      (m_syntagmaref24_Norm_l2 x3 FU (0, l2) : Option (List Int)).bind fun l3 =>
      grd (InR (i1 + 1)) <|
      m_syntagmaref24_Norm_l1 a1 n ((i1 + 1), l3)
    else
      some l2

def m_syntagmaref24_Norm_l3 (l1 : (List Int)) : Nat → (Int × (List Int)) → Option (List Int)
  | 0, _ => none
  | n + 1, (i2, l6) =>
    bif (decide (i2 < (l1.length : Int))) then
      (idx l1 i2).bind fun x7 =>
      (idx l6 x7).bind fun x8 =>
      grd (InR (i2 + 1)) <|
      m_syntagmaref24_Norm_l3 l1 n ((i2 + 1), (l6.set (x7).toNat i2))
    else
      some l6

def m_syntagmaref24_Norm_l4 (a1 : AutoAuto) (l1 : (List Int)) (l5 : (List Int)) : Nat → (Int × (List AutoState) × Int) → Option ((List AutoState) × Int)
  | 0, _ => none
  | n + 1, (i3, l8, z2) =>
    bif (decide (i3 < (l1.length : Int))) then
      (idx l1 i3).bind fun x9 =>
      (idx a1.l x9).bind fun x10 =>
      (m_syntagmaref24_Moved x10 l5).bind fun x11 =>
      grd ((l8.length + ([x11] : List _).length) * 96 ≤ 140737488355328) <|
      grd (InR (i3 + 1)) <|
      m_syntagmaref24_Norm_l4 a1 l1 l5 n ((i3 + 1), (l8 ++ [x11]), z2)
    else
      some (l8, z2)
def m_syntagmaref24_Norm (a1 : AutoAuto) : Option AutoAuto :=
  (m_syntagmaref24_Norm_l1 a1 FU (0, [a1.start]) : Option (List Int)).bind fun l1 =>
  grd (0 ≤ (a1.l.length : Int)) <|
  grd (((a1.l.length : Int)).toNat * 8 ≤ 140737488355328) <|
  (m_syntagmaref24_Norm_l3 l1 FU (0, (List.replicate ((a1.l.length : Int)).toNat 0)) : Option (List Int)).bind fun l5 =>
  (m_syntagmaref24_Norm_l4 a1 l1 l5 FU (0, ([] : List AutoState), 0) : Option ((List AutoState) × Int)).bind fun (l7, z1) =>
  some (⟨l7, z1⟩ : AutoAuto)
theorem w_syntagmaref24_Norm {a1 : AutoAuto} {r : AutoAuto} (hm : m_syntagmaref24_Norm a1 = some r) : Fn0 Try.prog 56 [AutoAuto.d a1] (AutoAuto.d r) := by
  unfold m_syntagmaref24_Norm at hm
  refine fn_intro Try.func56 rfl Try.ntmps56 rfl fun H0 fr w0 => ?_
  refine g_seq ?_
  refine g_region ?_
  refine go_p rfl rfl rfl (o_box rfl rfl) ?_
  refine go_op rfl rfl rfl (o_alloc_own Try.zeroValue78 (cs := [.list 13 AutoState.d [], .i64 0]) rfl) ?_
  rintro _ _ ⟨b1, rfl, rfl⟩
  refine go_nil ?_
  refine g_seq ?_
  refine g_region ?_
  refine go_p rfl rfl rfl (o_fieldAddr fi_78_1 rfl rfl rfl) ?_
  refine go_p rfl rfl rfl (o_load Try.isAgg3 rfl rfl) ?_
  refine go_op rfl rfl rfl (o_buildSlice_row (xs := [_]) (f := D.i64) (l := [_]) Try.runUnderlying47 Try.sizeOf3 Try.zeroValue3 rfl rfl rfl (fun _ => ⟨rfl, rfl, rfl⟩) rfl (by simp [maxLen])) ?_
  rintro _ _ ⟨a_r1, rfl, rfl⟩
  refine go_p rfl rfl rfl (o_assign rfl) ?_
  refine go_nil ?_
  refine g_seq ?_
  refine g_seq ?_
  refine g_region ?_
  refine go_p rfl rfl rfl (o_assign rfl) ?_
  refine go_nil ?_
  obtain ⟨o_1, hj1, hm1⟩ := bind_some hm
  refine g_cut_m [(1, _), (2, _)] [(1, _)] (fun (st : (List Int)) (hid : (Option Addr × Nat)) => match st, hid with | l1, (a_r1, cap_r1) => [(3, .v (.slice a_r1 l1.length cap_r1))]) (fun F (st : (List Int)) (hid : (Option Addr × Nat)) => match st, hid with | l1, (a_r1, cap_r1) => [row a_r1 cap_r1 3 1 D.i64 l1, (nthF F 0)]) (fun st => st = o_1) ⟨rfl, rfl, trivial⟩ ⟨rfl, trivial⟩ ?_ ?_
  · skip
    refine g_block ?_
    refine g_loop_m [(1, _), (2, _)] [(1, _)] (fun (st : (Int × (List Int))) (hid : (Option Addr × Nat)) => match st, hid with | (i1, l2), (a_r1, cap_r1) => [(3, .v (.slice a_r1 l2.length cap_r1)), (4, .i64 i1)]) (fun F (st : (Int × (List Int))) (hid : (Option Addr × Nat)) => match st, hid with | (i1, l2), (a_r1, cap_r1) => [row a_r1 cap_r1 3 1 D.i64 l2, (nthF F 0)]) (_, _) hj1 (fun _ => rfl) ⟨rfl, rfl, trivial⟩ ⟨rfl, trivial⟩ ⟨rfl, rfl, trivial⟩ rfl ?_
    rintro n ⟨i1, l2⟩ ⟨a_r1, cap_r1⟩ hj1
    rw [m_syntagmaref24_Norm_l1] at hj1
    refine g_norm (L' := [(3, .v (.slice a_r1 l2.length cap_r1)), (4, .i64 i1), (1, _), (2, _)]) (ms' := [row a_r1 cap_r1 3 1 D.i64 l2, _]) rfl rfl ?_
    refine g_seq ?_
    refine g_seq ?_
    refine g_region ?_
    refine go_p rfl rfl rfl (o_move rfl) ?_
    refine go_p rfl rfl rfl (o_move rfl) ?_
    refine go_p rfl rfl rfl (.view (peekE (i := 15) 0 rfl rfl rfl) (o_len Try.runUnderlying47 rfl)) ?_
    refine go_p rfl rfl rfl (o_cmp rfl rfl rfl) ?_
    refine go_nil ?_
    refine g_cond rfl (fun hc1 => ?_) (fun hc1 => ?_)
    · replace hj1 := cond_t hc1 hj1
      refine g_skip ?_
      refine g_seq ?_
      refine g_block ?_
      refine g_seq ?_
      obtain ⟨x1, hx1, hj1⟩ := bind_some hj1
      obtain ⟨x2, hx2, hj1⟩ := bind_some hj1
      obtain ⟨x3, hx3, hj1⟩ := bind_some hj1
      refine g_draw 10 Try_mixed (by decide +kernel) ?_
      refine gd_p rfl rfl rfl (o_fieldAddr fi_78_0 rfl rfl rfl) ?_
      refine gd_p rfl rfl rfl (o_load Try.isAgg76 rfl rfl) ?_
      refine gd_p rfl rfl rfl (o_move rfl) ?_
      refine gd_p rfl rfl rfl (o_move rfl) ?_
      refine gd_p rfl rfl rfl (.view (peekE (i := 22) 0 rfl rfl rfl) (o_indexAddr_m Try.runUnderlying47 Try.sizeOf3 rfl rfl hx1)) ?_
      refine gd_p rfl rfl rfl (o_load Try.isAgg3 rfl rfl) ?_
      refine gd_p rfl rfl rfl (o_indexAddr_m Try.runUnderlying76 Try.sizeOf93 rfl rfl hx2) ?_
      refine gd_p rfl rfl rfl (o_load_agg Try.isAgg93 Try.sizeOf93 rfl rfl) ?_
      refine gd_p rfl rfl rfl (o_call0 Try.call51 rfl (w_syntagmaref24_Next hx3)) ?_
      refine gd_p rfl rfl rfl (o_assign rfl) ?_
      refine gd_nil ?_
      refine go_nil ?_
      refine g_seq ?_
      refine g_region ?_
      refine go_p rfl rfl rfl (o_assign rfl) ?_
      refine go_nil ?_
      obtain ⟨o_2, hj2, hm2⟩ := bind_some hj1
      refine g_cut_m [(1, _), (2, _), (4, _)] [(1, _)] (fun (st : (List Int)) (hid : (Option Addr × Nat)) => match st, hid with | l3, (a_r1, cap_r1) => [(3, .v (.slice a_r1 l3.length cap_r1))]) (fun F (st : (List Int)) (hid : (Option Addr × Nat)) => match st, hid with | l3, (a_r1, cap_r1) => [row a_r1 cap_r1 3 1 D.i64 l3, (nthF F 0)]) (fun st => st = o_2) ⟨rfl, rfl, rfl, trivial⟩ ⟨rfl, trivial⟩ ?_ ?_
      · skip
        refine g_block ?_
        refine g_loop_m [(1, _), (2, _), (4, _), (5, _)] [(1, _)] (fun (st : (Int × (List Int))) (hid : (Option Addr × Nat)) => match st, hid with | (k1, l4), (a_r1, cap_r1) => [(3, .v (.slice a_r1 l4.length cap_r1)), (6, .i64 k1)]) (fun F (st : (Int × (List Int))) (hid : (Option Addr × Nat)) => match st, hid with | (k1, l4), (a_r1, cap_r1) => [row a_r1 cap_r1 3 1 D.i64 l4, (nthF F 0)]) (_, _) hj2 (fun _ => rfl) ⟨rfl, rfl, rfl, rfl, trivial⟩ ⟨rfl, trivial⟩ ⟨rfl, rfl, trivial⟩ rfl ?_
        rintro n ⟨k1, l4⟩ ⟨a_r1, cap_r1⟩ hj2
        rw [m_syntagmaref24_Norm_l2] at hj2
        refine g_norm (L' := [(3, .v (.slice a_r1 l4.length cap_r1)), (6, .i64 k1), (1, _), (2, _), (4, _), (5, _)]) (ms' := [row a_r1 cap_r1 3 1 D.i64 l4, _]) rfl rfl ?_
        refine g_seq ?_
        refine g_seq ?_
        refine g_region ?_
        refine go_p rfl rfl rfl (o_move rfl) ?_
        refine go_p rfl rfl rfl (o_move rfl) ?_
        refine go_p rfl rfl rfl (o_len Try.runUnderlying47 rfl) ?_
        refine go_p rfl rfl rfl (o_cmp rfl rfl rfl) ?_
        refine go_nil ?_
        refine g_cond rfl (fun hc2 => ?_) (fun hc2 => ?_)
        · replace hj2 := cond_t hc2 hj2
          refine g_skip ?_
          refine g_seq ?_
          refine g_block ?_
          refine g_seq ?_
          refine g_region ?_
          refine go_p rfl rfl rfl (o_move rfl) ?_
          refine go_p rfl rfl rfl (o_move rfl) ?_
          refine go_p rfl rfl rfl (o_move rfl) ?_
          obtain ⟨x4, hx4, hj2⟩ := bind_some hj2
          refine go_p rfl rfl rfl (o_indexAddr_m Try.runUnderlying47 Try.sizeOf3 rfl rfl hx4) ?_
          refine go_p rfl rfl rfl (o_load Try.isAgg3 rfl rfl) ?_
          obtain ⟨x5, hx5, hj2⟩ := bind_some hj2
          refine go_p rfl rfl rfl (.view (peekE (i := 35) 0 rfl rfl rfl) (o_call0 Try.call91 rfl (w_syntagmabase_HasInt hx5))) ?_
          refine go_p rfl rfl rfl (o_not rfl) ?_
          refine go_nil ?_
          refine g_cond rfl (fun hc3 => ?_) (fun hc3 => ?_)
          · replace hj2 := cond_t hc3 hj2
            refine g_region ?_
            refine go_p rfl rfl rfl (o_move rfl) ?_
            refine go_p rfl rfl rfl (o_move rfl) ?_
            refine go_p rfl rfl rfl (o_move rfl) ?_
            obtain ⟨x6, hx6, hj2⟩ := bind_some hj2
            refine go_p rfl rfl rfl (o_indexAddr_m Try.runUnderlying47 Try.sizeOf3 rfl rfl hx6) ?_
            refine go_p rfl rfl rfl (o_load Try.isAgg3 rfl rfl) ?_
            refine go_p rfl rfl rfl (o_buildSlice (xs := [_]) (f := D.i64) (l := [_]) Try.runUnderlying47 Try.sizeOf3 Try.zeroValue3 rfl rfl rfl (fun _ => ⟨rfl, rfl, rfl⟩) rfl) ?_
            obtain ⟨hg7, hj2⟩ := grd_some hj2
            refine go_op rfl rfl rfl (o_append (a := _) 0 Try.underlying47 Try.type3 rfl rfl rfl rfl rfl rfl rfl (fun _ => rfl) (fun _ => rfl) hg7 (app_len hg7 rfl)) ?_
            rintro _ _ ⟨a_r1, cap_r1, rfl, rfl⟩
            refine go_ms (ms' := [_, box b1 78 [_, _]]) rfl ?_
            refine go_p rfl rfl rfl (o_assign rfl) ?_
            refine go_nil ?_
            refine g_region ?_
            refine go_p rfl rfl rfl (o_move rfl) ?_
            obtain ⟨hg8, hj2⟩ := grd_some hj2
            refine go_p rfl rfl rfl (o_add rfl rfl (i64_id hg8)) ?_
            refine go_p rfl rfl rfl (o_assign rfl) ?_
            refine go_nil ?_
            exact ⟨_, (_, _), hj2, ⟨rfl, rfl, trivial⟩, ⟨rfl, rfl, rfl, rfl, trivial⟩, [], rfl⟩
          · replace hj2 := cond_f hc3 hj2
            refine g_skip ?_
            refine g_region ?_
            refine go_p rfl rfl rfl (o_move rfl) ?_
            obtain ⟨hg9, hj2⟩ := grd_some hj2
            refine go_p rfl rfl rfl (o_add rfl rfl (i64_id hg9)) ?_
            refine go_p rfl rfl rfl (o_assign rfl) ?_
            refine go_nil ?_
            exact ⟨_, (_, _), hj2, ⟨rfl, rfl, trivial⟩, ⟨rfl, rfl, rfl, rfl, trivial⟩, [], rfl⟩
        · replace hj2 := cond_f hc2 hj2
          refine g_exit ?_
          exact ⟨_, (_, _), some_eq hj2, ⟨rfl, trivial⟩, ⟨rfl, rfl, rfl, trivial⟩, [], rfl⟩
      · rintro l3 ⟨a_r1, cap_r1⟩ hst
        subst hst
        refine k_norm (L' := [(3, .v (.slice a_r1 l3.length cap_r1)), (1, _), (2, _), (4, _)]) (ms' := [row a_r1 cap_r1 3 1 D.i64 l3, _]) rfl rfl ?_
        refine g_region ?_
        refine go_p rfl rfl rfl (o_move rfl) ?_
        obtain ⟨hg10, hm2⟩ := grd_some hm2
        refine go_p rfl rfl rfl (o_add rfl rfl (i64_id hg10)) ?_
        refine go_p rfl rfl rfl (o_assign rfl) ?_
        refine go_nil ?_
        exact ⟨_, (_, _), hm2, ⟨rfl, rfl, trivial⟩, ⟨rfl, rfl, trivial⟩, [], rfl⟩
    · replace hj1 := cond_f hc1 hj1
      refine g_exit ?_
      exact ⟨_, (_, _), some_eq hj1, ⟨rfl, trivial⟩, ⟨rfl, rfl, trivial⟩, [], rfl⟩
  · rintro l1 ⟨a_r1, cap_r1⟩ hst
    subst hst
    refine k_norm (L' := [(3, .v (.slice a_r1 l1.length cap_r1)), (1, _), (2, _)]) (ms' := [row a_r1 cap_r1 3 1 D.i64 l1, _]) rfl rfl ?_
    refine g_seq ?_
    refine g_region ?_
    refine go_p rfl rfl rfl (o_fieldAddr fi_78_0 rfl rfl rfl) ?_
    refine go_p rfl rfl rfl (o_load Try.isAgg76 rfl rfl) ?_
    refine go_p rfl rfl rfl (o_len Try.runUnderlying76 rfl) ?_
    obtain ⟨hg11, hm1⟩ := grd_some hm1
    obtain ⟨hg12, hm1⟩ := grd_some hm1
    refine go_op rfl rfl rfl (o_makeSlice (f := D.i64) (z0 := 0) Try.underlying47 Try.type3 rfl rfl rfl (Nat.le_of_ble_eq_true rfl) rfl rfl hg11 hg12 (Nat.le_of_ble_eq_true rfl)) ?_
    rintro _ _ ⟨a_r2, m_r2, cap_r2, rfl, rfl⟩
    refine go_p rfl rfl rfl (o_assign rfl) ?_
    refine go_nil ?_
    refine g_seq ?_
    refine g_seq ?_
    refine g_region ?_
    refine go_p rfl rfl rfl (o_assign rfl) ?_
    refine go_nil ?_
    obtain ⟨o_3, hj3, hm3⟩ := bind_some hm1
    refine g_cut_m [(1, _), (2, _), (3, _), (7, _)] [(1, _), (2, _)] (fun (st : (List Int)) (hid : Unit) => match st, hid with | l5, _ => []) (fun F (st : (List Int)) (hid : Unit) => match st, hid with | l5, _ => [arr a_r2 m_r2 cap_r2 3 1 D.i64 l5, (nthF F 0), (nthF F 1)]) (fun st => st = o_3) ⟨rfl, rfl, rfl, rfl, trivial⟩ ⟨rfl, rfl, trivial⟩ ?_ ?_
    · skip
      refine g_block ?_
      refine g_loop_m [(1, _), (2, _), (3, _), (7, _)] [(1, _), (2, _)] (fun (st : (Int × (List Int))) (hid : Unit) => match st, hid with | (i2, l6), _ => [(8, .i64 i2)]) (fun F (st : (Int × (List Int))) (hid : Unit) => match st, hid with | (i2, l6), _ => [arr a_r2 m_r2 cap_r2 3 1 D.i64 l6, (nthF F 0), (nthF F 1)]) () hj3 (fun _ => rfl) ⟨rfl, rfl, rfl, rfl, trivial⟩ ⟨rfl, rfl, trivial⟩ ⟨rfl, trivial⟩ rfl ?_
      rintro n ⟨i2, l6⟩ ⟨⟩ hj3
      rw [m_syntagmaref24_Norm_l3] at hj3
      refine g_norm (L' := [(8, .i64 i2), (1, _), (2, _), (3, _), (7, _)]) (ms' := [arr a_r2 m_r2 cap_r2 3 1 D.i64 l6, _, _]) rfl rfl ?_
      refine g_seq ?_
      refine g_seq ?_
      refine g_region ?_
      refine go_p rfl rfl rfl (o_move rfl) ?_
      refine go_p rfl rfl rfl (o_move rfl) ?_
      refine go_p rfl rfl rfl (.view (peekE (i := 54) 1 rfl rfl rfl) (o_len Try.runUnderlying47 rfl)) ?_
      refine go_p rfl rfl rfl (o_cmp rfl rfl rfl) ?_
      refine go_nil ?_
      refine g_cond rfl (fun hc4 => ?_) (fun hc4 => ?_)
      · replace hj3 := cond_t hc4 hj3
        refine g_skip ?_
        refine g_seq ?_
        refine g_block ?_
        refine g_region ?_
        refine go_p rfl rfl rfl (o_move rfl) ?_
        refine go_p rfl rfl rfl (o_move rfl) ?_
        refine go_p rfl rfl rfl (o_move rfl) ?_
        obtain ⟨x7, hx13, hj3⟩ := bind_some hj3
        refine go_p rfl rfl rfl (.view (peekE (i := 60) 1 rfl rfl rfl) (o_indexAddr_m Try.runUnderlying47 Try.sizeOf3 rfl rfl hx13)) ?_
        refine go_p rfl rfl rfl (o_load Try.isAgg3 rfl rfl) ?_
        refine go_p rfl rfl rfl (o_move rfl) ?_
        obtain ⟨x8, hx14, hj3⟩ := bind_some hj3
        refine go_p rfl rfl rfl (o_indexAddr_arr 0 Try.runUnderlying47 Try.sizeOf3 rfl rfl rfl hx14) ?_
        refine go_u rfl rfl (o_store_arr (off := 0) (z' := i2) 0 Try.sizeOf3 rfl rfl (idx_some hx14).2 rfl rfl rfl rfl rfl rfl (Nat.le_of_ble_eq_true rfl) rfl rfl) ?_
        rintro _ _ rfl
        refine go_ms (ms' := [_, _, box b1 78 [_, _]]) rfl ?_
        refine go_nil ?_
        refine g_region ?_
        refine go_p rfl rfl rfl (o_move rfl) ?_
        obtain ⟨hg15, hj3⟩ := grd_some hj3
        refine go_p rfl rfl rfl (o_add rfl rfl (i64_id hg15)) ?_
        refine go_p rfl rfl rfl (o_assign rfl) ?_
        refine go_nil ?_
        exact ⟨_, (), hj3, ⟨rfl, trivial⟩, ⟨rfl, rfl, rfl, rfl, trivial⟩, [], rfl⟩
      · replace hj3 := cond_f hc4 hj3
        refine g_exit ?_
        exact ⟨_, (), some_eq hj3, trivial, ⟨rfl, rfl, rfl, rfl, trivial⟩, [], rfl⟩
    · rintro l5 ⟨⟩ hst
      subst hst
      refine k_norm (L' := [(1, _), (2, _), (3, _), (7, _)]) (ms' := [arr a_r2 m_r2 cap_r2 3 1 D.i64 l5, _, _]) rfl rfl ?_
      refine g_seq ?_
      refine g_region ?_
      refine go_p rfl rfl rfl (o_build (zs := [.v (.slice none 0 0), .v (.int .i64 0)]) Try.runUnderlying78 Try.zeroValue78 (pl_78 _ Try.runUnderlying78) rfl rfl rfl rfl) ?_
      refine go_op rfl rfl rfl (o_alloc_own Try.zeroValue78 (cs := [.list 13 AutoState.d [], .i64 0]) rfl) ?_
      rintro _ _ ⟨b3, rfl, rfl⟩
      refine go_u rfl rfl (o_store_box 0 Try.sizeOf78 rfl rfl rfl rfl rfl rfl rfl rfl (Nat.le_of_ble_eq_true rfl)) ?_
      rintro _ _ rfl
      refine go_conv (refines_newrow (T := 93) (sz := 13) (f := AutoState.d)) ?_
      refine go_ms (ms' := [_, box b3 78 [_, _], _, _, box b1 78 [_, _]]) rfl ?_
      refine go_nil ?_
      refine g_seq ?_
      refine g_seq ?_
      refine g_region ?_
      refine go_p rfl rfl rfl (o_assign rfl) ?_
      refine go_nil ?_
      refine g_thaw 2 rfl rfl ?_
      rintro rfl
      obtain ⟨o_4, hj4, hm4⟩ := bind_some hm3
      refine g_cut_m [(2, _), (9, _)] [(2, _), (3, _), (4, _)] (fun (st : ((List AutoState) × Int)) (hid : (Option Addr × Nat)) => match st, hid with | (l7, z1), (a_r3, cap_r3) => []) (fun F (st : ((List AutoState) × Int)) (hid : (Option Addr × Nat)) => match st, hid with | (l7, z1), (a_r3, cap_r3) => [row a_r3 cap_r3 93 13 AutoState.d l7, box b3 78 [.v (.slice a_r3 l7.length cap_r3), .i64 z1], (nthF F 0), (nthF F 1), (nthF F 2)]) (fun st => st = o_4) ⟨rfl, rfl, trivial⟩ ⟨rfl, rfl, rfl, trivial⟩ ?_ ?_
      · skip
        refine g_block ?_
        refine g_loop_m [(1, _), (2, _), (3, _), (7, _), (9, _)] [(2, _), (3, _), (4, _)] (fun (st : (Int × (List AutoState) × Int)) (hid : (Option Addr × Nat)) => match st, hid with | (i3, l8, z2), (a_r3, cap_r3) => [(10, .i64 i3)]) (fun F (st : (Int × (List AutoState) × Int)) (hid : (Option Addr × Nat)) => match st, hid with | (i3, l8, z2), (a_r3, cap_r3) => [row a_r3 cap_r3 93 13 AutoState.d l8, box b3 78 [.v (.slice a_r3 l8.length cap_r3), .i64 z2], (nthF F 0), (nthF F 1), (nthF F 2)]) (_, _) hj4 (fun _ => rfl) ⟨rfl, rfl, rfl, rfl, rfl, trivial⟩ ⟨rfl, rfl, rfl, trivial⟩ ⟨rfl, trivial⟩ rfl ?_
        rintro n ⟨i3, l8, z2⟩ ⟨a_r3, cap_r3⟩ hj4
        rw [m_syntagmaref24_Norm_l4] at hj4
        refine g_norm (L' := [(10, .i64 i3), (1, _), (2, _), (3, _), (7, _), (9, _)]) (ms' := [row a_r3 cap_r3 93 13 AutoState.d l8, box b3 78 [.v (.slice a_r3 l8.length cap_r3), .i64 z2], _, _, _]) rfl rfl ?_
        refine g_seq ?_
        refine g_seq ?_
        refine g_region ?_
        refine go_p rfl rfl rfl (o_move rfl) ?_
        refine go_p rfl rfl rfl (o_move rfl) ?_
        refine go_p rfl rfl rfl (.view (peekE (i := 68) 3 rfl rfl rfl) (o_len Try.runUnderlying47 rfl)) ?_
        refine go_p rfl rfl rfl (o_cmp rfl rfl rfl) ?_
        refine go_nil ?_
        refine g_cond rfl (fun hc5 => ?_) (fun hc5 => ?_)
        · replace hj4 := cond_t hc5 hj4
          refine g_skip ?_
          refine g_seq ?_
          refine g_block ?_
          obtain ⟨x9, hx16, hj4⟩ := bind_some hj4
          obtain ⟨x10, hx17, hj4⟩ := bind_some hj4
          obtain ⟨x11, hx18, hj4⟩ := bind_some hj4
          refine g_draw 13 Try_mixed (by decide +kernel) ?_
          refine gd_p rfl rfl rfl (o_fieldAddr_box fi_78_0 rfl) ?_
          refine gd_p rfl rfl rfl (o_load_box 1 Try.isAgg76 rfl rfl rfl rfl) ?_
          refine gd_p rfl rfl rfl (o_fieldAddr fi_78_0 rfl rfl rfl) ?_
          refine gd_p rfl rfl rfl (o_load Try.isAgg76 rfl rfl) ?_
          refine gd_p rfl rfl rfl (o_move rfl) ?_
          refine gd_p rfl rfl rfl (o_move rfl) ?_
          refine gd_p rfl rfl rfl (.view (peekE (i := 77) 3 rfl rfl rfl) (o_indexAddr_m Try.runUnderlying47 Try.sizeOf3 rfl rfl hx16)) ?_
          refine gd_p rfl rfl rfl (o_load Try.isAgg3 rfl rfl) ?_
          refine gd_p rfl rfl rfl (o_indexAddr_m Try.runUnderlying76 Try.sizeOf93 rfl rfl hx17) ?_
          refine gd_p rfl rfl rfl (o_load_agg Try.isAgg93 Try.sizeOf93 rfl rfl) ?_
          refine gd_p rfl rfl rfl (o_move rfl) ?_
          refine gd_p rfl rfl rfl (.view (peekE (i := 83) 2 rfl rfl rfl) (o_call0 Try.call92 rfl (w_syntagmaref24_Moved hx18))) ?_
          refine gd_p rfl rfl rfl (o_buildSlice (xs := [_]) (f := AutoState.d) (l := [_]) Try.runUnderlying76 Try.sizeOf93 Try.zeroValue93 rfl rfl rfl (fun _ => ⟨rfl, rfl, rfl⟩) rfl) ?_
          refine gd_nil ?_
          obtain ⟨hg19, hj4⟩ := grd_some hj4
          refine go_op rfl rfl rfl (o_append (a := _) 0 Try.underlying76 Try.type93 rfl rfl rfl rfl rfl rfl rfl (fun _ => rfl) (fun _ => rfl) hg19 (app_len hg19 rfl)) ?_
          rintro _ _ ⟨a_r3, cap_r3, rfl, rfl⟩
          refine go_ms (ms' := [_, box b3 78 [_, _], _, _, box b1 78 [_, _]]) rfl ?_
          refine go_p rfl rfl rfl (o_fieldAddr_box fi_78_0 rfl) ?_
          refine go_u rfl rfl (o_store_box 1 Try.sizeOf76 rfl rfl rfl rfl rfl rfl rfl rfl (Nat.le_of_ble_eq_true rfl)) ?_
          rintro _ _ rfl
          refine go_ms (ms' := [_, box b3 78 [_, _], _, _, box b1 78 [_, _]]) rfl ?_
          refine go_nil ?_
          refine g_region ?_
          refine go_p rfl rfl rfl (o_move rfl) ?_
          obtain ⟨hg20, hj4⟩ := grd_some hj4
          refine go_p rfl rfl rfl (o_add rfl rfl (i64_id hg20)) ?_
          refine go_p rfl rfl rfl (o_assign rfl) ?_
          refine go_nil ?_
          exact ⟨_, (_, _), hj4, ⟨rfl, trivial⟩, ⟨rfl, rfl, rfl, rfl, rfl, trivial⟩, [], rfl⟩
        · replace hj4 := cond_f hc5 hj4
          refine g_exit ?_
          exact ⟨_, (_, _), some_eq hj4, trivial, ⟨rfl, rfl, trivial⟩, [], rfl⟩
      · rintro ⟨l7, z1⟩ ⟨a_r3, cap_r3⟩ hst
        subst hst
        refine k_norm (L' := [(2, _), (9, _)]) (ms' := [row a_r3 cap_r3 93 13 AutoState.d l7, box b3 78 [.v (.slice a_r3 l7.length cap_r3), .i64 z1], _, _, _]) rfl rfl ?_
        refine g_seq ?_
        refine g_region ?_
        refine go_p rfl rfl rfl (o_load_box_agg 1 Try.isAgg78 Try.sizeOf78 rfl rfl rfl rfl (Nat.le_of_ble_eq_true rfl)) ?_
        refine go_conv (peekAggE (i := 88) (q := 0) 0 rfl rfl rfl rfl rfl).refines ?_
        refine go_u rfl rfl (o_store_box 4 Try.sizeOf78 rfl rfl rfl rfl rfl rfl rfl rfl (Nat.le_of_ble_eq_true rfl)) ?_
        rintro _ _ rfl
        refine go_ms (ms' := [_, box b3 78 [_, _], _, _, box b1 78 [_, _]]) rfl ?_
        refine go_nil ?_
        refine g_ret ?_
        exact retK (ret_one' rfl (ret_cell 4 rfl rfl rfl Try.isAgg78 Try.sizeOf78 rfl) (perm_drop _)) (congrArg (fun (p : AutoAuto) => (AutoAuto.d p : D)) (some_eq hm4))

def m_syntagmaref24_Same (a1 : AutoAuto) (b1 : AutoAuto) : Option Bool :=
  (m_syntagmaref24_May a1).bind fun x1 =>
  bif (decide (x1 = 0)) then ((m_syntagmaref24_May b1).bind fun x2 =>
  bif (decide (x2 = 0)) then ((m_syntagmaref24_Norm a1).bind fun x3 =>
  (m_syntagmaref24_Norm b1).bind fun x4 =>
  (m_syntagmaref24_SameList x3 x4).bind fun x5 =>
  some x5) else (some false)) else (some false)
theorem w_syntagmaref24_Same {a1 : AutoAuto} {b1 : AutoAuto} {r : Bool} (hm : m_syntagmaref24_Same a1 b1 = some r) : Fn0 Try.prog 54 [AutoAuto.d a1, AutoAuto.d b1] (.bool r) := by
  unfold m_syntagmaref24_Same at hm
  refine fn_intro Try.func54 rfl Try.ntmps54 rfl fun H0 fr w0 => ?_
  refine g_seq ?_
  refine g_region ?_
  refine go_p rfl rfl rfl (o_box rfl rfl) ?_
  refine go_p rfl rfl rfl (o_box rfl rfl) ?_
  refine go_p rfl rfl rfl (o_assign rfl) ?_
  refine go_nil ?_
  refine g_seq ?_
  obtain ⟨x1, hx1, hm⟩ := bind_some hm
  rcases cond_split hm with ⟨hg_1, hm⟩ | ⟨hg_1, hm⟩
  ·
    skip
    obtain ⟨x2, hx2, hm⟩ := bind_some hm
    rcases cond_split hm with ⟨hg_2, hm⟩ | ⟨hg_2, hm⟩
    ·
      skip
      obtain ⟨x3, hx3, hm⟩ := bind_some hm
      obtain ⟨x4, hx4, hm⟩ := bind_some hm
      obtain ⟨x5, hx5, hm⟩ := bind_some hm
      refine g_draw 16 Try_mixed (by decide +kernel) ?_
      refine gd_p rfl rfl rfl (o_load_agg Try.isAgg78 Try.sizeOf78 rfl rfl) ?_
      refine gd_p rfl rfl rfl (o_call0 Try.call48 rfl (w_syntagmaref24_May hx1)) ?_
      refine gd_p rfl rfl rfl (o_cmp rfl rfl rfl) ?_
      refine gd_p rfl rfl rfl (o_move rfl) ?_
      refine gd_want rfl rfl rfl hg_1 rfl rfl (o_load_agg Try.isAgg78 Try.sizeOf78 rfl rfl) ?_
      refine gd_want rfl rfl rfl hg_1 rfl rfl (o_call0 Try.call48 rfl (w_syntagmaref24_May hx2)) ?_
      refine gd_want rfl rfl rfl hg_1 rfl rfl (o_cmp rfl rfl rfl) ?_
      refine gd_p rfl rfl rfl (o_pickT rfl hg_1 rfl) ?_
      refine gd_p rfl rfl rfl (o_move rfl) ?_
      refine gd_want rfl rfl rfl hg_2 rfl rfl (o_load_agg Try.isAgg78 Try.sizeOf78 rfl rfl) ?_
      refine gd_want rfl rfl rfl hg_2 rfl rfl (o_call0 Try.call56 rfl (w_syntagmaref24_Norm hx3)) ?_
      refine gd_want rfl rfl rfl hg_2 rfl rfl (o_load_agg Try.isAgg78 Try.sizeOf78 rfl rfl) ?_
      refine gd_want rfl rfl rfl hg_2 rfl rfl (o_call0 Try.call56 rfl (w_syntagmaref24_Norm hx4)) ?_
      refine gd_want rfl rfl rfl hg_2 rfl rfl (o_call0 Try.call55 rfl (w_syntagmaref24_SameList hx5)) ?_
      refine gd_p rfl rfl rfl (o_pickT rfl hg_2 rfl) ?_
      refine gd_p rfl rfl rfl (o_assign rfl) ?_
      refine gd_nil ?_
      refine go_nil ?_
      refine g_ret ?_
      exact retK (ret_one' rfl (ret_tmp rfl) (perm_drop _)) (congrArg (fun (p : Bool) => (.bool p : D)) (some_eq hm))
    ·
      skip
      refine g_draw 16 Try_mixed (by decide +kernel) ?_
      refine gd_p rfl rfl rfl (o_load_agg Try.isAgg78 Try.sizeOf78 rfl rfl) ?_
      refine gd_p rfl rfl rfl (o_call0 Try.call48 rfl (w_syntagmaref24_May hx1)) ?_
      refine gd_p rfl rfl rfl (o_cmp rfl rfl rfl) ?_
      refine gd_p rfl rfl rfl (o_move rfl) ?_
      refine gd_want rfl rfl rfl hg_1 rfl rfl (o_load_agg Try.isAgg78 Try.sizeOf78 rfl rfl) ?_
      refine gd_want rfl rfl rfl hg_1 rfl rfl (o_call0 Try.call48 rfl (w_syntagmaref24_May hx2)) ?_
      refine gd_want rfl rfl rfl hg_1 rfl rfl (o_cmp rfl rfl rfl) ?_
      refine gd_p rfl rfl rfl (o_pickT rfl hg_1 rfl) ?_
      refine gd_p rfl rfl rfl (o_move rfl) ?_
      refine gd_skip rfl rfl rfl hg_2 rfl rfl ?_
      refine gd_skip rfl rfl rfl hg_2 rfl rfl ?_
      refine gd_skip rfl rfl rfl hg_2 rfl rfl ?_
      refine gd_skip rfl rfl rfl hg_2 rfl rfl ?_
      refine gd_skip rfl rfl rfl hg_2 rfl rfl ?_
      refine gd_p rfl rfl rfl (o_pickF rfl hg_2 rfl) ?_
      refine gd_p rfl rfl rfl (o_assign rfl) ?_
      refine gd_nil ?_
      refine go_nil ?_
      refine g_ret ?_
      exact retK (ret_one' rfl (ret_tmp rfl) (perm_drop _)) (congrArg (fun (p : Bool) => (.bool p : D)) (some_eq hm))
  ·
    skip
    refine g_draw 16 Try_mixed (by decide +kernel) ?_
    refine gd_p rfl rfl rfl (o_load_agg Try.isAgg78 Try.sizeOf78 rfl rfl) ?_
    refine gd_p rfl rfl rfl (o_call0 Try.call48 rfl (w_syntagmaref24_May hx1)) ?_
    refine gd_p rfl rfl rfl (o_cmp rfl rfl rfl) ?_
    refine gd_p rfl rfl rfl (o_move rfl) ?_
    refine gd_skip rfl rfl rfl hg_1 rfl rfl ?_
    refine gd_skip rfl rfl rfl hg_1 rfl rfl ?_
    refine gd_skip rfl rfl rfl hg_1 rfl rfl ?_
    refine gd_p rfl rfl rfl (o_pickF rfl hg_1 rfl) ?_
    refine gd_p rfl rfl rfl (o_move rfl) ?_
    refine gd_skip rfl rfl rfl rfl rfl rfl ?_
    refine gd_skip rfl rfl rfl rfl rfl rfl ?_
    refine gd_skip rfl rfl rfl rfl rfl rfl ?_
    refine gd_skip rfl rfl rfl rfl rfl rfl ?_
    refine gd_skip rfl rfl rfl rfl rfl rfl ?_
    refine gd_p rfl rfl rfl (o_pickF rfl rfl rfl) ?_
    refine gd_p rfl rfl rfl (o_assign rfl) ?_
    refine gd_nil ?_
    refine go_nil ?_
    refine g_ret ?_
    exact retK (ret_one' rfl (ret_tmp rfl) (perm_drop _)) (congrArg (fun (p : Bool) => (.bool p : D)) (some_eq hm))

def m_syntagmalaw24_AutoNorms (a1 : AutoAuto) (b1 : AutoAuto) : Option Bool :=
  (m_syntagmalaw24_Give a1 30).bind fun x1 =>
  (m_syntagmalaw24_Give b1 30).bind fun x2 =>
  (m_auto_Norm (⟨x1.l, x1.start⟩ : AutoAuto)).bind fun (x3, x4) =>
  (m_auto_Same (⟨x1.l, x1.start⟩ : AutoAuto) (⟨x2.l, x2.start⟩ : AutoAuto)).bind fun x5 =>
  (m_syntagmalaw24_Of (⟨x1.l, x1.start⟩ : AutoAuto)).bind fun x6 =>
  (m_syntagmalaw24_Of (⟨x2.l, x2.start⟩ : AutoAuto)).bind fun x7 =>
  (m_syntagmaref24_Same x6 x7).bind fun x8 =>
  bif (!(x5 == x8)) then
    some false
  else
    (m_syntagmalaw24_Of (⟨x1.l, x1.start⟩ : AutoAuto)).bind fun x9 =>
    (m_syntagmaref24_May x9).bind fun x10 =>
    bif (!decide (x10 = 0)) then
      (bif ((decide (x4 = x10)) && (decide ((x3.l.length : Int) = 0))) then ((m_syntagmalaw24_works).bind fun x11 =>
      some x11) else (some false)).bind fun p1 =>
      some p1
    else
      bif (decide (x4 = 0)) then ((m_syntagmalaw24_Of (⟨x3.l, x3.start⟩ : AutoAuto)).bind fun x12 =>
      (m_syntagmalaw24_Of (⟨x1.l, x1.start⟩ : AutoAuto)).bind fun x13 =>
      (m_syntagmaref24_Norm x13).bind fun x14 =>
      (m_syntagmaref24_SameList x12 x14).bind fun x15 =>
      bif x15 then ((m_syntagmalaw24_works).bind fun x16 =>
      some x16) else (some false)) else (some false)
theorem w_syntagmalaw24_AutoNorms {a1 : AutoAuto} {b1 : AutoAuto} {r : Bool} (hm : m_syntagmalaw24_AutoNorms a1 b1 = some r) : Fn0 Try.prog 11 [AutoAuto.d a1, AutoAuto.d b1] (.bool r) := by
  unfold m_syntagmalaw24_AutoNorms at hm
  refine fn_intro Try.func11 rfl Try.ntmps11 rfl fun H0 fr w0 => ?_
  refine g_seq ?_
  refine g_region ?_
  refine go_p rfl rfl rfl (o_box rfl rfl) ?_
  refine go_p rfl rfl rfl (o_box rfl rfl) ?_
  refine go_p rfl rfl rfl (o_assign rfl) ?_
  refine go_nil ?_
  refine g_seq ?_
  obtain ⟨x1, hx1, hm⟩ := bind_some hm
  obtain ⟨x2, hx2, hm⟩ := bind_some hm
  refine g_draw_f 6 [4, 5] Try_mixed (by decide +kernel) (by decide +kernel) rfl (by decide +kernel) ?_
  refine gdf_p rfl rfl rfl rfl (o_load_agg Try.isAgg78 Try.sizeOf78 rfl rfl) ?_
  refine gdf_p rfl rfl rfl rfl (o_call0 Try.call45 rfl (w_syntagmalaw24_Give hx1)) ?_
  refine gdf_p rfl rfl rfl rfl (o_load_agg Try.isAgg78 Try.sizeOf78 rfl rfl) ?_
  refine gdf_p rfl rfl rfl rfl (o_call0 Try.call45 rfl (w_syntagmalaw24_Give hx2)) ?_
  refine gdf_fresh (R := fun d A => ∃ b, d = .v (.pointer (some ⟨b, 0, none⟩)) ∧ A = box b 81 [.list 13 AutoState.d [], .i64 0]) rfl rfl rfl (OpT.mono (o_alloc_own Try.zeroValue81 (cs := [.list 13 AutoState.d [], .i64 0]) rfl) (by rintro d ms' ⟨b, rfl, rfl⟩; exact ⟨_, ⟨b, rfl, rfl⟩, rfl⟩)) ?_
  refine gdf_fresh (R := fun d A => ∃ b, d = .v (.pointer (some ⟨b, 0, none⟩)) ∧ A = box b 81 [.list 13 AutoState.d [], .i64 0]) rfl rfl rfl (OpT.mono (o_alloc_own Try.zeroValue81 (cs := [.list 13 AutoState.d [], .i64 0]) rfl) (by rintro d ms' ⟨b, rfl, rfl⟩; exact ⟨_, ⟨b, rfl, rfl⟩, rfl⟩)) ?_
  refine gdf_nil ?_
  rintro _ _ ⟨b1, rfl, rfl⟩
  rintro _ _ ⟨b2, rfl, rfl⟩
  refine go_u rfl rfl (o_store_box 0 Try.sizeOf81 rfl rfl rfl rfl rfl rfl rfl rfl (Nat.le_of_ble_eq_true rfl)) ?_
  rintro _ _ rfl
  refine go_ms (ms' := [box b1 81 [_, _], box b2 81 [_, _]]) rfl ?_
  refine go_u rfl rfl (o_store_box 1 Try.sizeOf81 rfl rfl rfl rfl rfl rfl rfl rfl (Nat.le_of_ble_eq_true rfl)) ?_
  rintro _ _ rfl
  refine go_ms (ms' := [box b1 81 [_, _], box b2 81 [_, _]]) rfl ?_
  refine go_nil ?_
  refine g_seq ?_
  refine g_region ?_
  refine go_p rfl rfl rfl (o_load_box_agg 0 Try.isAgg81 Try.sizeOf81 rfl rfl rfl rfl (Nat.le_of_ble_eq_true rfl)) ?_
  obtain ⟨⟨x3, x4⟩, hx3, hm⟩ := bind_some hm
  refine go_p rfl rfl rfl (o_call0 Try.call52 rfl (w_auto_Norm hx3)) ?_
  refine go_p rfl rfl rfl (o_move rfl) ?_
  refine go_p rfl rfl rfl (o_extract rfl rfl) ?_
  refine go_p rfl rfl rfl (o_extract rfl rfl) ?_
  refine go_op rfl rfl rfl (o_alloc_own Try.zeroValue81 (cs := [.list 13 AutoState.d [], .i64 0]) rfl) ?_
  rintro _ _ ⟨b3, rfl, rfl⟩
  refine go_u rfl rfl (o_store_box 0 Try.sizeOf81 rfl rfl rfl rfl rfl rfl rfl rfl (Nat.le_of_ble_eq_true rfl)) ?_
  rintro _ _ rfl
  refine go_ms (ms' := [box b3 81 [_, _], box b1 81 [_, _], box b2 81 [_, _]]) rfl ?_
  refine go_p rfl rfl rfl (o_assign rfl) ?_
  refine go_nil ?_
  refine g_seq ?_
  refine g_seq ?_
  obtain ⟨x5, hx4, hm⟩ := bind_some hm
  obtain ⟨x6, hx5, hm⟩ := bind_some hm
  obtain ⟨x7, hx6, hm⟩ := bind_some hm
  obtain ⟨x8, hx7, hm⟩ := bind_some hm
  refine g_draw 9 Try_mixed (by decide +kernel) ?_
  refine gd_p rfl rfl rfl (o_load_box_agg 1 Try.isAgg81 Try.sizeOf81 rfl rfl rfl rfl (Nat.le_of_ble_eq_true rfl)) ?_
  refine gd_p rfl rfl rfl (o_load_box_agg 2 Try.isAgg81 Try.sizeOf81 rfl rfl rfl rfl (Nat.le_of_ble_eq_true rfl)) ?_
  refine gd_p rfl rfl rfl (o_call0 Try.call53 rfl (w_auto_Same hx4)) ?_
  refine gd_p rfl rfl rfl (o_load_box_agg 1 Try.isAgg81 Try.sizeOf81 rfl rfl rfl rfl (Nat.le_of_ble_eq_true rfl)) ?_
  refine gd_p rfl rfl rfl (o_call0 Try.call46 rfl (w_syntagmalaw24_Of hx5)) ?_
  refine gd_p rfl rfl rfl (o_load_box_agg 2 Try.isAgg81 Try.sizeOf81 rfl rfl rfl rfl (Nat.le_of_ble_eq_true rfl)) ?_
  refine gd_p rfl rfl rfl (o_call0 Try.call46 rfl (w_syntagmalaw24_Of hx6)) ?_
  refine gd_p rfl rfl rfl (o_call0 Try.call54 rfl (w_syntagmaref24_Same hx7)) ?_
  refine gd_p rfl rfl rfl (o_neqb Try.runUnderlying4 rfl rfl) ?_
  refine gd_nil ?_
  refine go_nil ?_
  refine g_cond rfl (fun hc1 => ?_) (fun hc1 => ?_)
  · replace hm := cond_t hc1 hm
    refine g_seq ?_
    refine g_region ?_
    refine go_p rfl rfl rfl (o_assign rfl) ?_
    refine go_nil ?_
    refine g_ret ?_
    exact retK (ret_one' rfl (ret_tmp rfl) (perm_drop _)) (congrArg (fun (p : Bool) => (.bool p : D)) (some_eq hm))
  · replace hm := cond_f hc1 hm
    refine g_skip ?_
    refine g_seq ?_
    refine g_seq ?_
    refine g_region ?_
    refine go_p rfl rfl rfl (o_load_box_agg 1 Try.isAgg81 Try.sizeOf81 rfl rfl rfl rfl (Nat.le_of_ble_eq_true rfl)) ?_
    obtain ⟨x9, hx8, hm⟩ := bind_some hm
    refine go_p rfl rfl rfl (o_call0 Try.call46 rfl (w_syntagmalaw24_Of hx8)) ?_
    obtain ⟨x10, hx9, hm⟩ := bind_some hm
    refine go_p rfl rfl rfl (o_call0 Try.call48 rfl (w_syntagmaref24_May hx9)) ?_
    refine go_p rfl rfl rfl (o_assign rfl) ?_
    refine go_nil ?_
    refine g_seq ?_
    refine g_region ?_
    refine go_p rfl rfl rfl (o_move rfl) ?_
    refine go_p rfl rfl rfl (o_cmp rfl rfl rfl) ?_
    refine go_nil ?_
    refine g_cond rfl (fun hc2 => ?_) (fun hc2 => ?_)
    · replace hm := cond_t hc2 hm
      refine g_seq ?_
      refine g_region ?_
      refine go_p rfl rfl rfl (o_move rfl) ?_
      refine go_p rfl rfl rfl (o_move rfl) ?_
      refine go_p rfl rfl rfl (o_cmp rfl rfl rfl) ?_
      refine go_p rfl rfl rfl (o_move rfl) ?_
      apply go_and [] 5 41 (t := 36) trivial rfl
      · intro hg_1 hk1
        refine go_wantp rfl rfl rfl hg_1 rfl rfl (o_fieldAddr_box fi_81_0 rfl) ?_
        refine go_wantp rfl rfl rfl hg_1 rfl rfl (o_load_box 0 Try.isAgg79 rfl rfl rfl rfl) ?_
        refine go_wantp rfl rfl rfl hg_1 rfl rfl (o_len Try.runUnderlying79 rfl) ?_
        refine go_wantp rfl rfl rfl hg_1 rfl rfl (o_cmp rfl rfl rfl) ?_
        refine go_p rfl rfl rfl (o_pickT rfl hg_1 rfl) ?_
        exact go_meet hk1 (rfl) trivial
      · intro hg_1 hk1
        refine go_skip rfl rfl rfl hg_1 rfl rfl ?_
        refine go_skip rfl rfl rfl hg_1 rfl rfl ?_
        refine go_skip rfl rfl rfl hg_1 rfl rfl ?_
        refine go_skip rfl rfl rfl hg_1 rfl rfl ?_
        refine go_p rfl rfl rfl (o_pickF rfl hg_1 rfl) ?_
        exact go_meet hk1 (rfl) trivial
      refine go_p rfl rfl rfl (o_move rfl) ?_
      obtain ⟨p1, hp_2, hm⟩ := bind_some hm
      refine go_two [] 2 44 p1 (t := 42) trivial rfl (fun hg_2 hk2 => ?_) (fun hg_2 hk2 => ?_) ?_
      · replace hp_2 := cond_t hg_2 hp_2
        obtain ⟨x11, hx10, hp_2⟩ := bind_some hp_2
        refine go_wantp rfl rfl rfl hg_2 rfl rfl (o_call0 Try.call49 rfl (w_syntagmalaw24_works hx10)) ?_
        refine go_p rfl rfl rfl (o_pickT rfl hg_2 rfl) ?_
        exact go_meet hk2 (congrArg (fun b => some (D.bool b)) (some_eq hp_2)) trivial
      · replace hp_2 := cond_f hg_2 hp_2
        refine go_skip rfl rfl rfl hg_2 rfl rfl ?_
        refine go_p rfl rfl rfl (o_pickF rfl hg_2 rfl) ?_
        exact go_meet hk2 (congrArg (fun b => some (D.bool b)) (some_eq hp_2)) trivial
      refine go_p rfl rfl rfl (o_assign rfl) ?_
      refine go_nil ?_
      refine g_ret ?_
      exact retK (ret_one' rfl (ret_tmp rfl) (perm_drop _)) (congrArg (fun (p : Bool) => (.bool p : D)) (some_eq hm))
    · replace hm := cond_f hc2 hm
      refine g_skip ?_
      refine g_seq ?_
      rcases cond_split hm with ⟨hg_3, hm⟩ | ⟨hg_3, hm⟩
      ·
        skip
        obtain ⟨x12, hx11, hm⟩ := bind_some hm
        obtain ⟨x13, hx12, hm⟩ := bind_some hm
        obtain ⟨x14, hx13, hm⟩ := bind_some hm
        obtain ⟨x15, hx14, hm⟩ := bind_some hm
        rcases cond_split hm with ⟨hg_4, hm⟩ | ⟨hg_4, hm⟩
        ·
          skip
          obtain ⟨x16, hx15, hm⟩ := bind_some hm
          refine g_draw 14 Try_mixed (by decide +kernel) ?_
          refine gd_p rfl rfl rfl (o_move rfl) ?_
          refine gd_p rfl rfl rfl (o_cmp rfl rfl rfl) ?_
          refine gd_p rfl rfl rfl (o_move rfl) ?_
          refine gd_want rfl rfl rfl hg_3 rfl rfl (o_load_box_agg 0 Try.isAgg81 Try.sizeOf81 rfl rfl rfl rfl (Nat.le_of_ble_eq_true rfl)) ?_
          refine gd_want rfl rfl rfl hg_3 rfl rfl (o_call0 Try.call46 rfl (w_syntagmalaw24_Of hx11)) ?_
          refine gd_want rfl rfl rfl hg_3 rfl rfl (o_load_box_agg 1 Try.isAgg81 Try.sizeOf81 rfl rfl rfl rfl (Nat.le_of_ble_eq_true rfl)) ?_
          refine gd_want rfl rfl rfl hg_3 rfl rfl (o_call0 Try.call46 rfl (w_syntagmalaw24_Of hx12)) ?_
          refine gd_want rfl rfl rfl hg_3 rfl rfl (o_call0 Try.call56 rfl (w_syntagmaref24_Norm hx13)) ?_
          refine gd_want rfl rfl rfl hg_3 rfl rfl (o_call0 Try.call55 rfl (w_syntagmaref24_SameList hx14)) ?_
          refine gd_p rfl rfl rfl (o_pickT rfl hg_3 rfl) ?_
          refine gd_p rfl rfl rfl (o_move rfl) ?_
          refine gd_want rfl rfl rfl hg_4 rfl rfl (o_call0 Try.call49 rfl (w_syntagmalaw24_works hx15)) ?_
          refine gd_p rfl rfl rfl (o_pickT rfl hg_4 rfl) ?_
          refine gd_p rfl rfl rfl (o_assign rfl) ?_
          refine gd_nil ?_
          refine go_nil ?_
          refine g_ret ?_
          exact retK (ret_one' rfl (ret_tmp rfl) (perm_drop _)) (congrArg (fun (p : Bool) => (.bool p : D)) (some_eq hm))
        ·
          skip
          refine g_draw 14 Try_mixed (by decide +kernel) ?_
          refine gd_p rfl rfl rfl (o_move rfl) ?_
          refine gd_p rfl rfl rfl (o_cmp rfl rfl rfl) ?_
          refine gd_p rfl rfl rfl (o_move rfl) ?_
          refine gd_want rfl rfl rfl hg_3 rfl rfl (o_load_box_agg 0 Try.isAgg81 Try.sizeOf81 rfl rfl rfl rfl (Nat.le_of_ble_eq_true rfl)) ?_
          refine gd_want rfl rfl rfl hg_3 rfl rfl (o_call0 Try.call46 rfl (w_syntagmalaw24_Of hx11)) ?_
          refine gd_want rfl rfl rfl hg_3 rfl rfl (o_load_box_agg 1 Try.isAgg81 Try.sizeOf81 rfl rfl rfl rfl (Nat.le_of_ble_eq_true rfl)) ?_
          refine gd_want rfl rfl rfl hg_3 rfl rfl (o_call0 Try.call46 rfl (w_syntagmalaw24_Of hx12)) ?_
          refine gd_want rfl rfl rfl hg_3 rfl rfl (o_call0 Try.call56 rfl (w_syntagmaref24_Norm hx13)) ?_
          refine gd_want rfl rfl rfl hg_3 rfl rfl (o_call0 Try.call55 rfl (w_syntagmaref24_SameList hx14)) ?_
          refine gd_p rfl rfl rfl (o_pickT rfl hg_3 rfl) ?_
          refine gd_p rfl rfl rfl (o_move rfl) ?_
          refine gd_skip rfl rfl rfl hg_4 rfl rfl ?_
          refine gd_p rfl rfl rfl (o_pickF rfl hg_4 rfl) ?_
          refine gd_p rfl rfl rfl (o_assign rfl) ?_
          refine gd_nil ?_
          refine go_nil ?_
          refine g_ret ?_
          exact retK (ret_one' rfl (ret_tmp rfl) (perm_drop _)) (congrArg (fun (p : Bool) => (.bool p : D)) (some_eq hm))
      ·
        skip
        refine g_draw 14 Try_mixed (by decide +kernel) ?_
        refine gd_p rfl rfl rfl (o_move rfl) ?_
        refine gd_p rfl rfl rfl (o_cmp rfl rfl rfl) ?_
        refine gd_p rfl rfl rfl (o_move rfl) ?_
        refine gd_skip rfl rfl rfl hg_3 rfl rfl ?_
        refine gd_skip rfl rfl rfl hg_3 rfl rfl ?_
        refine gd_skip rfl rfl rfl hg_3 rfl rfl ?_
        refine gd_skip rfl rfl rfl hg_3 rfl rfl ?_
        refine gd_skip rfl rfl rfl hg_3 rfl rfl ?_
        refine gd_skip rfl rfl rfl hg_3 rfl rfl ?_
        refine gd_p rfl rfl rfl (o_pickF rfl hg_3 rfl) ?_
        refine gd_p rfl rfl rfl (o_move rfl) ?_
        refine gd_skip rfl rfl rfl rfl rfl rfl ?_
        refine gd_p rfl rfl rfl (o_pickF rfl rfl rfl) ?_
        refine gd_p rfl rfl rfl (o_assign rfl) ?_
        refine gd_nil ?_
        refine go_nil ?_
        refine g_ret ?_
        exact retK (ret_one' rfl (ret_tmp rfl) (perm_drop _)) (congrArg (fun (p : Bool) => (.bool p : D)) (some_eq hm))

def m_syntagmalaw24_AutoStays (a1 : AutoAuto) : Option Bool :=
  (m_syntagmalaw24_works).bind fun x1 =>
  bif (!x1) then
    some false
  else
    (m_syntagmalaw24_Give a1 30).bind fun x2 =>
    (m_auto_Norm (⟨x2.l, x2.start⟩ : AutoAuto)).bind fun (x3, x4) =>
    bif (!decide (x4 = 0)) then
      some (decide ((x3.l.length : Int) = 0))
    else
      (m_auto_Norm (⟨x3.l, x3.start⟩ : AutoAuto)).bind fun (x5, x6) =>
      bif (decide (x6 = 0)) then ((m_syntagmalaw24_Of (⟨x3.l, x3.start⟩ : AutoAuto)).bind fun x7 =>
      (m_syntagmalaw24_Of (⟨x5.l, x5.start⟩ : AutoAuto)).bind fun x8 =>
      (m_syntagmaref24_SameList x7 x8).bind fun x9 =>
      bif x9 then ((m_auto_Same (⟨x2.l, x2.start⟩ : AutoAuto) (⟨x3.l, x3.start⟩ : AutoAuto)).bind fun x10 =>
      some x10) else (some false)) else (some false)
theorem w_syntagmalaw24_AutoStays {a1 : AutoAuto} {r : Bool} (hm : m_syntagmalaw24_AutoStays a1 = some r) : Fn0 Try.prog 12 [AutoAuto.d a1] (.bool r) := by
  unfold m_syntagmalaw24_AutoStays at hm
  refine fn_intro Try.func12 rfl Try.ntmps12 rfl fun H0 fr w0 => ?_
  refine g_seq ?_
  refine g_region ?_
  refine go_p rfl rfl rfl (o_box rfl rfl) ?_
  refine go_p rfl rfl rfl (o_assign rfl) ?_
  refine go_nil ?_
  refine g_seq ?_
  refine g_seq ?_
  refine g_region ?_
  obtain ⟨x1, hx1, hm⟩ := bind_some hm
  refine go_p rfl rfl rfl (o_call0 Try.call49 rfl (w_syntagmalaw24_works hx1)) ?_
  refine go_p rfl rfl rfl (o_not rfl) ?_
  refine go_nil ?_
  refine g_cond rfl (fun hc1 => ?_) (fun hc1 => ?_)
  · replace hm := cond_t hc1 hm
    refine g_seq ?_
    refine g_region ?_
    refine go_p rfl rfl rfl (o_assign rfl) ?_
    refine go_nil ?_
    refine g_ret ?_
    exact retK (ret_one' rfl (ret_tmp rfl) (perm_drop _)) (congrArg (fun (p : Bool) => (.bool p : D)) (some_eq hm))
  · replace hm := cond_f hc1 hm
    refine g_skip ?_
    refine g_seq ?_
    refine g_region ?_
    refine go_p rfl rfl rfl (o_load_agg Try.isAgg78 Try.sizeOf78 rfl rfl) ?_
    obtain ⟨x2, hx2, hm⟩ := bind_some hm
    refine go_p rfl rfl rfl (o_call0 Try.call45 rfl (w_syntagmalaw24_Give hx2)) ?_
    refine go_op rfl rfl rfl (o_alloc_own Try.zeroValue81 (cs := [.list 13 AutoState.d [], .i64 0]) rfl) ?_
    rintro _ _ ⟨b1, rfl, rfl⟩
    refine go_u rfl rfl (o_store_box 0 Try.sizeOf81 rfl rfl rfl rfl rfl rfl rfl rfl (Nat.le_of_ble_eq_true rfl)) ?_
    rintro _ _ rfl
    refine go_ms (ms' := [box b1 81 [_, _]]) rfl ?_
    refine go_nil ?_
    refine g_seq ?_
    refine g_region ?_
    refine go_p rfl rfl rfl (o_load_box_agg 0 Try.isAgg81 Try.sizeOf81 rfl rfl rfl rfl (Nat.le_of_ble_eq_true rfl)) ?_
    obtain ⟨⟨x3, x4⟩, hx3, hm⟩ := bind_some hm
    refine go_p rfl rfl rfl (o_call0 Try.call52 rfl (w_auto_Norm hx3)) ?_
    refine go_p rfl rfl rfl (o_move rfl) ?_
    refine go_p rfl rfl rfl (o_extract rfl rfl) ?_
    refine go_p rfl rfl rfl (o_extract rfl rfl) ?_
    refine go_op rfl rfl rfl (o_alloc_own Try.zeroValue81 (cs := [.list 13 AutoState.d [], .i64 0]) rfl) ?_
    rintro _ _ ⟨b2, rfl, rfl⟩
    refine go_u rfl rfl (o_store_box 0 Try.sizeOf81 rfl rfl rfl rfl rfl rfl rfl rfl (Nat.le_of_ble_eq_true rfl)) ?_
    rintro _ _ rfl
    refine go_ms (ms' := [box b2 81 [_, _], box b1 81 [_, _]]) rfl ?_
    refine go_p rfl rfl rfl (o_assign rfl) ?_
    refine go_nil ?_
    refine g_seq ?_
    refine g_seq ?_
    refine g_region ?_
    refine go_p rfl rfl rfl (o_move rfl) ?_
    refine go_p rfl rfl rfl (o_cmp rfl rfl rfl) ?_
    refine go_nil ?_
    refine g_cond rfl (fun hc2 => ?_) (fun hc2 => ?_)
    · replace hm := cond_t hc2 hm
      refine g_seq ?_
      refine g_region ?_
      refine go_p rfl rfl rfl (o_fieldAddr_box fi_81_0 rfl) ?_
      refine go_p rfl rfl rfl (o_load_box 0 Try.isAgg79 rfl rfl rfl rfl) ?_
      refine go_p rfl rfl rfl (o_len Try.runUnderlying79 rfl) ?_
      refine go_p rfl rfl rfl (o_cmp rfl rfl rfl) ?_
      refine go_p rfl rfl rfl (o_assign rfl) ?_
      refine go_nil ?_
      refine g_ret ?_
      exact retK (ret_one' rfl (ret_tmp rfl) (perm_drop _)) (congrArg (fun (p : Bool) => (.bool p : D)) (some_eq hm))
    · replace hm := cond_f hc2 hm
      refine g_skip ?_
      refine g_seq ?_
      refine g_region ?_
      refine go_p rfl rfl rfl (o_load_box_agg 0 Try.isAgg81 Try.sizeOf81 rfl rfl rfl rfl (Nat.le_of_ble_eq_true rfl)) ?_
      obtain ⟨⟨x5, x6⟩, hx4, hm⟩ := bind_some hm
      refine go_p rfl rfl rfl (o_call0 Try.call52 rfl (w_auto_Norm hx4)) ?_
      refine go_p rfl rfl rfl (o_move rfl) ?_
      refine go_p rfl rfl rfl (o_extract rfl rfl) ?_
      refine go_p rfl rfl rfl (o_extract rfl rfl) ?_
      refine go_op rfl rfl rfl (o_alloc_own Try.zeroValue81 (cs := [.list 13 AutoState.d [], .i64 0]) rfl) ?_
      rintro _ _ ⟨b3, rfl, rfl⟩
      refine go_u rfl rfl (o_store_box 0 Try.sizeOf81 rfl rfl rfl rfl rfl rfl rfl rfl (Nat.le_of_ble_eq_true rfl)) ?_
      rintro _ _ rfl
      refine go_ms (ms' := [box b3 81 [_, _], box b2 81 [_, _], box b1 81 [_, _]]) rfl ?_
      refine go_p rfl rfl rfl (o_assign rfl) ?_
      refine go_nil ?_
      refine g_seq ?_
      rcases cond_split hm with ⟨hg_1, hm⟩ | ⟨hg_1, hm⟩
      ·
        skip
        obtain ⟨x7, hx5, hm⟩ := bind_some hm
        obtain ⟨x8, hx6, hm⟩ := bind_some hm
        obtain ⟨x9, hx7, hm⟩ := bind_some hm
        rcases cond_split hm with ⟨hg_2, hm⟩ | ⟨hg_2, hm⟩
        ·
          skip
          obtain ⟨x10, hx8, hm⟩ := bind_some hm
          refine g_draw 15 Try_mixed (by decide +kernel) ?_
          refine gd_p rfl rfl rfl (o_move rfl) ?_
          refine gd_p rfl rfl rfl (o_cmp rfl rfl rfl) ?_
          refine gd_p rfl rfl rfl (o_move rfl) ?_
          refine gd_want rfl rfl rfl hg_1 rfl rfl (o_load_box_agg 1 Try.isAgg81 Try.sizeOf81 rfl rfl rfl rfl (Nat.le_of_ble_eq_true rfl)) ?_
          refine gd_want rfl rfl rfl hg_1 rfl rfl (o_call0 Try.call46 rfl (w_syntagmalaw24_Of hx5)) ?_
          refine gd_want rfl rfl rfl hg_1 rfl rfl (o_load_box_agg 0 Try.isAgg81 Try.sizeOf81 rfl rfl rfl rfl (Nat.le_of_ble_eq_true rfl)) ?_
          refine gd_want rfl rfl rfl hg_1 rfl rfl (o_call0 Try.call46 rfl (w_syntagmalaw24_Of hx6)) ?_
          refine gd_want rfl rfl rfl hg_1 rfl rfl (o_call0 Try.call55 rfl (w_syntagmaref24_SameList hx7)) ?_
          refine gd_p rfl rfl rfl (o_pickT rfl hg_1 rfl) ?_
          refine gd_p rfl rfl rfl (o_move rfl) ?_
          refine gd_want rfl rfl rfl hg_2 rfl rfl (o_load_box_agg 2 Try.isAgg81 Try.sizeOf81 rfl rfl rfl rfl (Nat.le_of_ble_eq_true rfl)) ?_
          refine gd_want rfl rfl rfl hg_2 rfl rfl (o_load_box_agg 1 Try.isAgg81 Try.sizeOf81 rfl rfl rfl rfl (Nat.le_of_ble_eq_true rfl)) ?_
          refine gd_want rfl rfl rfl hg_2 rfl rfl (o_call0 Try.call53 rfl (w_auto_Same hx8)) ?_
          refine gd_p rfl rfl rfl (o_pickT rfl hg_2 rfl) ?_
          refine gd_p rfl rfl rfl (o_assign rfl) ?_
          refine gd_nil ?_
          refine go_nil ?_
          refine g_ret ?_
          exact retK (ret_one' rfl (ret_tmp rfl) (perm_drop _)) (congrArg (fun (p : Bool) => (.bool p : D)) (some_eq hm))
        ·
          skip
          refine g_draw 15 Try_mixed (by decide +kernel) ?_
          refine gd_p rfl rfl rfl (o_move rfl) ?_
          refine gd_p rfl rfl rfl (o_cmp rfl rfl rfl) ?_
          refine gd_p rfl rfl rfl (o_move rfl) ?_
          refine gd_want rfl rfl rfl hg_1 rfl rfl (o_load_box_agg 1 Try.isAgg81 Try.sizeOf81 rfl rfl rfl rfl (Nat.le_of_ble_eq_true rfl)) ?_
          refine gd_want rfl rfl rfl hg_1 rfl rfl (o_call0 Try.call46 rfl (w_syntagmalaw24_Of hx5)) ?_
          refine gd_want rfl rfl rfl hg_1 rfl rfl (o_load_box_agg 0 Try.isAgg81 Try.sizeOf81 rfl rfl rfl rfl (Nat.le_of_ble_eq_true rfl)) ?_
          refine gd_want rfl rfl rfl hg_1 rfl rfl (o_call0 Try.call46 rfl (w_syntagmalaw24_Of hx6)) ?_
          refine gd_want rfl rfl rfl hg_1 rfl rfl (o_call0 Try.call55 rfl (w_syntagmaref24_SameList hx7)) ?_
          refine gd_p rfl rfl rfl (o_pickT rfl hg_1 rfl) ?_
          refine gd_p rfl rfl rfl (o_move rfl) ?_
          refine gd_skip rfl rfl rfl hg_2 rfl rfl ?_
          refine gd_skip rfl rfl rfl hg_2 rfl rfl ?_
          refine gd_skip rfl rfl rfl hg_2 rfl rfl ?_
          refine gd_p rfl rfl rfl (o_pickF rfl hg_2 rfl) ?_
          refine gd_p rfl rfl rfl (o_assign rfl) ?_
          refine gd_nil ?_
          refine go_nil ?_
          refine g_ret ?_
          exact retK (ret_one' rfl (ret_tmp rfl) (perm_drop _)) (congrArg (fun (p : Bool) => (.bool p : D)) (some_eq hm))
      ·
        skip
        refine g_draw 15 Try_mixed (by decide +kernel) ?_
        refine gd_p rfl rfl rfl (o_move rfl) ?_
        refine gd_p rfl rfl rfl (o_cmp rfl rfl rfl) ?_
        refine gd_p rfl rfl rfl (o_move rfl) ?_
        refine gd_skip rfl rfl rfl hg_1 rfl rfl ?_
        refine gd_skip rfl rfl rfl hg_1 rfl rfl ?_
        refine gd_skip rfl rfl rfl hg_1 rfl rfl ?_
        refine gd_skip rfl rfl rfl hg_1 rfl rfl ?_
        refine gd_skip rfl rfl rfl hg_1 rfl rfl ?_
        refine gd_p rfl rfl rfl (o_pickF rfl hg_1 rfl) ?_
        refine gd_p rfl rfl rfl (o_move rfl) ?_
        refine gd_skip rfl rfl rfl rfl rfl rfl ?_
        refine gd_skip rfl rfl rfl rfl rfl rfl ?_
        refine gd_skip rfl rfl rfl rfl rfl rfl ?_
        refine gd_p rfl rfl rfl (o_pickF rfl rfl rfl) ?_
        refine gd_p rfl rfl rfl (o_assign rfl) ?_
        refine gd_nil ?_
        refine go_nil ?_
        refine g_ret ?_
        exact retK (ret_one' rfl (ret_tmp rfl) (perm_drop _)) (congrArg (fun (p : Bool) => (.bool p : D)) (some_eq hm))

end Go.Proofs.Ytfcifodaohhcbaa
