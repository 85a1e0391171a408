/- Part 4 of the proof: a program logic, what the functions compute, and what these answer; no condition. -/
import Derived.Test.Ytnnjgbcojdnhhaap3
import Derived.Test.YtnnjgbcojdnhhaaProg
set_option linter.unusedVariables false
set_option linter.unusedSimpArgs false
set_option maxRecDepth 100000
set_option maxHeartbeats 2000000
namespace Go.Proofs.Ytnnjgbcojdnhhaa
open Go.V
theorem w_syntagmaref03_Name {s1 : (List UInt8)} {r_1 : Bool} (hm : m_syntagmaref03_Name s1 = some r_1) : Fn0 Try.prog 58 [.str s1] (.bool r_1) := by
  unfold m_syntagmaref03_Name at hm
  refine fn_intro Try.func58 rfl Try.ntmps58 rfl fun H0 fr w0 => ?_
  refine g_seq ?_
  refine g_region ?_
  refine go_p rfl rfl rfl (o_assign rfl) ?_
  refine go_nil ?_
  refine g_seq ?_
  refine g_region ?_
  refine go_p rfl rfl rfl (o_move rfl) ?_
  refine go_p rfl rfl rfl (o_len_str Try.runUnderlying9 rfl) ?_
  refine go_p rfl rfl rfl (o_cmp rfl rfl rfl) ?_
  refine go_p rfl rfl rfl (o_move rfl) ?_
  apply go_and [(0, _)] 4 10 (t := 6) ⟨rfl, trivial⟩ rfl
  · intro hg_1 hk1
    refine go_wantp rfl rfl rfl hg_1 rfl rfl (o_move rfl) ?_
    refine go_wantp rfl rfl rfl hg_1 rfl rfl (o_len_str Try.runUnderlying9 rfl) ?_
    refine go_wantp rfl rfl rfl hg_1 rfl rfl (o_cmp rfl rfl rfl) ?_
    refine go_p rfl rfl rfl (o_pickT rfl hg_1 rfl) ?_
    exact go_meet hk1 (rfl) ⟨rfl, trivial⟩
  · intro hg_1 hk1
    refine go_skip rfl rfl rfl hg_1 rfl rfl ?_
    refine go_skip rfl rfl rfl hg_1 rfl rfl ?_
    refine go_skip rfl rfl rfl hg_1 rfl rfl ?_
    refine go_p rfl rfl rfl (o_pickF rfl hg_1 rfl) ?_
    exact go_meet hk1 (rfl) ⟨rfl, trivial⟩
  refine go_p rfl rfl rfl (o_move rfl) ?_
  obtain ⟨p1, hp_2, hm⟩ := bind_some hm
  refine go_two [(0, _)] 6 17 p1 (t := 11) ⟨rfl, trivial⟩ rfl (fun hg_2 hk2 => ?_) (fun hg_2 hk2 => ?_) ?_
  · replace hp_2 := cond_t hg_2 hp_2
    refine go_wantp rfl rfl rfl hg_2 rfl rfl (o_move rfl) ?_
    obtain ⟨x1, hx1, hp_2⟩ := bind_some hp_2
    refine go_wantp rfl rfl rfl hg_2 rfl rfl (o_call0 Try.call95 rfl (w_syntagmaref03_Word hx1)) ?_
    refine go_wantp rfl rfl rfl hg_2 rfl rfl (o_move rfl) ?_
    refine go_wantp rfl rfl rfl hg_2 rfl rfl (o_len_str Try.runUnderlying9 rfl) ?_
    refine go_wantp rfl rfl rfl hg_2 rfl rfl (o_cmp rfl rfl rfl) ?_
    refine go_p rfl rfl rfl (o_pickT rfl hg_2 rfl) ?_
    exact go_meet hk2 (congrArg (fun b => some (D.bool b)) (some_eq hp_2)) ⟨rfl, trivial⟩
  · replace hp_2 := cond_f hg_2 hp_2
    refine go_skip rfl rfl rfl hg_2 rfl rfl ?_
    refine go_skip rfl rfl rfl hg_2 rfl rfl ?_
    refine go_skip rfl rfl rfl hg_2 rfl rfl ?_
    refine go_skip rfl rfl rfl hg_2 rfl rfl ?_
    refine go_skip rfl rfl rfl hg_2 rfl rfl ?_
    refine go_p rfl rfl rfl (o_pickF rfl hg_2 rfl) ?_
    exact go_meet hk2 (congrArg (fun b => some (D.bool b)) (some_eq hp_2)) ⟨rfl, trivial⟩
  refine go_p rfl rfl rfl (o_move rfl) ?_
  obtain ⟨p2, hp_3, hm⟩ := bind_some hm
  refine go_two [(0, _)] 4 22 p2 (t := 18) ⟨rfl, trivial⟩ rfl (fun hg_3 hk3 => ?_) (fun hg_3 hk3 => ?_) ?_
  · replace hp_3 := cond_t hg_3 hp_3
    refine go_wantp rfl rfl rfl hg_3 rfl rfl (o_move rfl) ?_
    obtain ⟨c1, hx2, hp_3⟩ := bind_some hp_3
    refine go_wantp rfl rfl rfl hg_3 rfl rfl (o_index_m Try.runUnderlying9 rfl rfl hx2) ?_
    obtain ⟨x2, hx3, hp_3⟩ := bind_some hp_3
    refine go_wantp rfl rfl rfl hg_3 rfl rfl (o_call0 Try.call96 rfl (w_syntagmaref03_small hx3)) ?_
    refine go_p rfl rfl rfl (o_pickT rfl hg_3 rfl) ?_
    exact go_meet hk3 (congrArg (fun b => some (D.bool b)) (some_eq hp_3)) ⟨rfl, trivial⟩
  · replace hp_3 := cond_f hg_3 hp_3
    refine go_skip rfl rfl rfl hg_3 rfl rfl ?_
    refine go_skip rfl rfl rfl hg_3 rfl rfl ?_
    refine go_skip rfl rfl rfl hg_3 rfl rfl ?_
    refine go_p rfl rfl rfl (o_pickF rfl hg_3 rfl) ?_
    exact go_meet hk3 (congrArg (fun b => some (D.bool b)) (some_eq hp_3)) ⟨rfl, trivial⟩
  refine go_p rfl rfl rfl (o_move rfl) ?_
  obtain ⟨p3, hp_4, hm⟩ := bind_some hm
  refine go_two [] 4 27 p3 (t := 23) trivial rfl (fun hg_4 hk4 => ?_) (fun hg_4 hk4 => ?_) ?_
  · replace hp_4 := cond_t hg_4 hp_4
    refine go_wantp rfl rfl rfl hg_4 rfl rfl (o_move rfl) ?_
    obtain ⟨x3, hx4, hp_4⟩ := bind_some hp_4
    refine go_wantp rfl rfl rfl hg_4 rfl rfl (o_call0 Try.call97 rfl (w_syntagmaref03_Keyword hx4)) ?_
    refine go_wantp rfl rfl rfl hg_4 rfl rfl (o_not rfl) ?_
    refine go_p rfl rfl rfl (o_pickT rfl hg_4 rfl) ?_
    exact go_meet hk4 (congrArg (fun b => some (D.bool b)) (some_eq hp_4)) trivial
  · replace hp_4 := cond_f hg_4 hp_4
    refine go_skip rfl rfl rfl hg_4 rfl rfl ?_
    refine go_skip rfl rfl rfl hg_4 rfl rfl ?_
    refine go_skip rfl rfl rfl hg_4 rfl rfl ?_
    refine go_p rfl rfl rfl (o_pickF rfl hg_4 rfl) ?_
    exact go_meet hk4 (congrArg (fun b => some (D.bool b)) (some_eq hp_4)) trivial
  refine go_p rfl rfl rfl (o_assign rfl) ?_
  refine go_nil ?_
  refine g_ret ?_
  exact retK (ret_one' rfl (ret_tmp rfl) (perm_drop _)) (congrArg (fun (p : Bool) => (.bool p : D)) (some_eq hm))
def m_syntagmaref03_Tag (s1 : (List UInt8)) : Option Bool :=
  (bif ((decide (0 < (s1.length : Int))) && (decide ((s1.length : Int) ≤ 20))) then ((m_syntagmaref03_Word s1).bind fun x1 =>
  some (decide (x1 = (s1.length : Int)))) else (some false)).bind fun p1 =>
  (bif p1 then ((idx s1 0).bind fun c1 =>
  (m_syntagmaref03_great c1).bind fun x2 =>
  some x2) else (some false)).bind fun p2 =>
  some p2
theorem w_syntagmaref03_Tag {s1 : (List UInt8)} {r_1 : Bool} (hm : m_syntagmaref03_Tag s1 = some r_1) : Fn0 Try.prog 108 [.str s1] (.bool r_1) := by
  unfold m_syntagmaref03_Tag at hm
  refine fn_intro Try.func108 rfl Try.ntmps108 rfl fun H0 fr w0 => ?_
  refine g_seq ?_
  refine g_region ?_
  refine go_p rfl rfl rfl (o_assign rfl) ?_
  refine go_nil ?_
  refine g_seq ?_
  refine g_region ?_
  refine go_p rfl rfl rfl (o_move rfl) ?_
  refine go_p rfl rfl rfl (o_len_str Try.runUnderlying9 rfl) ?_
  refine go_p rfl rfl rfl (o_cmp rfl rfl rfl) ?_
  refine go_p rfl rfl rfl (o_move rfl) ?_
  apply go_and [(0, _)] 4 10 (t := 6) ⟨rfl, trivial⟩ rfl
  · intro hg_1 hk1
    refine go_wantp rfl rfl rfl hg_1 rfl rfl (o_move rfl) ?_
    refine go_wantp rfl rfl rfl hg_1 rfl rfl (o_len_str Try.runUnderlying9 rfl) ?_
    refine go_wantp rfl rfl rfl hg_1 rfl rfl (o_cmp rfl rfl rfl) ?_
    refine go_p rfl rfl rfl (o_pickT rfl hg_1 rfl) ?_
    exact go_meet hk1 (rfl) ⟨rfl, trivial⟩
  · intro hg_1 hk1
    refine go_skip rfl rfl rfl hg_1 rfl rfl ?_
    refine go_skip rfl rfl rfl hg_1 rfl rfl ?_
    refine go_skip rfl rfl rfl hg_1 rfl rfl ?_
    refine go_p rfl rfl rfl (o_pickF rfl hg_1 rfl) ?_
    exact go_meet hk1 (rfl) ⟨rfl, trivial⟩
  refine go_p rfl rfl rfl (o_move rfl) ?_
  obtain ⟨p1, hp_2, hm⟩ := bind_some hm
  refine go_two [(0, _)] 6 17 p1 (t := 11) ⟨rfl, trivial⟩ rfl (fun hg_2 hk2 => ?_) (fun hg_2 hk2 => ?_) ?_
  · replace hp_2 := cond_t hg_2 hp_2
    refine go_wantp rfl rfl rfl hg_2 rfl rfl (o_move rfl) ?_
    obtain ⟨x1, hx1, hp_2⟩ := bind_some hp_2
    refine go_wantp rfl rfl rfl hg_2 rfl rfl (o_call0 Try.call95 rfl (w_syntagmaref03_Word hx1)) ?_
    refine go_wantp rfl rfl rfl hg_2 rfl rfl (o_move rfl) ?_
    refine go_wantp rfl rfl rfl hg_2 rfl rfl (o_len_str Try.runUnderlying9 rfl) ?_
    refine go_wantp rfl rfl rfl hg_2 rfl rfl (o_cmp rfl rfl rfl) ?_
    refine go_p rfl rfl rfl (o_pickT rfl hg_2 rfl) ?_
    exact go_meet hk2 (congrArg (fun b => some (D.bool b)) (some_eq hp_2)) ⟨rfl, trivial⟩
  · replace hp_2 := cond_f hg_2 hp_2
    refine go_skip rfl rfl rfl hg_2 rfl rfl ?_
    refine go_skip rfl rfl rfl hg_2 rfl rfl ?_
    refine go_skip rfl rfl rfl hg_2 rfl rfl ?_
    refine go_skip rfl rfl rfl hg_2 rfl rfl ?_
    refine go_skip rfl rfl rfl hg_2 rfl rfl ?_
    refine go_p rfl rfl rfl (o_pickF rfl hg_2 rfl) ?_
    exact go_meet hk2 (congrArg (fun b => some (D.bool b)) (some_eq hp_2)) ⟨rfl, trivial⟩
  refine go_p rfl rfl rfl (o_move rfl) ?_
  obtain ⟨p2, hp_3, hm⟩ := bind_some hm
  refine go_two [] 4 22 p2 (t := 18) trivial rfl (fun hg_3 hk3 => ?_) (fun hg_3 hk3 => ?_) ?_
  · replace hp_3 := cond_t hg_3 hp_3
    refine go_wantp rfl rfl rfl hg_3 rfl rfl (o_move rfl) ?_
    obtain ⟨c1, hx2, hp_3⟩ := bind_some hp_3
    refine go_wantp rfl rfl rfl hg_3 rfl rfl (o_index_m Try.runUnderlying9 rfl rfl hx2) ?_
    obtain ⟨x2, hx3, hp_3⟩ := bind_some hp_3
    refine go_wantp rfl rfl rfl hg_3 rfl rfl (o_call0 Try.call130 rfl (w_syntagmaref03_great hx3)) ?_
    refine go_p rfl rfl rfl (o_pickT rfl hg_3 rfl) ?_
    exact go_meet hk3 (congrArg (fun b => some (D.bool b)) (some_eq hp_3)) trivial
  · replace hp_3 := cond_f hg_3 hp_3
    refine go_skip rfl rfl rfl hg_3 rfl rfl ?_
    refine go_skip rfl rfl rfl hg_3 rfl rfl ?_
    refine go_skip rfl rfl rfl hg_3 rfl rfl ?_
    refine go_p rfl rfl rfl (o_pickF rfl hg_3 rfl) ?_
    exact go_meet hk3 (congrArg (fun b => some (D.bool b)) (some_eq hp_3)) trivial
  refine go_p rfl rfl rfl (o_assign rfl) ?_
  refine go_nil ?_
  refine g_ret ?_
  exact retK (ret_one' rfl (ret_tmp rfl) (perm_drop _)) (congrArg (fun (p : Bool) => (.bool p : D)) (some_eq hm))
def m_syntagmaref03_Twice_l1 (l1 : (List (List UInt8))) : Nat → Int → Option (Out Bool Unit)
  | 0, _ => none
  | n + 1, i1 =>
    bif (decide (i1 < (l1.length : Int))) then
      (idx l1 i1).bind fun x1 =>
      (sli l1 0 i1).bind fun l2 =>
      (m_syntagmaref03_In x1 l2).bind fun x2 =>
      bif x2 then
        some (Out.ret true)
      else
        grd (InR (i1 + 1)) <|
        m_syntagmaref03_Twice_l1 l1 n (i1 + 1)
    else
      some (Out.go (()))
def m_syntagmaref03_Twice (l1 : (List (List UInt8))) : Option Bool :=
  ((m_syntagmaref03_Twice_l1 l1 FU 0 : Option (Out Bool Unit))).bind (fun oo => oo.on (fun r1 => some r1) (fun _ =>
  some false))
theorem w_syntagmaref03_Twice {l1 : (List (List UInt8))} {r_1 : Bool} (hm : m_syntagmaref03_Twice l1 = some r_1) : Fn0 Try.prog 143 [.list 1 D.str l1] (.bool r_1) := by
  unfold m_syntagmaref03_Twice at hm
  refine fn_intro Try.func143 rfl Try.ntmps143 rfl fun H0 fr w0 => ?_
  refine g_seq ?_
  refine g_region ?_
  refine go_p rfl rfl rfl (o_assign rfl) ?_
  refine go_nil ?_
  refine g_seq ?_
  refine g_seq ?_
  refine g_region ?_
  refine go_p rfl rfl rfl (o_assign rfl) ?_
  refine go_nil ?_
  obtain ⟨o_1, hj1, hm1⟩ := bind_some hm
  refine g_cut_m [] [] (fun (st : Unit) (hid : Unit) => match st, hid with | _, _ => []) (fun F (st : Unit) (hid : Unit) => match st, hid with | _, _ => []) (fun st => Out.go (st) = o_1) trivial trivial ?_ ?_
  · skip
    refine g_block ?_
    refine g_loop_m [(0, _)] [] (fun (st : Int) (hid : Unit) => match st, hid with | i1, _ => [(3, .i64 i1)]) (fun F (st : Int) (hid : Unit) => match st, hid with | i1, _ => []) () hj1 (fun _ => rfl) ⟨rfl, trivial⟩ trivial ⟨rfl, trivial⟩ rfl ?_
    rintro n i1 _ hj1
    rw [m_syntagmaref03_Twice_l1] at hj1
    refine g_norm (L' := [(3, .i64 i1), (0, _)]) (ms' := []) rfl rfl ?_
    refine g_seq ?_
    refine g_seq ?_
    refine g_region ?_
    refine go_p rfl rfl rfl (o_move rfl) ?_
    refine go_p rfl rfl rfl (o_move rfl) ?_
    refine go_p rfl rfl rfl (o_len Try.runUnderlying62 rfl) ?_
    refine go_p rfl rfl rfl (o_cmp rfl rfl rfl) ?_
    refine go_nil ?_
    refine g_cond rfl (fun hc1 => ?_) (fun hc1 => ?_)
    · replace hj1 := cond_t hc1 hj1
      refine g_skip ?_
      refine g_seq ?_
      refine g_block ?_
      refine g_seq ?_
      obtain ⟨x1, hx1, hj1⟩ := bind_some hj1
      obtain ⟨l2, hx2, hj1⟩ := bind_some hj1
      obtain ⟨x2, hx3, hj1⟩ := bind_some hj1
      refine g_draw 8 Try_mixed (by decide +kernel) ?_
      refine gd_p rfl rfl rfl (o_move rfl) ?_
      refine gd_p rfl rfl rfl (o_move rfl) ?_
      refine gd_p rfl rfl rfl (o_indexAddr_m Try.runUnderlying62 Try.sizeOf9 rfl rfl hx1) ?_
      refine gd_p rfl rfl rfl (o_load Try.isAgg9 rfl rfl) ?_
      refine gd_p rfl rfl rfl (o_move rfl) ?_
      refine gd_p rfl rfl rfl (o_move rfl) ?_
      refine gd_p rfl rfl rfl (o_slice_m Try.runUnderlying62 Try.sizeOf9 rfl rfl ⟨_, rfl⟩ hx2) ?_
      refine gd_p rfl rfl rfl (o_call0 Try.call61 rfl (w_syntagmaref03_In hx3)) ?_
      refine gd_nil ?_
      refine go_nil ?_
      refine g_cond rfl (fun hc2 => ?_) (fun hc2 => ?_)
      · replace hj1 := cond_t hc2 hj1
        refine g_seq ?_
        refine g_region ?_
        refine go_p rfl rfl rfl (o_assign rfl) ?_
        refine go_nil ?_
        refine g_ret ?_
        obtain rfl := some_eq hj1
        replace hm1 := on_ret hm1
        exact retK (ret_one' rfl (ret_tmp rfl) (perm_drop _)) (congrArg (fun (p : Bool) => (.bool p : D)) (some_eq hm1))
      · replace hj1 := cond_f hc2 hj1
        refine g_skip ?_
        refine g_region ?_
        refine go_p rfl rfl rfl (o_move rfl) ?_
        obtain ⟨hg4, hj1⟩ := grd_some hj1
        refine go_p rfl rfl rfl (o_add rfl rfl (i64_id hg4)) ?_
        refine go_p rfl rfl rfl (o_assign rfl) ?_
        refine go_nil ?_
        exact ⟨_, (), hj1, ⟨rfl, trivial⟩, ⟨rfl, trivial⟩, [], rfl⟩
    · replace hj1 := cond_f hc1 hj1
      refine g_exit ?_
      exact ⟨_, (), some_eq hj1, trivial, trivial, [], rfl⟩
  · rintro _ _ hst
    subst hst
    replace hm1 := on_go hm1
    refine k_norm (L' := []) (ms' := []) rfl rfl ?_
    refine g_seq ?_
    refine g_region ?_
    refine go_p rfl rfl rfl (o_assign rfl) ?_
    refine go_nil ?_
    refine g_ret ?_
    exact retK (ret_one' rfl (ret_tmp rfl) (perm_drop _)) (congrArg (fun (p : Bool) => (.bool p : D)) (some_eq hm1))
def m_syntagmaref05_labels_l1 (n1 : ApiNode) : Nat → (Int × (List (List UInt8))) → Option (Out Bool (List (List UInt8)))
  | 0, _ => none
  | n + 1, (i1, l2) =>
    bif (decide (i1 < (n1.l.length : Int))) then
      (idx n1.l i1).bind fun x1 =>
      (bif (decide (n1.kind = 11)) then ((m_syntagmaref03_Name x1.name).bind fun x2 =>
      some ((!x2) || (!decide ((x1.var : List UInt8) = ([] : List UInt8))))) else (some false)).bind fun p1 =>
      (bif p1 then (some true) else ((bif (decide (n1.kind = 14)) then ((m_syntagmaref03_Tag x1.name).bind fun x3 =>
      (bif (!x3) then (some true) else ((m_syntagmaref03_Name x1.var).bind fun x4 =>
      some (!x4))).bind fun p4 =>
      some p4) else (some false)).bind fun p3 =>
      some p3)).bind fun p2 =>
      bif p2 then
        some (Out.ret false)
      else
        grd ((l2.length + ([x1.name] : List _).length) * 16 ≤ 140737488355328) <|
        grd (InR (i1 + 1)) <|
        m_syntagmaref05_labels_l1 n1 n ((i1 + 1), (l2 ++ [x1.name]))
    else
      some (Out.go (l2))
def m_syntagmaref05_labels (n1 : ApiNode) : Option Bool :=
  ((m_syntagmaref05_labels_l1 n1 FU (0, []) : Option (Out Bool (List (List UInt8))))).bind (fun oo => oo.on (fun r1 => some r1) (fun l1 =>
  (bif ((decide ((l1.length : Int) ≤ 30)) && ((decide (n1.kind = 11)) || (decide (0 < (l1.length : Int))))) then ((m_syntagmaref03_Twice l1).bind fun x5 =>
  some (!x5)) else (some false)).bind fun p5 =>
  some p5))
theorem w_syntagmaref05_labels {n1 : ApiNode} {r_1 : Bool} (hm : m_syntagmaref05_labels n1 = some r_1) : Fn0 Try.prog 109 [ApiNode.d n1] (.bool r_1) := by
  unfold m_syntagmaref05_labels at hm
  refine fn_intro Try.func109 rfl Try.ntmps109 rfl fun H0 fr w0 => ?_
  refine g_seq ?_
  refine g_region ?_
  refine go_p rfl rfl rfl (o_box rfl rfl) ?_
  refine go_p rfl rfl rfl (o_assign rfl) ?_
  refine go_nil ?_
  refine g_seq ?_
  refine g_region ?_
  refine go_op rfl rfl rfl (o_buildSlice_row (xs := []) (f := D.str) (l := []) Try.runUnderlying62 Try.sizeOf9 Try.zeroValue9 rfl rfl rfl (fun _ => ⟨rfl, rfl, rfl⟩) rfl (by simp [maxLen])) ?_
  rintro _ _ ⟨a_r1, rfl, rfl⟩
  refine go_p rfl rfl rfl (o_assign rfl) ?_
  refine go_nil ?_
  refine g_seq ?_
  refine g_seq ?_
  refine g_region ?_
  refine go_p rfl rfl rfl (o_assign rfl) ?_
  refine go_nil ?_
  obtain ⟨o_1, hj1, hm1⟩ := bind_some hm
  refine g_cut_m [(1, _)] [] (fun (st : (List (List UInt8))) (hid : (Option Addr × Nat)) => match st, hid with | l1, (a_r1, cap_r1) => [(3, .v (.slice a_r1 l1.length cap_r1))]) (fun F (st : (List (List UInt8))) (hid : (Option Addr × Nat)) => match st, hid with | l1, (a_r1, cap_r1) => [row a_r1 cap_r1 9 1 D.str l1]) (fun st => Out.go (st) = o_1) ⟨rfl, trivial⟩ trivial ?_ ?_
  · skip
    refine g_block ?_
    refine g_loop_m [(1, _)] [] (fun (st : (Int × (List (List UInt8)))) (hid : (Option Addr × Nat)) => match st, hid with | (i1, l2), (a_r1, cap_r1) => [(3, .v (.slice a_r1 l2.length cap_r1)), (4, .i64 i1)]) (fun F (st : (Int × (List (List UInt8)))) (hid : (Option Addr × Nat)) => match st, hid with | (i1, l2), (a_r1, cap_r1) => [row a_r1 cap_r1 9 1 D.str l2]) (_, _) hj1 (fun _ => rfl) ⟨rfl, trivial⟩ trivial ⟨rfl, rfl, trivial⟩ rfl ?_
    rintro n ⟨i1, l2⟩ ⟨a_r1, cap_r1⟩ hj1
    rw [m_syntagmaref05_labels_l1] at hj1
    refine g_norm (L' := [(3, .v (.slice a_r1 l2.length cap_r1)), (4, .i64 i1), (1, _)]) (ms' := [row a_r1 cap_r1 9 1 D.str l2]) rfl rfl ?_
    refine g_seq ?_
    refine g_seq ?_
    refine g_region ?_
    refine go_p rfl rfl rfl (o_move rfl) ?_
    refine go_p rfl rfl rfl (o_fieldAddr fi_40_7 rfl rfl rfl) ?_
    refine go_p rfl rfl rfl (o_load Try.isAgg38 rfl rfl) ?_
    refine go_p rfl rfl rfl (o_len Try.runUnderlying38 rfl) ?_
    refine go_p rfl rfl rfl (o_cmp rfl rfl rfl) ?_
    refine go_nil ?_
    refine g_cond rfl (fun hc1 => ?_) (fun hc1 => ?_)
    · replace hj1 := cond_t hc1 hj1
      refine g_skip ?_
      refine g_seq ?_
      refine g_block ?_
      refine g_seq ?_
      refine g_region ?_
      refine go_p rfl rfl rfl (o_fieldAddr fi_40_7 rfl rfl rfl) ?_
      refine go_p rfl rfl rfl (o_load Try.isAgg38 rfl rfl) ?_
      refine go_p rfl rfl rfl (o_move rfl) ?_
      obtain ⟨x1, hx1, hj1⟩ := bind_some hj1
      refine go_p rfl rfl rfl (o_indexAddr_m Try.runUnderlying38 Try.sizeOf102 rfl rfl hx1) ?_
      refine go_p rfl rfl rfl (o_load_agg Try.isAgg102 Try.sizeOf102 rfl rfl) ?_
      refine go_op rfl rfl rfl (o_alloc_own Try.zeroValue102 (cs := [.str ([] : List UInt8), .str ([] : List UInt8), .i64 0]) rfl) ?_
      rintro _ _ ⟨b1, rfl, rfl⟩
      refine go_u rfl rfl (o_store_box 0 Try.sizeOf102 rfl rfl rfl rfl rfl rfl rfl rfl (Nat.le_of_ble_eq_true rfl)) ?_
      rintro _ _ rfl
      refine go_ms (ms' := [box b1 102 [_, _, _], _]) rfl ?_
      refine go_nil ?_
      refine g_seq ?_
      refine g_seq ?_
      refine g_region ?_
      refine go_p rfl rfl rfl (o_fieldAddr fi_40_0 rfl rfl rfl) ?_
      refine go_p rfl rfl rfl (o_load Try.isAgg3 rfl rfl) ?_
      refine go_p rfl rfl rfl (o_cmp rfl rfl rfl) ?_
      refine go_p rfl rfl rfl (o_move rfl) ?_
      obtain ⟨p1, hp_1, hj1⟩ := bind_some hj1
      refine go_two [(1, _), (3, _), (4, _), (5, _)] 10 32 p1 (t := 22) ⟨rfl, rfl, rfl, rfl, trivial⟩ rfl (fun hg_1 hk1 => ?_) (fun hg_1 hk1 => ?_) ?_
      · replace hp_1 := cond_t hg_1 hp_1
        refine go_wantp rfl rfl rfl hg_1 rfl rfl (o_fieldAddr_box fi_102_0 rfl) ?_
        refine go_wantp rfl rfl rfl hg_1 rfl rfl (o_load_box 0 Try.isAgg9 rfl rfl rfl rfl) ?_
        obtain ⟨x2, hx2, hp_1⟩ := bind_some hp_1
        refine go_wantp rfl rfl rfl hg_1 rfl rfl (o_call0 Try.call58 rfl (w_syntagmaref03_Name hx2)) ?_
        refine go_wantp rfl rfl rfl hg_1 rfl rfl (o_not rfl) ?_
        refine go_wantp rfl rfl rfl hg_1 rfl rfl (o_move rfl) ?_
        apply go_or [(1, _), (3, _), (4, _), (5, _), (22, _)] 4 31 (t := 27) ⟨rfl, rfl, rfl, rfl, rfl, trivial⟩ rfl
        · intro hg_2 hk2
          refine go_wantp rfl rfl rfl hg_2 rfl rfl (o_fieldAddr_box fi_102_1 rfl) ?_
          refine go_wantp rfl rfl rfl hg_2 rfl rfl (o_load_box 0 Try.isAgg9 rfl rfl rfl rfl) ?_
          refine go_wantp rfl rfl rfl hg_2 rfl rfl (o_cmps rfl rfl rfl) ?_
          refine go_wantp rfl rfl rfl hg_1 rfl rfl (o_pickF rfl hg_2 rfl) ?_
          exact go_meet hk2 (rfl) ⟨rfl, rfl, rfl, rfl, rfl, trivial⟩
        · intro hg_2 hk2
          refine go_skip rfl rfl rfl hg_2 rfl rfl ?_
          refine go_skip rfl rfl rfl hg_2 rfl rfl ?_
          refine go_skip rfl rfl rfl hg_2 rfl rfl ?_
          refine go_wantp rfl rfl rfl hg_1 rfl rfl (o_pickT rfl hg_2 rfl) ?_
          exact go_meet hk2 (rfl) ⟨rfl, rfl, rfl, rfl, rfl, trivial⟩
        refine go_p rfl rfl rfl (o_pickT rfl hg_1 rfl) ?_
        exact go_meet hk1 (congrArg (fun b => some (D.bool b)) (some_eq hp_1)) ⟨rfl, rfl, rfl, rfl, trivial⟩
      · replace hp_1 := cond_f hg_1 hp_1
        refine go_skip rfl rfl rfl hg_1 rfl rfl ?_
        refine go_skip rfl rfl rfl hg_1 rfl rfl ?_
        refine go_skip rfl rfl rfl hg_1 rfl rfl ?_
        refine go_skip rfl rfl rfl hg_1 rfl rfl ?_
        refine go_skip rfl rfl rfl hg_1 rfl rfl ?_
        refine go_skipu rfl rfl rfl rfl rfl ?_
        refine go_skipu rfl rfl rfl rfl rfl ?_
        refine go_skipu rfl rfl rfl rfl rfl ?_
        refine go_skip rfl rfl rfl hg_1 rfl rfl ?_
        refine go_p rfl rfl rfl (o_pickF rfl hg_1 rfl) ?_
        exact go_meet hk1 (congrArg (fun b => some (D.bool b)) (some_eq hp_1)) ⟨rfl, rfl, rfl, rfl, trivial⟩
      refine go_p rfl rfl rfl (o_move rfl) ?_
      obtain ⟨p2, hp_3, hj1⟩ := bind_some hj1
      refine go_two [(1, _), (3, _), (4, _), (5, _)] 16 49 p2 (t := 33) ⟨rfl, rfl, rfl, rfl, trivial⟩ rfl (fun hg_3 hk3 => ?_) (fun hg_3 hk3 => ?_) ?_
      · replace hp_3 := cond_t hg_3 hp_3
        refine go_skip rfl rfl rfl hg_3 rfl rfl ?_
        refine go_skip rfl rfl rfl hg_3 rfl rfl ?_
        refine go_skip rfl rfl rfl hg_3 rfl rfl ?_
        refine go_skip rfl rfl rfl hg_3 rfl rfl ?_
        refine go_skipu rfl rfl rfl rfl rfl ?_
        refine go_skipu rfl rfl rfl rfl rfl ?_
        refine go_skipu rfl rfl rfl rfl rfl ?_
        refine go_skipu rfl rfl rfl rfl rfl ?_
        refine go_skipu rfl rfl rfl rfl rfl ?_
        refine go_skipu rfl rfl rfl rfl rfl ?_
        refine go_skipu rfl rfl rfl rfl rfl ?_
        refine go_skipu rfl rfl rfl rfl rfl ?_
        refine go_skipu rfl rfl rfl rfl rfl ?_
        refine go_skipu rfl rfl rfl rfl rfl ?_
        refine go_skip rfl rfl rfl hg_3 rfl rfl ?_
        refine go_p rfl rfl rfl (o_pickT rfl hg_3 rfl) ?_
        exact go_meet hk3 (congrArg (fun b => some (D.bool b)) (some_eq hp_3)) ⟨rfl, rfl, rfl, rfl, trivial⟩
      · replace hp_3 := cond_f hg_3 hp_3
        refine go_wantp rfl rfl rfl hg_3 rfl rfl (o_fieldAddr fi_40_0 rfl rfl rfl) ?_
        refine go_wantp rfl rfl rfl hg_3 rfl rfl (o_load Try.isAgg3 rfl rfl) ?_
        refine go_wantp rfl rfl rfl hg_3 rfl rfl (o_cmp rfl rfl rfl) ?_
        refine go_wantp rfl rfl rfl hg_3 rfl rfl (o_move rfl) ?_
        obtain ⟨p3, hp_4, hp_3⟩ := bind_some hp_3
        refine go_two [(1, _), (3, _), (4, _), (5, _), (33, _)] 11 48 p3 (t := 37) ⟨rfl, rfl, rfl, rfl, rfl, trivial⟩ rfl (fun hg_4 hk4 => ?_) (fun hg_4 hk4 => ?_) ?_
        · replace hp_4 := cond_t hg_4 hp_4
          refine go_wantp rfl rfl rfl hg_4 rfl rfl (o_fieldAddr_box fi_102_0 rfl) ?_
          refine go_wantp rfl rfl rfl hg_4 rfl rfl (o_load_box 0 Try.isAgg9 rfl rfl rfl rfl) ?_
          obtain ⟨x3, hx3, hp_4⟩ := bind_some hp_4
          refine go_wantp rfl rfl rfl hg_4 rfl rfl (o_call0 Try.call108 rfl (w_syntagmaref03_Tag hx3)) ?_
          refine go_wantp rfl rfl rfl hg_4 rfl rfl (o_not rfl) ?_
          refine go_wantp rfl rfl rfl hg_4 rfl rfl (o_move rfl) ?_
          obtain ⟨p4, hp_5, hp_4⟩ := bind_some hp_4
          refine go_two [(1, _), (3, _), (4, _), (5, _), (33, _), (37, _)] 5 47 p4 (t := 42) ⟨rfl, rfl, rfl, rfl, rfl, rfl, trivial⟩ rfl (fun hg_5 hk5 => ?_) (fun hg_5 hk5 => ?_) ?_
          · replace hp_5 := cond_t hg_5 hp_5
            refine go_skip rfl rfl rfl hg_5 rfl rfl ?_
            refine go_skip rfl rfl rfl hg_5 rfl rfl ?_
            refine go_skip rfl rfl rfl hg_5 rfl rfl ?_
            refine go_skip rfl rfl rfl hg_5 rfl rfl ?_
            refine go_wantp rfl rfl rfl hg_4 rfl rfl (o_pickT rfl hg_5 rfl) ?_
            exact go_meet hk5 (congrArg (fun b => some (D.bool b)) (some_eq hp_5)) ⟨rfl, rfl, rfl, rfl, rfl, rfl, trivial⟩
          · replace hp_5 := cond_f hg_5 hp_5
            refine go_wantp rfl rfl rfl hg_5 rfl rfl (o_fieldAddr_box fi_102_1 rfl) ?_
            refine go_wantp rfl rfl rfl hg_5 rfl rfl (o_load_box 0 Try.isAgg9 rfl rfl rfl rfl) ?_
            obtain ⟨x4, hx4, hp_5⟩ := bind_some hp_5
            refine go_wantp rfl rfl rfl hg_5 rfl rfl (o_call0 Try.call58 rfl (w_syntagmaref03_Name hx4)) ?_
            refine go_wantp rfl rfl rfl hg_5 rfl rfl (o_not rfl) ?_
            refine go_wantp rfl rfl rfl hg_4 rfl rfl (o_pickF rfl hg_5 rfl) ?_
            exact go_meet hk5 (congrArg (fun b => some (D.bool b)) (some_eq hp_5)) ⟨rfl, rfl, rfl, rfl, rfl, rfl, trivial⟩
          refine go_wantp rfl rfl rfl hg_3 rfl rfl (o_pickT rfl hg_4 rfl) ?_
          exact go_meet hk4 (congrArg (fun b => some (D.bool b)) (some_eq hp_4)) ⟨rfl, rfl, rfl, rfl, rfl, trivial⟩
        · replace hp_4 := cond_f hg_4 hp_4
          refine go_skip rfl rfl rfl hg_4 rfl rfl ?_
          refine go_skip rfl rfl rfl hg_4 rfl rfl ?_
          refine go_skip rfl rfl rfl hg_4 rfl rfl ?_
          refine go_skip rfl rfl rfl hg_4 rfl rfl ?_
          refine go_skip rfl rfl rfl hg_4 rfl rfl ?_
          refine go_skipu rfl rfl rfl rfl rfl ?_
          refine go_skipu rfl rfl rfl rfl rfl ?_
          refine go_skipu rfl rfl rfl rfl rfl ?_
          refine go_skipu rfl rfl rfl rfl rfl ?_
          refine go_skip rfl rfl rfl hg_4 rfl rfl ?_
          refine go_wantp rfl rfl rfl hg_3 rfl rfl (o_pickF rfl hg_4 rfl) ?_
          exact go_meet hk4 (congrArg (fun b => some (D.bool b)) (some_eq hp_4)) ⟨rfl, rfl, rfl, rfl, rfl, trivial⟩
        refine go_p rfl rfl rfl (o_pickF rfl hg_3 rfl) ?_
        exact go_meet hk3 (congrArg (fun b => some (D.bool b)) (some_eq hp_3)) ⟨rfl, rfl, rfl, rfl, trivial⟩
      refine go_nil ?_
      refine g_cond rfl (fun hc2 => ?_) (fun hc2 => ?_)
      · replace hj1 := cond_t hc2 hj1
        refine g_seq ?_
        refine g_region ?_
        refine go_p rfl rfl rfl (o_assign rfl) ?_
        refine go_nil ?_
        refine g_ret ?_
        obtain rfl := some_eq hj1
        replace hm1 := on_ret hm1
        exact retK (ret_one' rfl (ret_tmp rfl) (perm_drop _)) (congrArg (fun (p : Bool) => (.bool p : D)) (some_eq hm1))
      · replace hj1 := cond_f hc2 hj1
        refine g_skip ?_
        refine g_region ?_
        refine go_p rfl rfl rfl (o_move rfl) ?_
        refine go_p rfl rfl rfl (o_fieldAddr_box fi_102_0 rfl) ?_
        refine go_p rfl rfl rfl (o_load_box 0 Try.isAgg9 rfl rfl rfl rfl) ?_
        refine go_p rfl rfl rfl (o_buildSlice (xs := [_]) (f := D.str) (l := [_]) Try.runUnderlying62 Try.sizeOf9 Try.zeroValue9 rfl rfl rfl (fun _ => ⟨rfl, rfl, rfl⟩) rfl) ?_
        obtain ⟨hg5, hj1⟩ := grd_some hj1
        refine go_op rfl rfl rfl (o_append (a := _) 1 Try.underlying62 Try.type9 rfl rfl rfl rfl rfl rfl rfl (fun _ => rfl) (fun _ => rfl) hg5 (app_len hg5 rfl)) ?_
        rintro _ _ ⟨a_r1, cap_r1, rfl, rfl⟩
        refine go_ms (ms' := [box b1 102 [_, _, _], _]) rfl ?_
        refine go_p rfl rfl rfl (o_assign rfl) ?_
        refine go_nil ?_
        refine g_region ?_
        refine go_p rfl rfl rfl (o_move rfl) ?_
        obtain ⟨hg6, hj1⟩ := grd_some hj1
        refine go_p rfl rfl rfl (o_add rfl rfl (i64_id hg6)) ?_
        refine go_p rfl rfl rfl (o_assign rfl) ?_
        refine go_nil ?_
        exact ⟨_, (_, _), hj1, ⟨rfl, rfl, trivial⟩, ⟨rfl, trivial⟩, [_], rfl⟩
    · replace hj1 := cond_f hc1 hj1
      refine g_exit ?_
      exact ⟨_, (_, _), some_eq hj1, ⟨rfl, trivial⟩, ⟨rfl, trivial⟩, [], rfl⟩
  · rintro l1 ⟨a_r1, cap_r1⟩ hst
    subst hst
    replace hm1 := on_go hm1
    refine k_norm (L' := [(3, .v (.slice a_r1 l1.length cap_r1)), (1, _)]) (ms' := [row a_r1 cap_r1 9 1 D.str l1]) rfl rfl ?_
    refine g_seq ?_
    refine g_region ?_
    refine go_p rfl rfl rfl (o_move rfl) ?_
    refine go_p rfl rfl rfl (.view (peekE (i := 55) 0 rfl rfl rfl) (o_len Try.runUnderlying62 rfl)) ?_
    refine go_p rfl rfl rfl (o_cmp rfl rfl rfl) ?_
    refine go_p rfl rfl rfl (o_move rfl) ?_
    apply go_and [(3, _)] 9 67 (t := 58) ⟨rfl, trivial⟩ rfl
    · intro hg_6 hk6
      refine go_wantp rfl rfl rfl hg_6 rfl rfl (o_fieldAddr fi_40_0 rfl rfl rfl) ?_
      refine go_wantp rfl rfl rfl hg_6 rfl rfl (o_load Try.isAgg3 rfl rfl) ?_
      refine go_wantp rfl rfl rfl hg_6 rfl rfl (o_cmp rfl rfl rfl) ?_
      refine go_wantp rfl rfl rfl hg_6 rfl rfl (o_move rfl) ?_
      apply go_or [(3, _), (58, _)] 4 66 (t := 62) ⟨rfl, rfl, trivial⟩ rfl
      · intro hg_7 hk7
        refine go_wantp rfl rfl rfl hg_7 rfl rfl (o_move rfl) ?_
        refine go_wantp rfl rfl rfl hg_7 rfl rfl (.view (peekE (i := 63) 0 rfl rfl rfl) (o_len Try.runUnderlying62 rfl)) ?_
        refine go_wantp rfl rfl rfl hg_7 rfl rfl (o_cmp rfl rfl rfl) ?_
        refine go_wantp rfl rfl rfl hg_6 rfl rfl (o_pickF rfl hg_7 rfl) ?_
        exact go_meet hk7 (rfl) ⟨rfl, rfl, trivial⟩
      · intro hg_7 hk7
        refine go_skip rfl rfl rfl hg_7 rfl rfl ?_
        refine go_skip rfl rfl rfl hg_7 rfl rfl ?_
        refine go_skip rfl rfl rfl hg_7 rfl rfl ?_
        refine go_wantp rfl rfl rfl hg_6 rfl rfl (o_pickT rfl hg_7 rfl) ?_
        exact go_meet hk7 (rfl) ⟨rfl, rfl, trivial⟩
      refine go_p rfl rfl rfl (o_pickT rfl hg_6 rfl) ?_
      exact go_meet hk6 (rfl) ⟨rfl, trivial⟩
    · intro hg_6 hk6
      refine go_skip rfl rfl rfl hg_6 rfl rfl ?_
      refine go_skip rfl rfl rfl hg_6 rfl rfl ?_
      refine go_skip rfl rfl rfl hg_6 rfl rfl ?_
      refine go_skip rfl rfl rfl hg_6 rfl rfl ?_
      refine go_skipu rfl rfl rfl rfl rfl ?_
      refine go_skipu rfl rfl rfl rfl rfl ?_
      refine go_skipu rfl rfl rfl rfl rfl ?_
      refine go_skip rfl rfl rfl hg_6 rfl rfl ?_
      refine go_p rfl rfl rfl (o_pickF rfl hg_6 rfl) ?_
      exact go_meet hk6 (rfl) ⟨rfl, trivial⟩
    refine go_p rfl rfl rfl (o_move rfl) ?_
    obtain ⟨p5, hp_8, hm1⟩ := bind_some hm1
    refine go_two [] 4 72 p5 (t := 68) trivial rfl (fun hg_8 hk8 => ?_) (fun hg_8 hk8 => ?_) ?_
    · replace hp_8 := cond_t hg_8 hp_8
      refine go_wantp rfl rfl rfl hg_8 rfl rfl (o_move rfl) ?_
      obtain ⟨x5, hx7, hp_8⟩ := bind_some hp_8
      refine go_wantp rfl rfl rfl hg_8 rfl rfl (.view (peekE (i := 69) 0 rfl rfl rfl) (o_call0 Try.call143 rfl (w_syntagmaref03_Twice hx7))) ?_
      refine go_wantp rfl rfl rfl hg_8 rfl rfl (o_not rfl) ?_
      refine go_p rfl rfl rfl (o_pickT rfl hg_8 rfl) ?_
      exact go_meet hk8 (congrArg (fun b => some (D.bool b)) (some_eq hp_8)) trivial
    · replace hp_8 := cond_f hg_8 hp_8
      refine go_skip rfl rfl rfl hg_8 rfl rfl ?_
      refine go_skip rfl rfl rfl hg_8 rfl rfl ?_
      refine go_skip rfl rfl rfl hg_8 rfl rfl ?_
      refine go_p rfl rfl rfl (o_pickF rfl hg_8 rfl) ?_
      exact go_meet hk8 (congrArg (fun b => some (D.bool b)) (some_eq hp_8)) trivial
    refine go_p rfl rfl rfl (o_assign rfl) ?_
    refine go_nil ?_
    refine g_ret ?_
    exact retK (ret_one' rfl (ret_tmp rfl) (perm_drop _)) (congrArg (fun (p : Bool) => (.bool p : D)) (some_eq hm1))
def m_syntagmaref05_right (n1 : ApiNode) : Option Bool :=
  bif ((((decide (n1.pos < 0)) || (decide (1048576 < n1.pos))) || (decide (n1.kind < 1))) || (decide (14 < n1.kind))) then
    some false
  else
    bif ((((((!decide (n1.kind = 1)) && (!decide (n1.kind = 2))) && (!decide (n1.kind = 10))) && (!decide (n1.n_ = 0))) || ((!decide (n1.kind = 3)) && (!decide ((n1.s : List UInt8) = ([] : List UInt8))))) || (((!decide (n1.kind = 11)) && (!decide (n1.kind = 14))) && (decide (0 < (n1.l.length : Int))))) then
      some false
    else
      bif ((((((!((((decide (n1.kind = 5)) || (decide (n1.kind = 12))) || (decide (n1.kind = 13))) || (decide (n1.kind = 14)))) && (!((((decide (n1.kind = 6)) || (decide (n1.kind = 7))) || (decide (n1.kind = 8))) || (decide (n1.kind = 10))))) && (!decide (n1.kind = 9))) && (!decide (n1.a = 0))) || (((!((((decide (n1.kind = 6)) || (decide (n1.kind = 7))) || (decide (n1.kind = 8))) || (decide (n1.kind = 10)))) && (!decide (n1.kind = 9))) && (!decide (n1.b = 0)))) || ((!decide (n1.kind = 9)) && (!decide (n1.c = 0)))) then
        some false
      else
        (bif (((((decide (n1.kind = 4)) || (decide (n1.kind = 5))) || (decide (n1.kind = 7))) || (decide (n1.kind = 8))) || (decide (n1.kind = 12))) then ((m_syntagmaref03_Name n1.name).bind fun x1 =>
        some (!x1)) else (some false)).bind fun p1 =>
        (bif p1 then (some true) else ((bif (decide (n1.kind = 13)) then ((m_syntagmaref03_Tag n1.name).bind fun x2 =>
        some (!x2)) else (some false)).bind fun p3 =>
        some p3)).bind fun p2 =>
        bif (p2 || (((!(((((decide (n1.kind = 4)) || (decide (n1.kind = 5))) || (decide (n1.kind = 7))) || (decide (n1.kind = 8))) || (decide (n1.kind = 12)))) && (!decide (n1.kind = 13))) && (!decide ((n1.name : List UInt8) = ([] : List UInt8))))) then
          some false
        else
          bif (((((decide (n1.kind = 2)) && (!decide (n1.n_ = 0))) && (!decide (n1.n_ = 1))) || ((decide (n1.kind = 10)) && ((decide (n1.n_ < 1)) || (decide (7 < n1.n_))))) || ((decide (n1.kind = 3)) && (decide (200 < (n1.s.length : Int))))) then
            some false
          else
            (bif ((!decide (n1.kind = 11)) && (!decide (n1.kind = 14))) then (some true) else ((m_syntagmaref05_labels n1).bind fun x3 =>
            some x3)).bind fun p4 =>
            some p4
theorem w_syntagmaref05_right {n1 : ApiNode} {r_1 : Bool} (hm : m_syntagmaref05_right n1 = some r_1) : Fn0 Try.prog 68 [ApiNode.d n1] (.bool r_1) := by
  unfold m_syntagmaref05_right at hm
  refine fn_intro Try.func68 rfl Try.ntmps68 rfl fun H0 fr w0 => ?_
  refine g_seq ?_
  refine g_region ?_
  refine go_p rfl rfl rfl (o_box rfl rfl) ?_
  refine go_p rfl rfl rfl (o_assign rfl) ?_
  refine go_nil ?_
  refine g_seq ?_
  refine g_seq ?_
  refine g_region ?_
  refine go_p rfl rfl rfl (o_fieldAddr fi_40_8 rfl rfl rfl) ?_
  refine go_p rfl rfl rfl (o_load Try.isAgg3 rfl rfl) ?_
  refine go_p rfl rfl rfl (o_cmp rfl rfl rfl) ?_
  refine go_p rfl rfl rfl (o_move rfl) ?_
  apply go_or [(1, _)] 4 14 (t := 10) ⟨rfl, trivial⟩ rfl
  · intro hg_1 hk1
    refine go_wantp rfl rfl rfl hg_1 rfl rfl (o_fieldAddr fi_40_8 rfl rfl rfl) ?_
    refine go_wantp rfl rfl rfl hg_1 rfl rfl (o_load Try.isAgg3 rfl rfl) ?_
    refine go_wantp rfl rfl rfl hg_1 rfl rfl (o_cmp rfl rfl rfl) ?_
    refine go_p rfl rfl rfl (o_pickF rfl hg_1 rfl) ?_
    exact go_meet hk1 (rfl) ⟨rfl, trivial⟩
  · intro hg_1 hk1
    refine go_skip rfl rfl rfl hg_1 rfl rfl ?_
    refine go_skip rfl rfl rfl hg_1 rfl rfl ?_
    refine go_skip rfl rfl rfl hg_1 rfl rfl ?_
    refine go_p rfl rfl rfl (o_pickT rfl hg_1 rfl) ?_
    exact go_meet hk1 (rfl) ⟨rfl, trivial⟩
  refine go_p rfl rfl rfl (o_move rfl) ?_
  apply go_or [(1, _)] 4 19 (t := 15) ⟨rfl, trivial⟩ rfl
  · intro hg_2 hk2
    refine go_wantp rfl rfl rfl hg_2 rfl rfl (o_fieldAddr fi_40_0 rfl rfl rfl) ?_
    refine go_wantp rfl rfl rfl hg_2 rfl rfl (o_load Try.isAgg3 rfl rfl) ?_
    refine go_wantp rfl rfl rfl hg_2 rfl rfl (o_cmp rfl rfl rfl) ?_
    refine go_p rfl rfl rfl (o_pickF rfl hg_2 rfl) ?_
    exact go_meet hk2 (rfl) ⟨rfl, trivial⟩
  · intro hg_2 hk2
    refine go_skip rfl rfl rfl hg_2 rfl rfl ?_
    refine go_skip rfl rfl rfl hg_2 rfl rfl ?_
    refine go_skip rfl rfl rfl hg_2 rfl rfl ?_
    refine go_p rfl rfl rfl (o_pickT rfl hg_2 rfl) ?_
    exact go_meet hk2 (rfl) ⟨rfl, trivial⟩
  refine go_p rfl rfl rfl (o_move rfl) ?_
  apply go_or [(1, _)] 4 24 (t := 20) ⟨rfl, trivial⟩ rfl
  · intro hg_3 hk3
    refine go_wantp rfl rfl rfl hg_3 rfl rfl (o_fieldAddr fi_40_0 rfl rfl rfl) ?_
    refine go_wantp rfl rfl rfl hg_3 rfl rfl (o_load Try.isAgg3 rfl rfl) ?_
    refine go_wantp rfl rfl rfl hg_3 rfl rfl (o_cmp rfl rfl rfl) ?_
    refine go_p rfl rfl rfl (o_pickF rfl hg_3 rfl) ?_
    exact go_meet hk3 (rfl) ⟨rfl, trivial⟩
  · intro hg_3 hk3
    refine go_skip rfl rfl rfl hg_3 rfl rfl ?_
    refine go_skip rfl rfl rfl hg_3 rfl rfl ?_
    refine go_skip rfl rfl rfl hg_3 rfl rfl ?_
    refine go_p rfl rfl rfl (o_pickT rfl hg_3 rfl) ?_
    exact go_meet hk3 (rfl) ⟨rfl, trivial⟩
  refine go_nil ?_
  refine g_cond rfl (fun hc1 => ?_) (fun hc1 => ?_)
  · replace hm := cond_t hc1 hm
    refine g_seq ?_
    refine g_region ?_
    refine go_p rfl rfl rfl (o_assign rfl) ?_
    refine go_nil ?_
    refine g_ret ?_
    exact retK (ret_one' rfl (ret_tmp rfl) (perm_drop _)) (congrArg (fun (p : Bool) => (.bool p : D)) (some_eq hm))
  · replace hm := cond_f hc1 hm
    refine g_skip ?_
    refine g_seq ?_
    refine g_region ?_
    refine go_p rfl rfl rfl (o_fieldAddr fi_40_0 rfl rfl rfl) ?_
    refine go_p rfl rfl rfl (o_load Try.isAgg3 rfl rfl) ?_
    refine go_p rfl rfl rfl (o_assign rfl) ?_
    refine go_nil ?_
    refine g_seq ?_
    refine g_seq ?_
    refine g_region ?_
    refine go_p rfl rfl rfl (o_move rfl) ?_
    refine go_p rfl rfl rfl (o_cmp rfl rfl rfl) ?_
    refine go_p rfl rfl rfl (o_move rfl) ?_
    apply go_and [(1, _), (3, _)] 3 32 (t := 29) ⟨rfl, rfl, trivial⟩ rfl
    · intro hg_4 hk4
      refine go_wantp rfl rfl rfl hg_4 rfl rfl (o_move rfl) ?_
      refine go_wantp rfl rfl rfl hg_4 rfl rfl (o_cmp rfl rfl rfl) ?_
      refine go_p rfl rfl rfl (o_pickT rfl hg_4 rfl) ?_
      exact go_meet hk4 (rfl) ⟨rfl, rfl, trivial⟩
    · intro hg_4 hk4
      refine go_skip rfl rfl rfl hg_4 rfl rfl ?_
      refine go_skip rfl rfl rfl hg_4 rfl rfl ?_
      refine go_p rfl rfl rfl (o_pickF rfl hg_4 rfl) ?_
      exact go_meet hk4 (rfl) ⟨rfl, rfl, trivial⟩
    refine go_p rfl rfl rfl (o_move rfl) ?_
    apply go_and [(1, _), (3, _)] 3 36 (t := 33) ⟨rfl, rfl, trivial⟩ rfl
    · intro hg_5 hk5
      refine go_wantp rfl rfl rfl hg_5 rfl rfl (o_move rfl) ?_
      refine go_wantp rfl rfl rfl hg_5 rfl rfl (o_cmp rfl rfl rfl) ?_
      refine go_p rfl rfl rfl (o_pickT rfl hg_5 rfl) ?_
      exact go_meet hk5 (rfl) ⟨rfl, rfl, trivial⟩
    · intro hg_5 hk5
      refine go_skip rfl rfl rfl hg_5 rfl rfl ?_
      refine go_skip rfl rfl rfl hg_5 rfl rfl ?_
      refine go_p rfl rfl rfl (o_pickF rfl hg_5 rfl) ?_
      exact go_meet hk5 (rfl) ⟨rfl, rfl, trivial⟩
    refine go_p rfl rfl rfl (o_move rfl) ?_
    apply go_and [(1, _), (3, _)] 4 41 (t := 37) ⟨rfl, rfl, trivial⟩ rfl
    · intro hg_6 hk6
      refine go_wantp rfl rfl rfl hg_6 rfl rfl (o_fieldAddr fi_40_4 rfl rfl rfl) ?_
      refine go_wantp rfl rfl rfl hg_6 rfl rfl (o_load Try.isAgg2 rfl rfl) ?_
      refine go_wantp rfl rfl rfl hg_6 rfl rfl (o_cmp rfl rfl rfl) ?_
      refine go_p rfl rfl rfl (o_pickT rfl hg_6 rfl) ?_
      exact go_meet hk6 (rfl) ⟨rfl, rfl, trivial⟩
    · intro hg_6 hk6
      refine go_skip rfl rfl rfl hg_6 rfl rfl ?_
      refine go_skip rfl rfl rfl hg_6 rfl rfl ?_
      refine go_skip rfl rfl rfl hg_6 rfl rfl ?_
      refine go_p rfl rfl rfl (o_pickF rfl hg_6 rfl) ?_
      exact go_meet hk6 (rfl) ⟨rfl, rfl, trivial⟩
    refine go_p rfl rfl rfl (o_move rfl) ?_
    apply go_or [(1, _), (3, _)] 8 50 (t := 42) ⟨rfl, rfl, trivial⟩ rfl
    · intro hg_7 hk7
      refine go_wantp rfl rfl rfl hg_7 rfl rfl (o_move rfl) ?_
      refine go_wantp rfl rfl rfl hg_7 rfl rfl (o_cmp rfl rfl rfl) ?_
      refine go_wantp rfl rfl rfl hg_7 rfl rfl (o_move rfl) ?_
      apply go_and [(1, _), (3, _), (42, _)] 4 49 (t := 45) ⟨rfl, rfl, rfl, trivial⟩ rfl
      · intro hg_8 hk8
        refine go_wantp rfl rfl rfl hg_8 rfl rfl (o_fieldAddr fi_40_6 rfl rfl rfl) ?_
        refine go_wantp rfl rfl rfl hg_8 rfl rfl (o_load Try.isAgg9 rfl rfl) ?_
        refine go_wantp rfl rfl rfl hg_8 rfl rfl (o_cmps rfl rfl rfl) ?_
        refine go_wantp rfl rfl rfl hg_7 rfl rfl (o_pickT rfl hg_8 rfl) ?_
        exact go_meet hk8 (rfl) ⟨rfl, rfl, rfl, trivial⟩
      · intro hg_8 hk8
        refine go_skip rfl rfl rfl hg_8 rfl rfl ?_
        refine go_skip rfl rfl rfl hg_8 rfl rfl ?_
        refine go_skip rfl rfl rfl hg_8 rfl rfl ?_
        refine go_wantp rfl rfl rfl hg_7 rfl rfl (o_pickF rfl hg_8 rfl) ?_
        exact go_meet hk8 (rfl) ⟨rfl, rfl, rfl, trivial⟩
      refine go_p rfl rfl rfl (o_pickF rfl hg_7 rfl) ?_
      exact go_meet hk7 (rfl) ⟨rfl, rfl, trivial⟩
    · intro hg_7 hk7
      refine go_skip rfl rfl rfl hg_7 rfl rfl ?_
      refine go_skip rfl rfl rfl hg_7 rfl rfl ?_
      refine go_skip rfl rfl rfl hg_7 rfl rfl ?_
      refine go_skipu rfl rfl rfl rfl rfl ?_
      refine go_skipu rfl rfl rfl rfl rfl ?_
      refine go_skipu rfl rfl rfl rfl rfl ?_
      refine go_skip rfl rfl rfl hg_7 rfl rfl ?_
      refine go_p rfl rfl rfl (o_pickT rfl hg_7 rfl) ?_
      exact go_meet hk7 (rfl) ⟨rfl, rfl, trivial⟩
    refine go_p rfl rfl rfl (o_move rfl) ?_
    apply go_or [(1, _), (3, _)] 13 64 (t := 51) ⟨rfl, rfl, trivial⟩ rfl
    · intro hg_9 hk9
      refine go_wantp rfl rfl rfl hg_9 rfl rfl (o_move rfl) ?_
      refine go_wantp rfl rfl rfl hg_9 rfl rfl (o_cmp rfl rfl rfl) ?_
      refine go_wantp rfl rfl rfl hg_9 rfl rfl (o_move rfl) ?_
      apply go_and [(1, _), (3, _), (51, _)] 3 57 (t := 54) ⟨rfl, rfl, rfl, trivial⟩ rfl
      · intro hg_10 hk10
        refine go_wantp rfl rfl rfl hg_10 rfl rfl (o_move rfl) ?_
        refine go_wantp rfl rfl rfl hg_10 rfl rfl (o_cmp rfl rfl rfl) ?_
        refine go_wantp rfl rfl rfl hg_9 rfl rfl (o_pickT rfl hg_10 rfl) ?_
        exact go_meet hk10 (rfl) ⟨rfl, rfl, rfl, trivial⟩
      · intro hg_10 hk10
        refine go_skip rfl rfl rfl hg_10 rfl rfl ?_
        refine go_skip rfl rfl rfl hg_10 rfl rfl ?_
        refine go_wantp rfl rfl rfl hg_9 rfl rfl (o_pickF rfl hg_10 rfl) ?_
        exact go_meet hk10 (rfl) ⟨rfl, rfl, rfl, trivial⟩
      refine go_wantp rfl rfl rfl hg_9 rfl rfl (o_move rfl) ?_
      apply go_and [(1, _), (3, _), (51, _)] 5 63 (t := 58) ⟨rfl, rfl, rfl, trivial⟩ rfl
      · intro hg_11 hk11
        refine go_wantp rfl rfl rfl hg_11 rfl rfl (o_fieldAddr fi_40_7 rfl rfl rfl) ?_
        refine go_wantp rfl rfl rfl hg_11 rfl rfl (o_load Try.isAgg38 rfl rfl) ?_
        refine go_wantp rfl rfl rfl hg_11 rfl rfl (o_len Try.runUnderlying38 rfl) ?_
        refine go_wantp rfl rfl rfl hg_11 rfl rfl (o_cmp rfl rfl rfl) ?_
        refine go_wantp rfl rfl rfl hg_9 rfl rfl (o_pickT rfl hg_11 rfl) ?_
        exact go_meet hk11 (rfl) ⟨rfl, rfl, rfl, trivial⟩
      · intro hg_11 hk11
        refine go_skip rfl rfl rfl hg_11 rfl rfl ?_
        refine go_skip rfl rfl rfl hg_11 rfl rfl ?_
        refine go_skip rfl rfl rfl hg_11 rfl rfl ?_
        refine go_skip rfl rfl rfl hg_11 rfl rfl ?_
        refine go_wantp rfl rfl rfl hg_9 rfl rfl (o_pickF rfl hg_11 rfl) ?_
        exact go_meet hk11 (rfl) ⟨rfl, rfl, rfl, trivial⟩
      refine go_p rfl rfl rfl (o_pickF rfl hg_9 rfl) ?_
      exact go_meet hk9 (rfl) ⟨rfl, rfl, trivial⟩
    · intro hg_9 hk9
      refine go_skip rfl rfl rfl hg_9 rfl rfl ?_
      refine go_skip rfl rfl rfl hg_9 rfl rfl ?_
      refine go_skip rfl rfl rfl hg_9 rfl rfl ?_
      refine go_skipu rfl rfl rfl rfl rfl ?_
      refine go_skipu rfl rfl rfl rfl rfl ?_
      refine go_skip rfl rfl rfl hg_9 rfl rfl ?_
      refine go_skip rfl rfl rfl hg_9 rfl rfl ?_
      refine go_skipu rfl rfl rfl rfl rfl ?_
      refine go_skipu rfl rfl rfl rfl rfl ?_
      refine go_skipu rfl rfl rfl rfl rfl ?_
      refine go_skipu rfl rfl rfl rfl rfl ?_
      refine go_skip rfl rfl rfl hg_9 rfl rfl ?_
      refine go_p rfl rfl rfl (o_pickT rfl hg_9 rfl) ?_
      exact go_meet hk9 (rfl) ⟨rfl, rfl, trivial⟩
    refine go_nil ?_
    refine g_cond rfl (fun hc2 => ?_) (fun hc2 => ?_)
    · replace hm := cond_t hc2 hm
      refine g_seq ?_
      refine g_region ?_
      refine go_p rfl rfl rfl (o_assign rfl) ?_
      refine go_nil ?_
      refine g_ret ?_
      exact retK (ret_one' rfl (ret_tmp rfl) (perm_drop _)) (congrArg (fun (p : Bool) => (.bool p : D)) (some_eq hm))
    · replace hm := cond_f hc2 hm
      refine g_skip ?_
      refine g_seq ?_
      refine g_region ?_
      refine go_p rfl rfl rfl (o_move rfl) ?_
      refine go_p rfl rfl rfl (o_cmp rfl rfl rfl) ?_
      refine go_p rfl rfl rfl (o_move rfl) ?_
      apply go_or [(1, _), (3, _)] 3 70 (t := 67) ⟨rfl, rfl, trivial⟩ rfl
      · intro hg_12 hk12
        refine go_wantp rfl rfl rfl hg_12 rfl rfl (o_move rfl) ?_
        refine go_wantp rfl rfl rfl hg_12 rfl rfl (o_cmp rfl rfl rfl) ?_
        refine go_p rfl rfl rfl (o_pickF rfl hg_12 rfl) ?_
        exact go_meet hk12 (rfl) ⟨rfl, rfl, trivial⟩
      · intro hg_12 hk12
        refine go_skip rfl rfl rfl hg_12 rfl rfl ?_
        refine go_skip rfl rfl rfl hg_12 rfl rfl ?_
        refine go_p rfl rfl rfl (o_pickT rfl hg_12 rfl) ?_
        exact go_meet hk12 (rfl) ⟨rfl, rfl, trivial⟩
      refine go_p rfl rfl rfl (o_move rfl) ?_
      apply go_or [(1, _), (3, _)] 3 74 (t := 71) ⟨rfl, rfl, trivial⟩ rfl
      · intro hg_13 hk13
        refine go_wantp rfl rfl rfl hg_13 rfl rfl (o_move rfl) ?_
        refine go_wantp rfl rfl rfl hg_13 rfl rfl (o_cmp rfl rfl rfl) ?_
        refine go_p rfl rfl rfl (o_pickF rfl hg_13 rfl) ?_
        exact go_meet hk13 (rfl) ⟨rfl, rfl, trivial⟩
      · intro hg_13 hk13
        refine go_skip rfl rfl rfl hg_13 rfl rfl ?_
        refine go_skip rfl rfl rfl hg_13 rfl rfl ?_
        refine go_p rfl rfl rfl (o_pickT rfl hg_13 rfl) ?_
        exact go_meet hk13 (rfl) ⟨rfl, rfl, trivial⟩
      refine go_p rfl rfl rfl (o_move rfl) ?_
      apply go_or [(1, _), (3, _)] 3 78 (t := 75) ⟨rfl, rfl, trivial⟩ rfl
      · intro hg_14 hk14
        refine go_wantp rfl rfl rfl hg_14 rfl rfl (o_move rfl) ?_
        refine go_wantp rfl rfl rfl hg_14 rfl rfl (o_cmp rfl rfl rfl) ?_
        refine go_p rfl rfl rfl (o_pickF rfl hg_14 rfl) ?_
        exact go_meet hk14 (rfl) ⟨rfl, rfl, trivial⟩
      · intro hg_14 hk14
        refine go_skip rfl rfl rfl hg_14 rfl rfl ?_
        refine go_skip rfl rfl rfl hg_14 rfl rfl ?_
        refine go_p rfl rfl rfl (o_pickT rfl hg_14 rfl) ?_
        exact go_meet hk14 (rfl) ⟨rfl, rfl, trivial⟩
      refine go_p rfl rfl rfl (o_assign rfl) ?_
      refine go_nil ?_
      refine g_seq ?_
      refine g_region ?_
      refine go_p rfl rfl rfl (o_move rfl) ?_
      refine go_p rfl rfl rfl (o_cmp rfl rfl rfl) ?_
      refine go_p rfl rfl rfl (o_move rfl) ?_
      apply go_or [(1, _), (3, _), (4, _)] 3 84 (t := 81) ⟨rfl, rfl, rfl, trivial⟩ rfl
      · intro hg_15 hk15
        refine go_wantp rfl rfl rfl hg_15 rfl rfl (o_move rfl) ?_
        refine go_wantp rfl rfl rfl hg_15 rfl rfl (o_cmp rfl rfl rfl) ?_
        refine go_p rfl rfl rfl (o_pickF rfl hg_15 rfl) ?_
        exact go_meet hk15 (rfl) ⟨rfl, rfl, rfl, trivial⟩
      · intro hg_15 hk15
        refine go_skip rfl rfl rfl hg_15 rfl rfl ?_
        refine go_skip rfl rfl rfl hg_15 rfl rfl ?_
        refine go_p rfl rfl rfl (o_pickT rfl hg_15 rfl) ?_
        exact go_meet hk15 (rfl) ⟨rfl, rfl, rfl, trivial⟩
      refine go_p rfl rfl rfl (o_move rfl) ?_
      apply go_or [(1, _), (3, _), (4, _)] 3 88 (t := 85) ⟨rfl, rfl, rfl, trivial⟩ rfl
      · intro hg_16 hk16
        refine go_wantp rfl rfl rfl hg_16 rfl rfl (o_move rfl) ?_
        refine go_wantp rfl rfl rfl hg_16 rfl rfl (o_cmp rfl rfl rfl) ?_
        refine go_p rfl rfl rfl (o_pickF rfl hg_16 rfl) ?_
        exact go_meet hk16 (rfl) ⟨rfl, rfl, rfl, trivial⟩
      · intro hg_16 hk16
        refine go_skip rfl rfl rfl hg_16 rfl rfl ?_
        refine go_skip rfl rfl rfl hg_16 rfl rfl ?_
        refine go_p rfl rfl rfl (o_pickT rfl hg_16 rfl) ?_
        exact go_meet hk16 (rfl) ⟨rfl, rfl, rfl, trivial⟩
      refine go_p rfl rfl rfl (o_move rfl) ?_
      apply go_or [(1, _), (3, _), (4, _)] 3 92 (t := 89) ⟨rfl, rfl, rfl, trivial⟩ rfl
      · intro hg_17 hk17
        refine go_wantp rfl rfl rfl hg_17 rfl rfl (o_move rfl) ?_
        refine go_wantp rfl rfl rfl hg_17 rfl rfl (o_cmp rfl rfl rfl) ?_
        refine go_p rfl rfl rfl (o_pickF rfl hg_17 rfl) ?_
        exact go_meet hk17 (rfl) ⟨rfl, rfl, rfl, trivial⟩
      · intro hg_17 hk17
        refine go_skip rfl rfl rfl hg_17 rfl rfl ?_
        refine go_skip rfl rfl rfl hg_17 rfl rfl ?_
        refine go_p rfl rfl rfl (o_pickT rfl hg_17 rfl) ?_
        exact go_meet hk17 (rfl) ⟨rfl, rfl, rfl, trivial⟩
      refine go_p rfl rfl rfl (o_assign rfl) ?_
      refine go_nil ?_
      refine g_seq ?_
      refine g_seq ?_
      refine g_region ?_
      refine go_p rfl rfl rfl (o_move rfl) ?_
      refine go_p rfl rfl rfl (o_not rfl) ?_
      refine go_p rfl rfl rfl (o_move rfl) ?_
      apply go_and [(1, _), (3, _), (5, _)] 3 98 (t := 95) ⟨rfl, rfl, rfl, trivial⟩ rfl
      · intro hg_18 hk18
        refine go_wantp rfl rfl rfl hg_18 rfl rfl (o_move rfl) ?_
        refine go_wantp rfl rfl rfl hg_18 rfl rfl (o_not rfl) ?_
        refine go_p rfl rfl rfl (o_pickT rfl hg_18 rfl) ?_
        exact go_meet hk18 (rfl) ⟨rfl, rfl, rfl, trivial⟩
      · intro hg_18 hk18
        refine go_skip rfl rfl rfl hg_18 rfl rfl ?_
        refine go_skip rfl rfl rfl hg_18 rfl rfl ?_
        refine go_p rfl rfl rfl (o_pickF rfl hg_18 rfl) ?_
        exact go_meet hk18 (rfl) ⟨rfl, rfl, rfl, trivial⟩
      refine go_p rfl rfl rfl (o_move rfl) ?_
      apply go_and [(1, _), (3, _), (5, _)] 3 102 (t := 99) ⟨rfl, rfl, rfl, trivial⟩ rfl
      · intro hg_19 hk19
        refine go_wantp rfl rfl rfl hg_19 rfl rfl (o_move rfl) ?_
        refine go_wantp rfl rfl rfl hg_19 rfl rfl (o_cmp rfl rfl rfl) ?_
        refine go_p rfl rfl rfl (o_pickT rfl hg_19 rfl) ?_
        exact go_meet hk19 (rfl) ⟨rfl, rfl, rfl, trivial⟩
      · intro hg_19 hk19
        refine go_skip rfl rfl rfl hg_19 rfl rfl ?_
        refine go_skip rfl rfl rfl hg_19 rfl rfl ?_
        refine go_p rfl rfl rfl (o_pickF rfl hg_19 rfl) ?_
        exact go_meet hk19 (rfl) ⟨rfl, rfl, rfl, trivial⟩
      refine go_p rfl rfl rfl (o_move rfl) ?_
      apply go_and [(1, _), (3, _), (5, _)] 4 107 (t := 103) ⟨rfl, rfl, rfl, trivial⟩ rfl
      · intro hg_20 hk20
        refine go_wantp rfl rfl rfl hg_20 rfl rfl (o_fieldAddr fi_40_1 rfl rfl rfl) ?_
        refine go_wantp rfl rfl rfl hg_20 rfl rfl (o_load Try.isAgg3 rfl rfl) ?_
        refine go_wantp rfl rfl rfl hg_20 rfl rfl (o_cmp rfl rfl rfl) ?_
        refine go_p rfl rfl rfl (o_pickT rfl hg_20 rfl) ?_
        exact go_meet hk20 (rfl) ⟨rfl, rfl, rfl, trivial⟩
      · intro hg_20 hk20
        refine go_skip rfl rfl rfl hg_20 rfl rfl ?_
        refine go_skip rfl rfl rfl hg_20 rfl rfl ?_
        refine go_skip rfl rfl rfl hg_20 rfl rfl ?_
        refine go_p rfl rfl rfl (o_pickF rfl hg_20 rfl) ?_
        exact go_meet hk20 (rfl) ⟨rfl, rfl, rfl, trivial⟩
      refine go_p rfl rfl rfl (o_move rfl) ?_
      apply go_or [(1, _), (3, _)] 12 120 (t := 108) ⟨rfl, rfl, trivial⟩ rfl
      · intro hg_21 hk21
        refine go_wantp rfl rfl rfl hg_21 rfl rfl (o_move rfl) ?_
        refine go_wantp rfl rfl rfl hg_21 rfl rfl (o_not rfl) ?_
        refine go_wantp rfl rfl rfl hg_21 rfl rfl (o_move rfl) ?_
        apply go_and [(1, _), (3, _), (108, _)] 3 114 (t := 111) ⟨rfl, rfl, rfl, trivial⟩ rfl
        · intro hg_22 hk22
          refine go_wantp rfl rfl rfl hg_22 rfl rfl (o_move rfl) ?_
          refine go_wantp rfl rfl rfl hg_22 rfl rfl (o_cmp rfl rfl rfl) ?_
          refine go_wantp rfl rfl rfl hg_21 rfl rfl (o_pickT rfl hg_22 rfl) ?_
          exact go_meet hk22 (rfl) ⟨rfl, rfl, rfl, trivial⟩
        · intro hg_22 hk22
          refine go_skip rfl rfl rfl hg_22 rfl rfl ?_
          refine go_skip rfl rfl rfl hg_22 rfl rfl ?_
          refine go_wantp rfl rfl rfl hg_21 rfl rfl (o_pickF rfl hg_22 rfl) ?_
          exact go_meet hk22 (rfl) ⟨rfl, rfl, rfl, trivial⟩
        refine go_wantp rfl rfl rfl hg_21 rfl rfl (o_move rfl) ?_
        apply go_and [(1, _), (3, _), (108, _)] 4 119 (t := 115) ⟨rfl, rfl, rfl, trivial⟩ rfl
        · intro hg_23 hk23
          refine go_wantp rfl rfl rfl hg_23 rfl rfl (o_fieldAddr fi_40_2 rfl rfl rfl) ?_
          refine go_wantp rfl rfl rfl hg_23 rfl rfl (o_load Try.isAgg3 rfl rfl) ?_
          refine go_wantp rfl rfl rfl hg_23 rfl rfl (o_cmp rfl rfl rfl) ?_
          refine go_wantp rfl rfl rfl hg_21 rfl rfl (o_pickT rfl hg_23 rfl) ?_
          exact go_meet hk23 (rfl) ⟨rfl, rfl, rfl, trivial⟩
        · intro hg_23 hk23
          refine go_skip rfl rfl rfl hg_23 rfl rfl ?_
          refine go_skip rfl rfl rfl hg_23 rfl rfl ?_
          refine go_skip rfl rfl rfl hg_23 rfl rfl ?_
          refine go_wantp rfl rfl rfl hg_21 rfl rfl (o_pickF rfl hg_23 rfl) ?_
          exact go_meet hk23 (rfl) ⟨rfl, rfl, rfl, trivial⟩
        refine go_p rfl rfl rfl (o_pickF rfl hg_21 rfl) ?_
        exact go_meet hk21 (rfl) ⟨rfl, rfl, trivial⟩
      · intro hg_21 hk21
        refine go_skip rfl rfl rfl hg_21 rfl rfl ?_
        refine go_skip rfl rfl rfl hg_21 rfl rfl ?_
        refine go_skip rfl rfl rfl hg_21 rfl rfl ?_
        refine go_skipu rfl rfl rfl rfl rfl ?_
        refine go_skipu rfl rfl rfl rfl rfl ?_
        refine go_skip rfl rfl rfl hg_21 rfl rfl ?_
        refine go_skip rfl rfl rfl hg_21 rfl rfl ?_
        refine go_skipu rfl rfl rfl rfl rfl ?_
        refine go_skipu rfl rfl rfl rfl rfl ?_
        refine go_skipu rfl rfl rfl rfl rfl ?_
        refine go_skip rfl rfl rfl hg_21 rfl rfl ?_
        refine go_p rfl rfl rfl (o_pickT rfl hg_21 rfl) ?_
        exact go_meet hk21 (rfl) ⟨rfl, rfl, trivial⟩
      refine go_p rfl rfl rfl (o_move rfl) ?_
      apply go_or [(1, _), (3, _)] 8 129 (t := 121) ⟨rfl, rfl, trivial⟩ rfl
      · intro hg_24 hk24
        refine go_wantp rfl rfl rfl hg_24 rfl rfl (o_move rfl) ?_
        refine go_wantp rfl rfl rfl hg_24 rfl rfl (o_cmp rfl rfl rfl) ?_
        refine go_wantp rfl rfl rfl hg_24 rfl rfl (o_move rfl) ?_
        apply go_and [(1, _), (3, _), (121, _)] 4 128 (t := 124) ⟨rfl, rfl, rfl, trivial⟩ rfl
        · intro hg_25 hk25
          refine go_wantp rfl rfl rfl hg_25 rfl rfl (o_fieldAddr fi_40_3 rfl rfl rfl) ?_
          refine go_wantp rfl rfl rfl hg_25 rfl rfl (o_load Try.isAgg3 rfl rfl) ?_
          refine go_wantp rfl rfl rfl hg_25 rfl rfl (o_cmp rfl rfl rfl) ?_
          refine go_wantp rfl rfl rfl hg_24 rfl rfl (o_pickT rfl hg_25 rfl) ?_
          exact go_meet hk25 (rfl) ⟨rfl, rfl, rfl, trivial⟩
        · intro hg_25 hk25
          refine go_skip rfl rfl rfl hg_25 rfl rfl ?_
          refine go_skip rfl rfl rfl hg_25 rfl rfl ?_
          refine go_skip rfl rfl rfl hg_25 rfl rfl ?_
          refine go_wantp rfl rfl rfl hg_24 rfl rfl (o_pickF rfl hg_25 rfl) ?_
          exact go_meet hk25 (rfl) ⟨rfl, rfl, rfl, trivial⟩
        refine go_p rfl rfl rfl (o_pickF rfl hg_24 rfl) ?_
        exact go_meet hk24 (rfl) ⟨rfl, rfl, trivial⟩
      · intro hg_24 hk24
        refine go_skip rfl rfl rfl hg_24 rfl rfl ?_
        refine go_skip rfl rfl rfl hg_24 rfl rfl ?_
        refine go_skip rfl rfl rfl hg_24 rfl rfl ?_
        refine go_skipu rfl rfl rfl rfl rfl ?_
        refine go_skipu rfl rfl rfl rfl rfl ?_
        refine go_skipu rfl rfl rfl rfl rfl ?_
        refine go_skip rfl rfl rfl hg_24 rfl rfl ?_
        refine go_p rfl rfl rfl (o_pickT rfl hg_24 rfl) ?_
        exact go_meet hk24 (rfl) ⟨rfl, rfl, trivial⟩
      refine go_nil ?_
      refine g_cond rfl (fun hc3 => ?_) (fun hc3 => ?_)
      · replace hm := cond_t hc3 hm
        refine g_seq ?_
        refine g_region ?_
        refine go_p rfl rfl rfl (o_assign rfl) ?_
        refine go_nil ?_
        refine g_ret ?_
        exact retK (ret_one' rfl (ret_tmp rfl) (perm_drop _)) (congrArg (fun (p : Bool) => (.bool p : D)) (some_eq hm))
      · replace hm := cond_f hc3 hm
        refine g_skip ?_
        refine g_seq ?_
        refine g_region ?_
        refine go_p rfl rfl rfl (o_move rfl) ?_
        refine go_p rfl rfl rfl (o_cmp rfl rfl rfl) ?_
        refine go_p rfl rfl rfl (o_move rfl) ?_
        apply go_or [(1, _), (3, _)] 3 135 (t := 132) ⟨rfl, rfl, trivial⟩ rfl
        · intro hg_26 hk26
          refine go_wantp rfl rfl rfl hg_26 rfl rfl (o_move rfl) ?_
          refine go_wantp rfl rfl rfl hg_26 rfl rfl (o_cmp rfl rfl rfl) ?_
          refine go_p rfl rfl rfl (o_pickF rfl hg_26 rfl) ?_
          exact go_meet hk26 (rfl) ⟨rfl, rfl, trivial⟩
        · intro hg_26 hk26
          refine go_skip rfl rfl rfl hg_26 rfl rfl ?_
          refine go_skip rfl rfl rfl hg_26 rfl rfl ?_
          refine go_p rfl rfl rfl (o_pickT rfl hg_26 rfl) ?_
          exact go_meet hk26 (rfl) ⟨rfl, rfl, trivial⟩
        refine go_p rfl rfl rfl (o_move rfl) ?_
        apply go_or [(1, _), (3, _)] 3 139 (t := 136) ⟨rfl, rfl, trivial⟩ rfl
        · intro hg_27 hk27
          refine go_wantp rfl rfl rfl hg_27 rfl rfl (o_move rfl) ?_
          refine go_wantp rfl rfl rfl hg_27 rfl rfl (o_cmp rfl rfl rfl) ?_
          refine go_p rfl rfl rfl (o_pickF rfl hg_27 rfl) ?_
          exact go_meet hk27 (rfl) ⟨rfl, rfl, trivial⟩
        · intro hg_27 hk27
          refine go_skip rfl rfl rfl hg_27 rfl rfl ?_
          refine go_skip rfl rfl rfl hg_27 rfl rfl ?_
          refine go_p rfl rfl rfl (o_pickT rfl hg_27 rfl) ?_
          exact go_meet hk27 (rfl) ⟨rfl, rfl, trivial⟩
        refine go_p rfl rfl rfl (o_move rfl) ?_
        apply go_or [(1, _), (3, _)] 3 143 (t := 140) ⟨rfl, rfl, trivial⟩ rfl
        · intro hg_28 hk28
          refine go_wantp rfl rfl rfl hg_28 rfl rfl (o_move rfl) ?_
          refine go_wantp rfl rfl rfl hg_28 rfl rfl (o_cmp rfl rfl rfl) ?_
          refine go_p rfl rfl rfl (o_pickF rfl hg_28 rfl) ?_
          exact go_meet hk28 (rfl) ⟨rfl, rfl, trivial⟩
        · intro hg_28 hk28
          refine go_skip rfl rfl rfl hg_28 rfl rfl ?_
          refine go_skip rfl rfl rfl hg_28 rfl rfl ?_
          refine go_p rfl rfl rfl (o_pickT rfl hg_28 rfl) ?_
          exact go_meet hk28 (rfl) ⟨rfl, rfl, trivial⟩
        refine go_p rfl rfl rfl (o_move rfl) ?_
        apply go_or [(1, _), (3, _)] 3 147 (t := 144) ⟨rfl, rfl, trivial⟩ rfl
        · intro hg_29 hk29
          refine go_wantp rfl rfl rfl hg_29 rfl rfl (o_move rfl) ?_
          refine go_wantp rfl rfl rfl hg_29 rfl rfl (o_cmp rfl rfl rfl) ?_
          refine go_p rfl rfl rfl (o_pickF rfl hg_29 rfl) ?_
          exact go_meet hk29 (rfl) ⟨rfl, rfl, trivial⟩
        · intro hg_29 hk29
          refine go_skip rfl rfl rfl hg_29 rfl rfl ?_
          refine go_skip rfl rfl rfl hg_29 rfl rfl ?_
          refine go_p rfl rfl rfl (o_pickT rfl hg_29 rfl) ?_
          exact go_meet hk29 (rfl) ⟨rfl, rfl, trivial⟩
        refine go_p rfl rfl rfl (o_assign rfl) ?_
        refine go_nil ?_
        refine g_seq ?_
        refine g_seq ?_
        refine g_region ?_
        refine go_p rfl rfl rfl (o_move rfl) ?_
        refine go_p rfl rfl rfl (o_move rfl) ?_
        obtain ⟨p1, hp_30, hm⟩ := bind_some hm
        refine go_two [(1, _), (3, _), (6, _)] 5 154 p1 (t := 149) ⟨rfl, rfl, rfl, trivial⟩ rfl (fun hg_30 hk30 => ?_) (fun hg_30 hk30 => ?_) ?_
        · replace hp_30 := cond_t hg_30 hp_30
          refine go_wantp rfl rfl rfl hg_30 rfl rfl (o_fieldAddr fi_40_5 rfl rfl rfl) ?_
          refine go_wantp rfl rfl rfl hg_30 rfl rfl (o_load Try.isAgg9 rfl rfl) ?_
          obtain ⟨x1, hx1, hp_30⟩ := bind_some hp_30
          refine go_wantp rfl rfl rfl hg_30 rfl rfl (o_call0 Try.call58 rfl (w_syntagmaref03_Name hx1)) ?_
          refine go_wantp rfl rfl rfl hg_30 rfl rfl (o_not rfl) ?_
          refine go_p rfl rfl rfl (o_pickT rfl hg_30 rfl) ?_
          exact go_meet hk30 (congrArg (fun b => some (D.bool b)) (some_eq hp_30)) ⟨rfl, rfl, rfl, trivial⟩
        · replace hp_30 := cond_f hg_30 hp_30
          refine go_skip rfl rfl rfl hg_30 rfl rfl ?_
          refine go_skip rfl rfl rfl hg_30 rfl rfl ?_
          refine go_skip rfl rfl rfl hg_30 rfl rfl ?_
          refine go_skip rfl rfl rfl hg_30 rfl rfl ?_
          refine go_p rfl rfl rfl (o_pickF rfl hg_30 rfl) ?_
          exact go_meet hk30 (congrArg (fun b => some (D.bool b)) (some_eq hp_30)) ⟨rfl, rfl, rfl, trivial⟩
        refine go_p rfl rfl rfl (o_move rfl) ?_
        obtain ⟨p2, hp_31, hm⟩ := bind_some hm
        refine go_two [(1, _), (3, _), (6, _)] 9 164 p2 (t := 155) ⟨rfl, rfl, rfl, trivial⟩ rfl (fun hg_31 hk31 => ?_) (fun hg_31 hk31 => ?_) ?_
        · replace hp_31 := cond_t hg_31 hp_31
          refine go_skip rfl rfl rfl hg_31 rfl rfl ?_
          refine go_skip rfl rfl rfl hg_31 rfl rfl ?_
          refine go_skip rfl rfl rfl hg_31 rfl rfl ?_
          refine go_skipu rfl rfl rfl rfl rfl ?_
          refine go_skipu rfl rfl rfl rfl rfl ?_
          refine go_skipu rfl rfl rfl rfl rfl ?_
          refine go_skipu rfl rfl rfl rfl rfl ?_
          refine go_skip rfl rfl rfl hg_31 rfl rfl ?_
          refine go_p rfl rfl rfl (o_pickT rfl hg_31 rfl) ?_
          exact go_meet hk31 (congrArg (fun b => some (D.bool b)) (some_eq hp_31)) ⟨rfl, rfl, rfl, trivial⟩
        · replace hp_31 := cond_f hg_31 hp_31
          refine go_wantp rfl rfl rfl hg_31 rfl rfl (o_move rfl) ?_
          refine go_wantp rfl rfl rfl hg_31 rfl rfl (o_cmp rfl rfl rfl) ?_
          refine go_wantp rfl rfl rfl hg_31 rfl rfl (o_move rfl) ?_
          obtain ⟨p3, hp_32, hp_31⟩ := bind_some hp_31
          refine go_two [(1, _), (3, _), (6, _), (155, _)] 5 163 p3 (t := 158) ⟨rfl, rfl, rfl, rfl, trivial⟩ rfl (fun hg_32 hk32 => ?_) (fun hg_32 hk32 => ?_) ?_
          · replace hp_32 := cond_t hg_32 hp_32
            refine go_wantp rfl rfl rfl hg_32 rfl rfl (o_fieldAddr fi_40_5 rfl rfl rfl) ?_
            refine go_wantp rfl rfl rfl hg_32 rfl rfl (o_load Try.isAgg9 rfl rfl) ?_
            obtain ⟨x2, hx2, hp_32⟩ := bind_some hp_32
            refine go_wantp rfl rfl rfl hg_32 rfl rfl (o_call0 Try.call108 rfl (w_syntagmaref03_Tag hx2)) ?_
            refine go_wantp rfl rfl rfl hg_32 rfl rfl (o_not rfl) ?_
            refine go_wantp rfl rfl rfl hg_31 rfl rfl (o_pickT rfl hg_32 rfl) ?_
            exact go_meet hk32 (congrArg (fun b => some (D.bool b)) (some_eq hp_32)) ⟨rfl, rfl, rfl, rfl, trivial⟩
          · replace hp_32 := cond_f hg_32 hp_32
            refine go_skip rfl rfl rfl hg_32 rfl rfl ?_
            refine go_skip rfl rfl rfl hg_32 rfl rfl ?_
            refine go_skip rfl rfl rfl hg_32 rfl rfl ?_
            refine go_skip rfl rfl rfl hg_32 rfl rfl ?_
            refine go_wantp rfl rfl rfl hg_31 rfl rfl (o_pickF rfl hg_32 rfl) ?_
            exact go_meet hk32 (congrArg (fun b => some (D.bool b)) (some_eq hp_32)) ⟨rfl, rfl, rfl, rfl, trivial⟩
          refine go_p rfl rfl rfl (o_pickF rfl hg_31 rfl) ?_
          exact go_meet hk31 (congrArg (fun b => some (D.bool b)) (some_eq hp_31)) ⟨rfl, rfl, rfl, trivial⟩
        refine go_p rfl rfl rfl (o_move rfl) ?_
        apply go_or [(1, _), (3, _)] 12 177 (t := 165) ⟨rfl, rfl, trivial⟩ rfl
        · intro hg_33 hk33
          refine go_wantp rfl rfl rfl hg_33 rfl rfl (o_move rfl) ?_
          refine go_wantp rfl rfl rfl hg_33 rfl rfl (o_not rfl) ?_
          refine go_wantp rfl rfl rfl hg_33 rfl rfl (o_move rfl) ?_
          apply go_and [(1, _), (3, _), (165, _)] 3 171 (t := 168) ⟨rfl, rfl, rfl, trivial⟩ rfl
          · intro hg_34 hk34
            refine go_wantp rfl rfl rfl hg_34 rfl rfl (o_move rfl) ?_
            refine go_wantp rfl rfl rfl hg_34 rfl rfl (o_cmp rfl rfl rfl) ?_
            refine go_wantp rfl rfl rfl hg_33 rfl rfl (o_pickT rfl hg_34 rfl) ?_
            exact go_meet hk34 (rfl) ⟨rfl, rfl, rfl, trivial⟩
          · intro hg_34 hk34
            refine go_skip rfl rfl rfl hg_34 rfl rfl ?_
            refine go_skip rfl rfl rfl hg_34 rfl rfl ?_
            refine go_wantp rfl rfl rfl hg_33 rfl rfl (o_pickF rfl hg_34 rfl) ?_
            exact go_meet hk34 (rfl) ⟨rfl, rfl, rfl, trivial⟩
          refine go_wantp rfl rfl rfl hg_33 rfl rfl (o_move rfl) ?_
          apply go_and [(1, _), (3, _), (165, _)] 4 176 (t := 172) ⟨rfl, rfl, rfl, trivial⟩ rfl
          · intro hg_35 hk35
            refine go_wantp rfl rfl rfl hg_35 rfl rfl (o_fieldAddr fi_40_5 rfl rfl rfl) ?_
            refine go_wantp rfl rfl rfl hg_35 rfl rfl (o_load Try.isAgg9 rfl rfl) ?_
            refine go_wantp rfl rfl rfl hg_35 rfl rfl (o_cmps rfl rfl rfl) ?_
            refine go_wantp rfl rfl rfl hg_33 rfl rfl (o_pickT rfl hg_35 rfl) ?_
            exact go_meet hk35 (rfl) ⟨rfl, rfl, rfl, trivial⟩
          · intro hg_35 hk35
            refine go_skip rfl rfl rfl hg_35 rfl rfl ?_
            refine go_skip rfl rfl rfl hg_35 rfl rfl ?_
            refine go_skip rfl rfl rfl hg_35 rfl rfl ?_
            refine go_wantp rfl rfl rfl hg_33 rfl rfl (o_pickF rfl hg_35 rfl) ?_
            exact go_meet hk35 (rfl) ⟨rfl, rfl, rfl, trivial⟩
          refine go_p rfl rfl rfl (o_pickF rfl hg_33 rfl) ?_
          exact go_meet hk33 (rfl) ⟨rfl, rfl, trivial⟩
        · intro hg_33 hk33
          refine go_skip rfl rfl rfl hg_33 rfl rfl ?_
          refine go_skip rfl rfl rfl hg_33 rfl rfl ?_
          refine go_skip rfl rfl rfl hg_33 rfl rfl ?_
          refine go_skipu rfl rfl rfl rfl rfl ?_
          refine go_skipu rfl rfl rfl rfl rfl ?_
          refine go_skip rfl rfl rfl hg_33 rfl rfl ?_
          refine go_skip rfl rfl rfl hg_33 rfl rfl ?_
          refine go_skipu rfl rfl rfl rfl rfl ?_
          refine go_skipu rfl rfl rfl rfl rfl ?_
          refine go_skipu rfl rfl rfl rfl rfl ?_
          refine go_skip rfl rfl rfl hg_33 rfl rfl ?_
          refine go_p rfl rfl rfl (o_pickT rfl hg_33 rfl) ?_
          exact go_meet hk33 (rfl) ⟨rfl, rfl, trivial⟩
        refine go_nil ?_
        refine g_cond rfl (fun hc4 => ?_) (fun hc4 => ?_)
        · replace hm := cond_t hc4 hm
          refine g_seq ?_
          refine g_region ?_
          refine go_p rfl rfl rfl (o_assign rfl) ?_
          refine go_nil ?_
          refine g_ret ?_
          exact retK (ret_one' rfl (ret_tmp rfl) (perm_drop _)) (congrArg (fun (p : Bool) => (.bool p : D)) (some_eq hm))
        · replace hm := cond_f hc4 hm
          refine g_skip ?_
          refine g_seq ?_
          refine g_seq ?_
          refine g_region ?_
          refine go_p rfl rfl rfl (o_move rfl) ?_
          refine go_p rfl rfl rfl (o_cmp rfl rfl rfl) ?_
          refine go_p rfl rfl rfl (o_move rfl) ?_
          apply go_and [(1, _), (3, _)] 4 184 (t := 180) ⟨rfl, rfl, trivial⟩ rfl
          · intro hg_36 hk36
            refine go_wantp rfl rfl rfl hg_36 rfl rfl (o_fieldAddr fi_40_4 rfl rfl rfl) ?_
            refine go_wantp rfl rfl rfl hg_36 rfl rfl (o_load Try.isAgg2 rfl rfl) ?_
            refine go_wantp rfl rfl rfl hg_36 rfl rfl (o_cmp rfl rfl rfl) ?_
            refine go_p rfl rfl rfl (o_pickT rfl hg_36 rfl) ?_
            exact go_meet hk36 (rfl) ⟨rfl, rfl, trivial⟩
          · intro hg_36 hk36
            refine go_skip rfl rfl rfl hg_36 rfl rfl ?_
            refine go_skip rfl rfl rfl hg_36 rfl rfl ?_
            refine go_skip rfl rfl rfl hg_36 rfl rfl ?_
            refine go_p rfl rfl rfl (o_pickF rfl hg_36 rfl) ?_
            exact go_meet hk36 (rfl) ⟨rfl, rfl, trivial⟩
          refine go_p rfl rfl rfl (o_move rfl) ?_
          apply go_and [(1, _), (3, _)] 4 189 (t := 185) ⟨rfl, rfl, trivial⟩ rfl
          · intro hg_37 hk37
            refine go_wantp rfl rfl rfl hg_37 rfl rfl (o_fieldAddr fi_40_4 rfl rfl rfl) ?_
            refine go_wantp rfl rfl rfl hg_37 rfl rfl (o_load Try.isAgg2 rfl rfl) ?_
            refine go_wantp rfl rfl rfl hg_37 rfl rfl (o_cmp rfl rfl rfl) ?_
            refine go_p rfl rfl rfl (o_pickT rfl hg_37 rfl) ?_
            exact go_meet hk37 (rfl) ⟨rfl, rfl, trivial⟩
          · intro hg_37 hk37
            refine go_skip rfl rfl rfl hg_37 rfl rfl ?_
            refine go_skip rfl rfl rfl hg_37 rfl rfl ?_
            refine go_skip rfl rfl rfl hg_37 rfl rfl ?_
            refine go_p rfl rfl rfl (o_pickF rfl hg_37 rfl) ?_
            exact go_meet hk37 (rfl) ⟨rfl, rfl, trivial⟩
          refine go_p rfl rfl rfl (o_move rfl) ?_
          apply go_or [(1, _), (3, _)] 13 203 (t := 190) ⟨rfl, rfl, trivial⟩ rfl
          · intro hg_38 hk38
            refine go_wantp rfl rfl rfl hg_38 rfl rfl (o_move rfl) ?_
            refine go_wantp rfl rfl rfl hg_38 rfl rfl (o_cmp rfl rfl rfl) ?_
            refine go_wantp rfl rfl rfl hg_38 rfl rfl (o_move rfl) ?_
            apply go_and [(1, _), (3, _), (190, _)] 9 202 (t := 193) ⟨rfl, rfl, rfl, trivial⟩ rfl
            · intro hg_39 hk39
              refine go_wantp rfl rfl rfl hg_39 rfl rfl (o_fieldAddr fi_40_4 rfl rfl rfl) ?_
              refine go_wantp rfl rfl rfl hg_39 rfl rfl (o_load Try.isAgg2 rfl rfl) ?_
              refine go_wantp rfl rfl rfl hg_39 rfl rfl (o_cmp rfl rfl rfl) ?_
              refine go_wantp rfl rfl rfl hg_39 rfl rfl (o_move rfl) ?_
              apply go_or [(1, _), (3, _), (190, _), (193, _)] 4 201 (t := 197) ⟨rfl, rfl, rfl, rfl, trivial⟩ rfl
              · intro hg_40 hk40
                refine go_wantp rfl rfl rfl hg_40 rfl rfl (o_fieldAddr fi_40_4 rfl rfl rfl) ?_
                refine go_wantp rfl rfl rfl hg_40 rfl rfl (o_load Try.isAgg2 rfl rfl) ?_
                refine go_wantp rfl rfl rfl hg_40 rfl rfl (o_cmp rfl rfl rfl) ?_
                refine go_wantp rfl rfl rfl hg_39 rfl rfl (o_pickF rfl hg_40 rfl) ?_
                exact go_meet hk40 (rfl) ⟨rfl, rfl, rfl, rfl, trivial⟩
              · intro hg_40 hk40
                refine go_skip rfl rfl rfl hg_40 rfl rfl ?_
                refine go_skip rfl rfl rfl hg_40 rfl rfl ?_
                refine go_skip rfl rfl rfl hg_40 rfl rfl ?_
                refine go_wantp rfl rfl rfl hg_39 rfl rfl (o_pickT rfl hg_40 rfl) ?_
                exact go_meet hk40 (rfl) ⟨rfl, rfl, rfl, rfl, trivial⟩
              refine go_wantp rfl rfl rfl hg_38 rfl rfl (o_pickT rfl hg_39 rfl) ?_
              exact go_meet hk39 (rfl) ⟨rfl, rfl, rfl, trivial⟩
            · intro hg_39 hk39
              refine go_skip rfl rfl rfl hg_39 rfl rfl ?_
              refine go_skip rfl rfl rfl hg_39 rfl rfl ?_
              refine go_skip rfl rfl rfl hg_39 rfl rfl ?_
              refine go_skip rfl rfl rfl hg_39 rfl rfl ?_
              refine go_skipu rfl rfl rfl rfl rfl ?_
              refine go_skipu rfl rfl rfl rfl rfl ?_
              refine go_skipu rfl rfl rfl rfl rfl ?_
              refine go_skip rfl rfl rfl hg_39 rfl rfl ?_
              refine go_wantp rfl rfl rfl hg_38 rfl rfl (o_pickF rfl hg_39 rfl) ?_
              exact go_meet hk39 (rfl) ⟨rfl, rfl, rfl, trivial⟩
            refine go_p rfl rfl rfl (o_pickF rfl hg_38 rfl) ?_
            exact go_meet hk38 (rfl) ⟨rfl, rfl, trivial⟩
          · intro hg_38 hk38
            refine go_skip rfl rfl rfl hg_38 rfl rfl ?_
            refine go_skip rfl rfl rfl hg_38 rfl rfl ?_
            refine go_skip rfl rfl rfl hg_38 rfl rfl ?_
            refine go_skipu rfl rfl rfl rfl rfl ?_
            refine go_skipu rfl rfl rfl rfl rfl ?_
            refine go_skipu rfl rfl rfl rfl rfl ?_
            refine go_skipu rfl rfl rfl rfl rfl ?_
            refine go_skipu rfl rfl rfl rfl rfl ?_
            refine go_skipu rfl rfl rfl rfl rfl ?_
            refine go_skipu rfl rfl rfl rfl rfl ?_
            refine go_skipu rfl rfl rfl rfl rfl ?_
            refine go_skip rfl rfl rfl hg_38 rfl rfl ?_
            refine go_p rfl rfl rfl (o_pickT rfl hg_38 rfl) ?_
            exact go_meet hk38 (rfl) ⟨rfl, rfl, trivial⟩
          refine go_p rfl rfl rfl (o_move rfl) ?_
          apply go_or [(1, _), (3, _)] 9 213 (t := 204) ⟨rfl, rfl, trivial⟩ rfl
          · intro hg_41 hk41
            refine go_wantp rfl rfl rfl hg_41 rfl rfl (o_move rfl) ?_
            refine go_wantp rfl rfl rfl hg_41 rfl rfl (o_cmp rfl rfl rfl) ?_
            refine go_wantp rfl rfl rfl hg_41 rfl rfl (o_move rfl) ?_
            apply go_and [(1, _), (3, _), (204, _)] 5 212 (t := 207) ⟨rfl, rfl, rfl, trivial⟩ rfl
            · intro hg_42 hk42
              refine go_wantp rfl rfl rfl hg_42 rfl rfl (o_fieldAddr fi_40_6 rfl rfl rfl) ?_
              refine go_wantp rfl rfl rfl hg_42 rfl rfl (o_load Try.isAgg9 rfl rfl) ?_
              refine go_wantp rfl rfl rfl hg_42 rfl rfl (o_len_str Try.runUnderlying9 rfl) ?_
              refine go_wantp rfl rfl rfl hg_42 rfl rfl (o_cmp rfl rfl rfl) ?_
              refine go_wantp rfl rfl rfl hg_41 rfl rfl (o_pickT rfl hg_42 rfl) ?_
              exact go_meet hk42 (rfl) ⟨rfl, rfl, rfl, trivial⟩
            · intro hg_42 hk42
              refine go_skip rfl rfl rfl hg_42 rfl rfl ?_
              refine go_skip rfl rfl rfl hg_42 rfl rfl ?_
              refine go_skip rfl rfl rfl hg_42 rfl rfl ?_
              refine go_skip rfl rfl rfl hg_42 rfl rfl ?_
              refine go_wantp rfl rfl rfl hg_41 rfl rfl (o_pickF rfl hg_42 rfl) ?_
              exact go_meet hk42 (rfl) ⟨rfl, rfl, rfl, trivial⟩
            refine go_p rfl rfl rfl (o_pickF rfl hg_41 rfl) ?_
            exact go_meet hk41 (rfl) ⟨rfl, rfl, trivial⟩
          · intro hg_41 hk41
            refine go_skip rfl rfl rfl hg_41 rfl rfl ?_
            refine go_skip rfl rfl rfl hg_41 rfl rfl ?_
            refine go_skip rfl rfl rfl hg_41 rfl rfl ?_
            refine go_skipu rfl rfl rfl rfl rfl ?_
            refine go_skipu rfl rfl rfl rfl rfl ?_
            refine go_skipu rfl rfl rfl rfl rfl ?_
            refine go_skipu rfl rfl rfl rfl rfl ?_
            refine go_skip rfl rfl rfl hg_41 rfl rfl ?_
            refine go_p rfl rfl rfl (o_pickT rfl hg_41 rfl) ?_
            exact go_meet hk41 (rfl) ⟨rfl, rfl, trivial⟩
          refine go_nil ?_
          refine g_cond rfl (fun hc5 => ?_) (fun hc5 => ?_)
          · replace hm := cond_t hc5 hm
            refine g_seq ?_
            refine g_region ?_
            refine go_p rfl rfl rfl (o_assign rfl) ?_
            refine go_nil ?_
            refine g_ret ?_
            exact retK (ret_one' rfl (ret_tmp rfl) (perm_drop _)) (congrArg (fun (p : Bool) => (.bool p : D)) (some_eq hm))
          · replace hm := cond_f hc5 hm
            refine g_skip ?_
            refine g_seq ?_
            refine g_region ?_
            refine go_p rfl rfl rfl (o_move rfl) ?_
            refine go_p rfl rfl rfl (o_cmp rfl rfl rfl) ?_
            refine go_p rfl rfl rfl (o_move rfl) ?_
            apply go_and [(1, _)] 3 219 (t := 216) ⟨rfl, trivial⟩ rfl
            · intro hg_43 hk43
              refine go_wantp rfl rfl rfl hg_43 rfl rfl (o_move rfl) ?_
              refine go_wantp rfl rfl rfl hg_43 rfl rfl (o_cmp rfl rfl rfl) ?_
              refine go_p rfl rfl rfl (o_pickT rfl hg_43 rfl) ?_
              exact go_meet hk43 (rfl) ⟨rfl, trivial⟩
            · intro hg_43 hk43
              refine go_skip rfl rfl rfl hg_43 rfl rfl ?_
              refine go_skip rfl rfl rfl hg_43 rfl rfl ?_
              refine go_p rfl rfl rfl (o_pickF rfl hg_43 rfl) ?_
              exact go_meet hk43 (rfl) ⟨rfl, trivial⟩
            refine go_p rfl rfl rfl (o_move rfl) ?_
            obtain ⟨p4, hp_44, hm⟩ := bind_some hm
            refine go_two [] 3 223 p4 (t := 220) trivial rfl (fun hg_44 hk44 => ?_) (fun hg_44 hk44 => ?_) ?_
            · replace hp_44 := cond_t hg_44 hp_44
              refine go_skip rfl rfl rfl hg_44 rfl rfl ?_
              refine go_skip rfl rfl rfl hg_44 rfl rfl ?_
              refine go_p rfl rfl rfl (o_pickT rfl hg_44 rfl) ?_
              exact go_meet hk44 (congrArg (fun b => some (D.bool b)) (some_eq hp_44)) trivial
            · replace hp_44 := cond_f hg_44 hp_44
              refine go_wantp rfl rfl rfl hg_44 rfl rfl (o_load_agg Try.isAgg40 Try.sizeOf40 rfl rfl) ?_
              obtain ⟨x3, hx3, hp_44⟩ := bind_some hp_44
              refine go_wantp rfl rfl rfl hg_44 rfl rfl (o_call0 Try.call109 rfl (w_syntagmaref05_labels hx3)) ?_
              refine go_p rfl rfl rfl (o_pickF rfl hg_44 rfl) ?_
              exact go_meet hk44 (congrArg (fun b => some (D.bool b)) (some_eq hp_44)) trivial
            refine go_p rfl rfl rfl (o_assign rfl) ?_
            refine go_nil ?_
            refine g_ret ?_
            exact retK (ret_one' rfl (ret_tmp rfl) (perm_drop _)) (congrArg (fun (p : Bool) => (.bool p : D)) (some_eq hm))
def m_syntagmaref05_May_l2 (i1 : Int) (x4 : (List Int)) : Nat → (Int × (List Int) × (List Int)) → Option (Out Int ((List Int) × (List Int)))
  | 0, _ => none
  | n + 1, (j1, l7, l8) =>
    bif (decide (j1 < (x4.length : Int))) then
      (idx x4 j1).bind fun x5 =>
      (bif (decide (x5 < 0)) then (some true) else ((idx x4 j1).bind fun x6 =>
      some (decide (i1 ≤ x6)))).bind fun p1 =>
      bif p1 then
        some (Out.ret 4)
      else
        (idx x4 j1).bind fun x7 =>
        (idx l7 x7).bind fun x8 =>
        grd (InR (x8 + 1)) <|
        (idx l7 x7).bind fun x9 =>
        (idx l8 i1).bind fun x10 =>
        (idx x4 j1).bind fun x11 =>
        (idx l8 x11).bind fun x12 =>
        (idx l8 i1).bind fun x13 =>
        grd (InR (j1 + 1)) <|
        m_syntagmaref05_May_l2 i1 x4 n ((j1 + 1), (l7.set (x7).toNat (x8 + 1)), (l8.set (i1).toNat (if x12 > x10 then x12 else x10)))
    else
      some (Out.go ((l7, l8)))
def m_syntagmaref05_May_l1 (e1 : ApiExpr) : Nat → (Int × (List Int) × (List Int)) → Option (Out Int ((List Int) × (List Int)))
  | 0, _ => none
  | n + 1, (i1, l3, l4) =>
    bif (decide (i1 < (e1.l.length : Int))) then
      (idx e1.l i1).bind fun x1 =>
      (m_syntagmaref05_right x1).bind fun x2 =>
      bif (!x2) then
        some (Out.ret 4)
      else
        (idx e1.l i1).bind fun x3 =>
        (m_syntagmaref05_Kids x3).bind fun x4 =>
        ((m_syntagmaref05_May_l2 i1 x4 FU (0, l3, l4) : Option (Out Int ((List Int) × (List Int))))).bind (fun oo => oo.on (fun r1 => some (Out.ret r1)) (fun (l5, l6) =>
        (idx l6 i1).bind fun x14 =>
        grd (InR (x14 + 1)) <|
        (idx l6 i1).bind fun x15 =>
        (idx e1.l i1).bind fun x16 =>
        bif (decide (x16.kind = 8)) then ((idx e1.l i1).bind fun x17 =>
        (idx e1.l x17.a).bind fun x18 =>
        bif (!decide (x18.kind = 5)) then
          some (Out.ret 4)
        else
          grd (InR (i1 + 1)) <|
          m_syntagmaref05_May_l1 e1 n ((i1 + 1), l5, (l6.set (i1).toNat (x14 + 1)))) else (grd (InR (i1 + 1)) <|
        m_syntagmaref05_May_l1 e1 n ((i1 + 1), l5, (l6.set (i1).toNat (x14 + 1))))))
    else
      some (Out.go ((l3, l4)))
def m_syntagmaref05_May_l3 (e1 : ApiExpr) (l1 : (List Int)) : Nat → Int → Option (Out Int Unit)
  | 0, _ => none
  | n + 1, i2 =>
    grd (InR ((e1.l.length : Int) - 1)) <|
    bif (decide (i2 < ((e1.l.length : Int) - 1))) then
      (idx l1 i2).bind fun x19 =>
      bif (!decide (x19 = 1)) then
        some (Out.ret 4)
      else
        grd (InR (i2 + 1)) <|
        m_syntagmaref05_May_l3 e1 l1 n (i2 + 1)
    else
      some (Out.go (()))
def m_syntagmaref05_May (e1 : ApiExpr) : Option Int :=
  bif ((decide ((e1.l.length : Int) < 1)) || (decide (600 < (e1.l.length : Int)))) then
    some 8
  else
    grd (0 ≤ (e1.l.length : Int)) <|
    grd (((e1.l.length : Int)).toNat * 8 ≤ 140737488355328) <|
    grd (0 ≤ (e1.l.length : Int)) <|
    grd (((e1.l.length : Int)).toNat * 8 ≤ 140737488355328) <|
    ((m_syntagmaref05_May_l1 e1 FU (0, (List.replicate ((e1.l.length : Int)).toNat (0 : Int)), (List.replicate ((e1.l.length : Int)).toNat (0 : Int))) : Option (Out Int ((List Int) × (List Int))))).bind (fun oo => oo.on (fun r3 => some r3) (fun (l1, l2) =>
    ((m_syntagmaref05_May_l3 e1 l1 FU 0 : Option (Out Int Unit))).bind (fun oo => oo.on (fun r2 => some r2) (fun _ =>
    grd (InR ((e1.l.length : Int) - 1)) <|
    (idx l2 ((e1.l.length : Int) - 1)).bind fun x20 =>
    bif (decide (100 < x20)) then
      some 6
    else
      some 0))))
theorem w_syntagmaref05_May {e1 : ApiExpr} {r_1 : Int} (hm : m_syntagmaref05_May e1 = some r_1) : Fn0 Try.prog 26 [ApiExpr.d e1] (.i64 r_1) := by
  unfold m_syntagmaref05_May at hm
  refine fn_intro Try.func26 rfl Try.ntmps26 rfl fun H0 fr w0 => ?_
  refine g_seq ?_
  refine g_region ?_
  refine go_p rfl rfl rfl (o_box rfl rfl) ?_
  refine go_p rfl rfl rfl (o_assign rfl) ?_
  refine go_nil ?_
  refine g_seq ?_
  refine g_seq ?_
  refine g_region ?_
  refine go_p rfl rfl rfl (o_fieldAddr fi_37_0 rfl rfl rfl) ?_
  refine go_p rfl rfl rfl (o_load Try.isAgg35 rfl rfl) ?_
  refine go_p rfl rfl rfl (o_len Try.runUnderlying35 rfl) ?_
  refine go_p rfl rfl rfl (o_cmp rfl rfl rfl) ?_
  refine go_p rfl rfl rfl (o_move rfl) ?_
  apply go_or [(1, _)] 5 18 (t := 13) ⟨rfl, trivial⟩ rfl
  · intro hg_1 hk1
    refine go_wantp rfl rfl rfl hg_1 rfl rfl (o_fieldAddr fi_37_0 rfl rfl rfl) ?_
    refine go_wantp rfl rfl rfl hg_1 rfl rfl (o_load Try.isAgg35 rfl rfl) ?_
    refine go_wantp rfl rfl rfl hg_1 rfl rfl (o_len Try.runUnderlying35 rfl) ?_
    refine go_wantp rfl rfl rfl hg_1 rfl rfl (o_cmp rfl rfl rfl) ?_
    refine go_p rfl rfl rfl (o_pickF rfl hg_1 rfl) ?_
    exact go_meet hk1 (rfl) ⟨rfl, trivial⟩
  · intro hg_1 hk1
    refine go_skip rfl rfl rfl hg_1 rfl rfl ?_
    refine go_skip rfl rfl rfl hg_1 rfl rfl ?_
    refine go_skip rfl rfl rfl hg_1 rfl rfl ?_
    refine go_skip rfl rfl rfl hg_1 rfl rfl ?_
    refine go_p rfl rfl rfl (o_pickT rfl hg_1 rfl) ?_
    exact go_meet hk1 (rfl) ⟨rfl, trivial⟩
  refine go_nil ?_
  refine g_cond rfl (fun hc1 => ?_) (fun hc1 => ?_)
  · replace hm := cond_t hc1 hm
    refine g_seq ?_
    refine g_region ?_
    refine go_p rfl rfl rfl (o_assign rfl) ?_
    refine go_nil ?_
    refine g_ret ?_
    exact retK (ret_one' rfl (ret_tmp rfl) (perm_drop _)) (congrArg (fun (p : Int) => (.i64 p : D)) (some_eq hm))
  · replace hm := cond_f hc1 hm
    refine g_skip ?_
    refine g_seq ?_
    obtain ⟨hg1, hm⟩ := grd_some hm
    obtain ⟨hg2, hm⟩ := grd_some hm
    obtain ⟨hg3, hm⟩ := grd_some hm
    obtain ⟨hg4, hm⟩ := grd_some hm
    refine g_draw_al 9 [3, 7] [(8, 3)] Try_mixed (by decide +kernel) (by decide +kernel) rfl rfl rfl (by decide +kernel) ?_
    refine gda_p rfl rfl rfl rfl (o_fieldAddr fi_37_0 rfl rfl rfl) ?_
    refine gda_p rfl rfl rfl rfl (o_load Try.isAgg35 rfl rfl) ?_
    refine gda_p rfl rfl rfl rfl (o_len Try.runUnderlying35 rfl) ?_
    refine gda_fresh (R := fun d A => ∃ a m cap, d = .v (.slice a m cap) ∧ A = arr a m cap 3 1 D.i64 (List.replicate ((e1.l.length : Int)).toNat (0 : Int))) rfl rfl rfl (OpT.mono (o_makeSlice (f := D.i64) (z0 := 0) Try.underlying46 Try.type3 rfl rfl rfl (Nat.le_of_ble_eq_true rfl) rfl rfl hg1 hg2 (Nat.le_of_ble_eq_true rfl)) (by rintro d ms' ⟨a, m, cap, rfl, rfl⟩; exact ⟨_, ⟨a, m, cap, rfl, rfl⟩, rfl⟩)) ?_
    refine gda_p rfl rfl rfl rfl (o_fieldAddr fi_37_0 rfl rfl rfl) ?_
    refine gda_p rfl rfl rfl rfl (o_load Try.isAgg35 rfl rfl) ?_
    refine gda_p rfl rfl rfl rfl (o_len Try.runUnderlying35 rfl) ?_
    refine gda_fresh (R := fun d A => ∃ a m cap, d = .v (.slice a m cap) ∧ A = arr a m cap 3 1 D.i64 (List.replicate ((e1.l.length : Int)).toNat (0 : Int))) rfl rfl rfl (OpT.mono (o_makeSlice (f := D.i64) (z0 := 0) Try.underlying46 Try.type3 rfl rfl rfl (Nat.le_of_ble_eq_true rfl) rfl rfl hg3 hg4 (Nat.le_of_ble_eq_true rfl)) (by rintro d ms' ⟨a, m, cap, rfl, rfl⟩; exact ⟨_, ⟨a, m, cap, rfl, rfl⟩, rfl⟩)) ?_
    refine gda_a rfl rfl ?_
    refine gda_nil ?_
    rintro _ _ ⟨a_r1, m_r1, cap_r1, rfl, rfl⟩
    rintro _ _ ⟨a_r2, m_r2, cap_r2, rfl, rfl⟩
    refine go_p rfl rfl rfl (o_assign rfl) ?_
    refine go_nil ?_
    refine g_seq ?_
    refine g_seq ?_
    refine g_region ?_
    refine go_p rfl rfl rfl (o_assign rfl) ?_
    refine go_nil ?_
    obtain ⟨o_1, hj1, hm1⟩ := bind_some hm
    refine g_cut_m [(1, _), (3, _), (4, _)] [] (fun (st : ((List Int) × (List Int))) (hid : Unit × Unit) => match st, hid with | (l1, l2), (_, _) => []) (fun F (st : ((List Int) × (List Int))) (hid : Unit × Unit) => match st, hid with | (l1, l2), (_, _) => [arr a_r1 m_r1 cap_r1 3 1 D.i64 l1, arr a_r2 m_r2 cap_r2 3 1 D.i64 l2]) (fun st => Out.go (st) = o_1) ⟨rfl, rfl, rfl, trivial⟩ trivial ?_ ?_
    · skip
      refine g_block ?_
      refine g_loop_m [(1, _), (3, _), (4, _)] [] (fun (st : (Int × (List Int) × (List Int))) (hid : Unit × Unit) => match st, hid with | (i1, l3, l4), (_, _) => [(5, .i64 i1)]) (fun F (st : (Int × (List Int) × (List Int))) (hid : Unit × Unit) => match st, hid with | (i1, l3, l4), (_, _) => [arr a_r1 m_r1 cap_r1 3 1 D.i64 l3, arr a_r2 m_r2 cap_r2 3 1 D.i64 l4]) ((), ()) hj1 (fun _ => rfl) ⟨rfl, rfl, rfl, trivial⟩ trivial ⟨rfl, trivial⟩ rfl ?_
      rintro n ⟨i1, l3, l4⟩ ⟨⟨⟩, ⟨⟩⟩ hj1
      rw [m_syntagmaref05_May_l1] at hj1
      refine g_norm (L' := [(5, .i64 i1), (1, _), (3, _), (4, _)]) (ms' := [arr a_r1 m_r1 cap_r1 3 1 D.i64 l3, arr a_r2 m_r2 cap_r2 3 1 D.i64 l4]) rfl rfl ?_
      refine g_seq ?_
      refine g_seq ?_
      refine g_region ?_
      refine go_p rfl rfl rfl (o_move rfl) ?_
      refine go_p rfl rfl rfl (o_fieldAddr fi_37_0 rfl rfl rfl) ?_
      refine go_p rfl rfl rfl (o_load Try.isAgg35 rfl rfl) ?_
      refine go_p rfl rfl rfl (o_len Try.runUnderlying35 rfl) ?_
      refine go_p rfl rfl rfl (o_cmp rfl rfl rfl) ?_
      refine go_nil ?_
      refine g_cond rfl (fun hc2 => ?_) (fun hc2 => ?_)
      · replace hj1 := cond_t hc2 hj1
        refine g_skip ?_
        refine g_seq ?_
        refine g_block ?_
        refine g_seq ?_
        refine g_seq ?_
        refine g_region ?_
        refine go_p rfl rfl rfl (o_fieldAddr fi_37_0 rfl rfl rfl) ?_
        refine go_p rfl rfl rfl (o_load Try.isAgg35 rfl rfl) ?_
        refine go_p rfl rfl rfl (o_move rfl) ?_
        obtain ⟨x1, hx5, hj1⟩ := bind_some hj1
        refine go_p rfl rfl rfl (o_indexAddr_m Try.runUnderlying35 Try.sizeOf40 rfl rfl hx5) ?_
        refine go_p rfl rfl rfl (o_load_agg Try.isAgg40 Try.sizeOf40 rfl rfl) ?_
        obtain ⟨x2, hx6, hj1⟩ := bind_some hj1
        refine go_p rfl rfl rfl (o_call0 Try.call68 rfl (w_syntagmaref05_right hx6)) ?_
        refine go_p rfl rfl rfl (o_not rfl) ?_
        refine go_nil ?_
        refine g_cond rfl (fun hc3 => ?_) (fun hc3 => ?_)
        · replace hj1 := cond_t hc3 hj1
          refine g_seq ?_
          refine g_region ?_
          refine go_p rfl rfl rfl (o_assign rfl) ?_
          refine go_nil ?_
          refine g_ret ?_
          obtain rfl := some_eq hj1
          replace hm1 := on_ret hm1
          exact retK (ret_one' rfl (ret_tmp rfl) (perm_drop _)) (congrArg (fun (p : Int) => (.i64 p : D)) (some_eq hm1))
        · replace hj1 := cond_f hc3 hj1
          refine g_skip ?_
          refine g_seq ?_
          refine g_region ?_
          refine go_p rfl rfl rfl (o_fieldAddr fi_37_0 rfl rfl rfl) ?_
          refine go_p rfl rfl rfl (o_load Try.isAgg35 rfl rfl) ?_
          refine go_p rfl rfl rfl (o_move rfl) ?_
          obtain ⟨x3, hx7, hj1⟩ := bind_some hj1
          refine go_p rfl rfl rfl (o_indexAddr_m Try.runUnderlying35 Try.sizeOf40 rfl rfl hx7) ?_
          refine go_p rfl rfl rfl (o_load_agg Try.isAgg40 Try.sizeOf40 rfl rfl) ?_
          obtain ⟨x4, hx8, hj1⟩ := bind_some hj1
          refine go_p rfl rfl rfl (o_call0 Try.call32 rfl (w_syntagmaref05_Kids hx8)) ?_
          refine go_p rfl rfl rfl (o_assign rfl) ?_
          refine go_nil ?_
          refine g_seq ?_
          refine g_seq ?_
          refine g_region ?_
          refine go_p rfl rfl rfl (o_assign rfl) ?_
          refine go_nil ?_
          obtain ⟨o_2, hj2, hm2⟩ := bind_some hj1
          refine g_cut_m [(1, _), (3, _), (4, _), (5, _)] [] (fun (st : ((List Int) × (List Int))) (hid : Unit × Unit) => match st, hid with | (l5, l6), (_, _) => []) (fun F (st : ((List Int) × (List Int))) (hid : Unit × Unit) => match st, hid with | (l5, l6), (_, _) => [arr a_r1 m_r1 cap_r1 3 1 D.i64 l5, arr a_r2 m_r2 cap_r2 3 1 D.i64 l6]) (fun st => Out.go (st) = o_2) ⟨rfl, rfl, rfl, rfl, trivial⟩ trivial ?_ ?_
          · skip
            refine g_block ?_
            refine g_loop_m [(1, _), (3, _), (4, _), (5, _), (6, _)] [] (fun (st : (Int × (List Int) × (List Int))) (hid : Unit × Unit) => match st, hid with | (j1, l7, l8), (_, _) => [(7, .i64 j1)]) (fun F (st : (Int × (List Int) × (List Int))) (hid : Unit × Unit) => match st, hid with | (j1, l7, l8), (_, _) => [arr a_r1 m_r1 cap_r1 3 1 D.i64 l7, arr a_r2 m_r2 cap_r2 3 1 D.i64 l8]) ((), ()) hj2 (fun _ => rfl) ⟨rfl, rfl, rfl, rfl, rfl, trivial⟩ trivial ⟨rfl, trivial⟩ rfl ?_
            rintro n ⟨j1, l7, l8⟩ ⟨⟨⟩, ⟨⟩⟩ hj2
            rw [m_syntagmaref05_May_l2] at hj2
            refine g_norm (L' := [(7, .i64 j1), (1, _), (3, _), (4, _), (5, _), (6, _)]) (ms' := [arr a_r1 m_r1 cap_r1 3 1 D.i64 l7, arr a_r2 m_r2 cap_r2 3 1 D.i64 l8]) rfl rfl ?_
            refine g_seq ?_
            refine g_seq ?_
            refine g_region ?_
            refine go_p rfl rfl rfl (o_move rfl) ?_
            refine go_p rfl rfl rfl (o_move rfl) ?_
            refine go_p rfl rfl rfl (o_len Try.runUnderlying46 rfl) ?_
            refine go_p rfl rfl rfl (o_cmp rfl rfl rfl) ?_
            refine go_nil ?_
            refine g_cond rfl (fun hc4 => ?_) (fun hc4 => ?_)
            · replace hj2 := cond_t hc4 hj2
              refine g_skip ?_
              refine g_seq ?_
              refine g_block ?_
              refine g_seq ?_
              refine g_seq ?_
              refine g_region ?_
              refine go_p rfl rfl rfl (o_move rfl) ?_
              refine go_p rfl rfl rfl (o_move rfl) ?_
              obtain ⟨x5, hx9, hj2⟩ := bind_some hj2
              refine go_p rfl rfl rfl (o_indexAddr_m Try.runUnderlying46 Try.sizeOf3 rfl rfl hx9) ?_
              refine go_p rfl rfl rfl (o_load Try.isAgg3 rfl rfl) ?_
              refine go_p rfl rfl rfl (o_cmp rfl rfl rfl) ?_
              refine go_p rfl rfl rfl (o_move rfl) ?_
              obtain ⟨p1, hp_2, hj2⟩ := bind_some hj2
              refine go_two [(1, _), (3, _), (4, _), (5, _), (6, _), (7, _)] 7 65 p1 (t := 58) ⟨rfl, rfl, rfl, rfl, rfl, rfl, trivial⟩ rfl (fun hg_2 hk2 => ?_) (fun hg_2 hk2 => ?_) ?_
              · replace hp_2 := cond_t hg_2 hp_2
                refine go_skip rfl rfl rfl hg_2 rfl rfl ?_
                refine go_skip rfl rfl rfl hg_2 rfl rfl ?_
                refine go_skip rfl rfl rfl hg_2 rfl rfl ?_
                refine go_skip rfl rfl rfl hg_2 rfl rfl ?_
                refine go_skip rfl rfl rfl hg_2 rfl rfl ?_
                refine go_skip rfl rfl rfl hg_2 rfl rfl ?_
                refine go_p rfl rfl rfl (o_pickT rfl hg_2 rfl) ?_
                exact go_meet hk2 (congrArg (fun b => some (D.bool b)) (some_eq hp_2)) ⟨rfl, rfl, rfl, rfl, rfl, rfl, trivial⟩
              · replace hp_2 := cond_f hg_2 hp_2
                refine go_wantp rfl rfl rfl hg_2 rfl rfl (o_move rfl) ?_
                refine go_wantp rfl rfl rfl hg_2 rfl rfl (o_move rfl) ?_
                obtain ⟨x6, hx10, hp_2⟩ := bind_some hp_2
                refine go_wantp rfl rfl rfl hg_2 rfl rfl (o_indexAddr_m Try.runUnderlying46 Try.sizeOf3 rfl rfl hx10) ?_
                refine go_wantp rfl rfl rfl hg_2 rfl rfl (o_load Try.isAgg3 rfl rfl) ?_
                refine go_wantp rfl rfl rfl hg_2 rfl rfl (o_move rfl) ?_
                refine go_wantp rfl rfl rfl hg_2 rfl rfl (o_cmp rfl rfl rfl) ?_
                refine go_p rfl rfl rfl (o_pickF rfl hg_2 rfl) ?_
                exact go_meet hk2 (congrArg (fun b => some (D.bool b)) (some_eq hp_2)) ⟨rfl, rfl, rfl, rfl, rfl, rfl, trivial⟩
              refine go_nil ?_
              refine g_cond rfl (fun hc5 => ?_) (fun hc5 => ?_)
              · replace hj2 := cond_t hc5 hj2
                refine g_seq ?_
                refine g_region ?_
                refine go_p rfl rfl rfl (o_assign rfl) ?_
                refine go_nil ?_
                refine g_ret ?_
                obtain rfl := some_eq hj2
                replace hm2 := on_ret hm2
                obtain rfl := some_eq hm2
                replace hm1 := on_ret hm1
                exact retK (ret_one' rfl (ret_tmp rfl) (perm_drop _)) (congrArg (fun (p : Int) => (.i64 p : D)) (some_eq hm1))
              · replace hj2 := cond_f hc5 hj2
                refine g_skip ?_
                refine g_seq ?_
                refine g_region ?_
                refine go_p rfl rfl rfl (o_move rfl) ?_
                refine go_p rfl rfl rfl (o_move rfl) ?_
                refine go_p rfl rfl rfl (o_move rfl) ?_
                obtain ⟨x7, hx11, hj2⟩ := bind_some hj2
                refine go_p rfl rfl rfl (o_indexAddr_m Try.runUnderlying46 Try.sizeOf3 rfl rfl hx11) ?_
                refine go_p rfl rfl rfl (o_load Try.isAgg3 rfl rfl) ?_
                obtain ⟨x8, hx12, hj2⟩ := bind_some hj2
                refine go_p rfl rfl rfl (o_indexAddr_arr 0 Try.runUnderlying46 Try.sizeOf3 rfl rfl rfl hx12) ?_
                refine go_p rfl rfl rfl (o_load_arr (off := 0) 0 Try.isAgg3 rfl rfl (idx_some hx12).2 rfl rfl rfl) ?_
                obtain ⟨hg13, hj2⟩ := grd_some hj2
                refine go_p rfl rfl rfl (o_add rfl rfl (i64_id hg13)) ?_
                obtain ⟨x9, hx14, hj2⟩ := bind_some hj2
                refine go_p rfl rfl rfl (o_indexAddr_arr 0 Try.runUnderlying46 Try.sizeOf3 rfl rfl rfl hx14) ?_
                refine go_u rfl rfl (o_store_arr (off := 0) (z' := (x8 + 1)) 0 Try.sizeOf3 rfl rfl (idx_some hx14).2 rfl rfl rfl rfl rfl rfl (Nat.le_of_ble_eq_true rfl) rfl rfl) ?_
                rintro _ _ rfl
                refine go_ms (ms' := [_, _]) rfl ?_
                refine go_nil ?_
                obtain ⟨x10, hx15, hj2⟩ := bind_some hj2
                obtain ⟨x11, hx16, hj2⟩ := bind_some hj2
                obtain ⟨x12, hx17, hj2⟩ := bind_some hj2
                obtain ⟨x13, hx18, hj2⟩ := bind_some hj2
                refine g_draw 15 Try_mixed (by decide +kernel) ?_
                refine gd_p rfl rfl rfl (o_move rfl) ?_
                refine gd_p rfl rfl rfl (o_move rfl) ?_
                refine gd_p rfl rfl rfl (o_move rfl) ?_
                refine gd_p rfl rfl rfl (o_move rfl) ?_
                refine gd_p rfl rfl rfl (o_indexAddr_arr 1 Try.runUnderlying46 Try.sizeOf3 rfl rfl rfl hx15) ?_
                refine gd_p rfl rfl rfl (o_load_arr (off := 0) 1 Try.isAgg3 rfl rfl (idx_some hx15).2 rfl rfl rfl) ?_
                refine gd_p rfl rfl rfl (o_move rfl) ?_
                refine gd_p rfl rfl rfl (o_move rfl) ?_
                refine gd_p rfl rfl rfl (o_move rfl) ?_
                refine gd_p rfl rfl rfl (o_indexAddr_m Try.runUnderlying46 Try.sizeOf3 rfl rfl hx16) ?_
                refine gd_p rfl rfl rfl (o_load Try.isAgg3 rfl rfl) ?_
                refine gd_p rfl rfl rfl (o_indexAddr_arr 1 Try.runUnderlying46 Try.sizeOf3 rfl rfl rfl hx17) ?_
                refine gd_p rfl rfl rfl (o_load_arr (off := 0) 1 Try.isAgg3 rfl rfl (idx_some hx17).2 rfl rfl rfl) ?_
                refine gd_p rfl rfl rfl (o_max rfl rfl) ?_
                refine gd_p rfl rfl rfl (o_indexAddr_arr 1 Try.runUnderlying46 Try.sizeOf3 rfl rfl rfl hx18) ?_
                refine gd_nil ?_
                refine go_u rfl rfl (o_store_arr (off := 0) (z' := (if x12 > x10 then x12 else x10)) 1 Try.sizeOf3 rfl rfl (idx_some hx18).2 rfl rfl rfl rfl rfl rfl (Nat.le_of_ble_eq_true rfl) rfl rfl) ?_
                rintro _ _ rfl
                refine go_ms (ms' := [_, _]) rfl ?_
                refine go_nil ?_
                refine g_region ?_
                refine go_p rfl rfl rfl (o_move rfl) ?_
                obtain ⟨hg19, hj2⟩ := grd_some hj2
                refine go_p rfl rfl rfl (o_add rfl rfl (i64_id hg19)) ?_
                refine go_p rfl rfl rfl (o_assign rfl) ?_
                refine go_nil ?_
                exact ⟨_, ((), ()), hj2, ⟨rfl, trivial⟩, ⟨rfl, rfl, rfl, rfl, rfl, trivial⟩, [], rfl⟩
            · replace hj2 := cond_f hc4 hj2
              refine g_exit ?_
              exact ⟨_, ((), ()), some_eq hj2, trivial, ⟨rfl, rfl, rfl, rfl, trivial⟩, [], rfl⟩
          · rintro ⟨l5, l6⟩ ⟨⟨⟩, ⟨⟩⟩ hst
            subst hst
            replace hm2 := on_go hm2
            refine k_norm (L' := [(1, _), (3, _), (4, _), (5, _)]) (ms' := [arr a_r1 m_r1 cap_r1 3 1 D.i64 l5, arr a_r2 m_r2 cap_r2 3 1 D.i64 l6]) rfl rfl ?_
            refine g_seq ?_
            refine g_region ?_
            refine go_p rfl rfl rfl (o_move rfl) ?_
            refine go_p rfl rfl rfl (o_move rfl) ?_
            obtain ⟨x14, hx20, hm2⟩ := bind_some hm2
            refine go_p rfl rfl rfl (o_indexAddr_arr 1 Try.runUnderlying46 Try.sizeOf3 rfl rfl rfl hx20) ?_
            refine go_p rfl rfl rfl (o_load_arr (off := 0) 1 Try.isAgg3 rfl rfl (idx_some hx20).2 rfl rfl rfl) ?_
            obtain ⟨hg21, hm2⟩ := grd_some hm2
            refine go_p rfl rfl rfl (o_add rfl rfl (i64_id hg21)) ?_
            obtain ⟨x15, hx22, hm2⟩ := bind_some hm2
            refine go_p rfl rfl rfl (o_indexAddr_arr 1 Try.runUnderlying46 Try.sizeOf3 rfl rfl rfl hx22) ?_
            refine go_u rfl rfl (o_store_arr (off := 0) (z' := (x14 + 1)) 1 Try.sizeOf3 rfl rfl (idx_some hx22).2 rfl rfl rfl rfl rfl rfl (Nat.le_of_ble_eq_true rfl) rfl rfl) ?_
            rintro _ _ rfl
            refine go_ms (ms' := [_, _]) rfl ?_
            refine go_nil ?_
            refine g_seq ?_
            obtain ⟨x16, hx23, hm2⟩ := bind_some hm2
            rcases cond_split hm2 with ⟨hg_3, hm2⟩ | ⟨hg_3, hm2⟩
            ·
              skip
              obtain ⟨x17, hx24, hm2⟩ := bind_some hm2
              obtain ⟨x18, hx25, hm2⟩ := bind_some hm2
              refine g_draw 21 Try_mixed (by decide +kernel) ?_
              refine gd_p rfl rfl rfl (o_fieldAddr fi_37_0 rfl rfl rfl) ?_
              refine gd_p rfl rfl rfl (o_load Try.isAgg35 rfl rfl) ?_
              refine gd_p rfl rfl rfl (o_move rfl) ?_
              refine gd_p rfl rfl rfl (o_indexAddr_m Try.runUnderlying35 Try.sizeOf40 rfl rfl hx23) ?_
              refine gd_p rfl rfl rfl (o_fieldAddr fi_40_0 rfl rfl rfl) ?_
              refine gd_p rfl rfl rfl (o_load Try.isAgg3 rfl rfl) ?_
              refine gd_p rfl rfl rfl (o_cmp rfl rfl rfl) ?_
              refine gd_p rfl rfl rfl (o_move rfl) ?_
              refine gd_want rfl rfl rfl hg_3 rfl rfl (o_fieldAddr fi_37_0 rfl rfl rfl) ?_
              refine gd_want rfl rfl rfl hg_3 rfl rfl (o_load Try.isAgg35 rfl rfl) ?_
              refine gd_want rfl rfl rfl hg_3 rfl rfl (o_fieldAddr fi_37_0 rfl rfl rfl) ?_
              refine gd_want rfl rfl rfl hg_3 rfl rfl (o_load Try.isAgg35 rfl rfl) ?_
              refine gd_want rfl rfl rfl hg_3 rfl rfl (o_move rfl) ?_
              refine gd_want rfl rfl rfl hg_3 rfl rfl (o_indexAddr_m Try.runUnderlying35 Try.sizeOf40 rfl rfl hx24) ?_
              refine gd_want rfl rfl rfl hg_3 rfl rfl (o_fieldAddr fi_40_1 rfl rfl rfl) ?_
              refine gd_want rfl rfl rfl hg_3 rfl rfl (o_load Try.isAgg3 rfl rfl) ?_
              refine gd_want rfl rfl rfl hg_3 rfl rfl (o_indexAddr_m Try.runUnderlying35 Try.sizeOf40 rfl rfl hx25) ?_
              refine gd_want rfl rfl rfl hg_3 rfl rfl (o_fieldAddr fi_40_0 rfl rfl rfl) ?_
              refine gd_want rfl rfl rfl hg_3 rfl rfl (o_load Try.isAgg3 rfl rfl) ?_
              refine gd_want rfl rfl rfl hg_3 rfl rfl (o_cmp rfl rfl rfl) ?_
              refine gd_p rfl rfl rfl (o_pickT rfl hg_3 rfl) ?_
              refine gd_nil ?_
              refine go_nil ?_
              refine g_cond rfl (fun hc6 => ?_) (fun hc6 => ?_)
              · replace hm2 := cond_t hc6 hm2
                refine g_seq ?_
                refine g_region ?_
                refine go_p rfl rfl rfl (o_assign rfl) ?_
                refine go_nil ?_
                refine g_ret ?_
                obtain rfl := some_eq hm2
                replace hm1 := on_ret hm1
                exact retK (ret_one' rfl (ret_tmp rfl) (perm_drop _)) (congrArg (fun (p : Int) => (.i64 p : D)) (some_eq hm1))
              · replace hm2 := cond_f hc6 hm2
                refine g_skip ?_
                refine g_region ?_
                refine go_p rfl rfl rfl (o_move rfl) ?_
                obtain ⟨hg26, hm2⟩ := grd_some hm2
                refine go_p rfl rfl rfl (o_add rfl rfl (i64_id hg26)) ?_
                refine go_p rfl rfl rfl (o_assign rfl) ?_
                refine go_nil ?_
                exact ⟨_, ((), ()), hm2, ⟨rfl, trivial⟩, ⟨rfl, rfl, rfl, trivial⟩, [], rfl⟩
            ·
              skip
              refine g_draw 21 Try_mixed (by decide +kernel) ?_
              refine gd_p rfl rfl rfl (o_fieldAddr fi_37_0 rfl rfl rfl) ?_
              refine gd_p rfl rfl rfl (o_load Try.isAgg35 rfl rfl) ?_
              refine gd_p rfl rfl rfl (o_move rfl) ?_
              refine gd_p rfl rfl rfl (o_indexAddr_m Try.runUnderlying35 Try.sizeOf40 rfl rfl hx23) ?_
              refine gd_p rfl rfl rfl (o_fieldAddr fi_40_0 rfl rfl rfl) ?_
              refine gd_p rfl rfl rfl (o_load Try.isAgg3 rfl rfl) ?_
              refine gd_p rfl rfl rfl (o_cmp rfl rfl rfl) ?_
              refine gd_p rfl rfl rfl (o_move rfl) ?_
              refine gd_skip rfl rfl rfl hg_3 rfl rfl ?_
              refine gd_skip rfl rfl rfl hg_3 rfl rfl ?_
              refine gd_skip rfl rfl rfl hg_3 rfl rfl ?_
              refine gd_skip rfl rfl rfl hg_3 rfl rfl ?_
              refine gd_skip rfl rfl rfl hg_3 rfl rfl ?_
              refine gd_skip rfl rfl rfl hg_3 rfl rfl ?_
              refine gd_skip rfl rfl rfl hg_3 rfl rfl ?_
              refine gd_skip rfl rfl rfl hg_3 rfl rfl ?_
              refine gd_skip rfl rfl rfl hg_3 rfl rfl ?_
              refine gd_skip rfl rfl rfl hg_3 rfl rfl ?_
              refine gd_skip rfl rfl rfl hg_3 rfl rfl ?_
              refine gd_skip rfl rfl rfl hg_3 rfl rfl ?_
              refine gd_p rfl rfl rfl (o_pickF rfl hg_3 rfl) ?_
              refine gd_nil ?_
              refine go_nil ?_
              refine g_cond_false rfl rfl ?_
              refine g_skip ?_
              refine g_region ?_
              refine go_p rfl rfl rfl (o_move rfl) ?_
              obtain ⟨hg27, hm2⟩ := grd_some hm2
              refine go_p rfl rfl rfl (o_add rfl rfl (i64_id hg27)) ?_
              refine go_p rfl rfl rfl (o_assign rfl) ?_
              refine go_nil ?_
              exact ⟨_, ((), ()), hm2, ⟨rfl, trivial⟩, ⟨rfl, rfl, rfl, trivial⟩, [], rfl⟩
      · replace hj1 := cond_f hc2 hj1
        refine g_exit ?_
        exact ⟨_, ((), ()), some_eq hj1, trivial, ⟨rfl, rfl, rfl, trivial⟩, [], rfl⟩
    · rintro ⟨l1, l2⟩ ⟨⟨⟩, ⟨⟩⟩ hst
      subst hst
      replace hm1 := on_go hm1
      refine k_norm (L' := [(1, _), (3, _), (4, _)]) (ms' := [arr a_r1 m_r1 cap_r1 3 1 D.i64 l1, arr a_r2 m_r2 cap_r2 3 1 D.i64 l2]) rfl rfl ?_
      refine g_seq ?_
      refine g_seq ?_
      refine g_region ?_
      refine go_p rfl rfl rfl (o_assign rfl) ?_
      refine go_nil ?_
      obtain ⟨o_3, hj3, hm3⟩ := bind_some hm1
      refine g_cut_m [(1, _), (4, _)] [(0, _), (1, _)] (fun (st : Unit) (hid : Unit) => match st, hid with | _, _ => []) (fun F (st : Unit) (hid : Unit) => match st, hid with | _, _ => [(nthF F 0), (nthF F 1)]) (fun st => Out.go (st) = o_3) ⟨rfl, rfl, trivial⟩ ⟨rfl, rfl, trivial⟩ ?_ ?_
      · skip
        refine g_block ?_
        refine g_loop_m [(1, _), (3, _), (4, _)] [(0, _), (1, _)] (fun (st : Int) (hid : Unit) => match st, hid with | i2, _ => [(8, .i64 i2)]) (fun F (st : Int) (hid : Unit) => match st, hid with | i2, _ => [(nthF F 0), (nthF F 1)]) () hj3 (fun _ => rfl) ⟨rfl, rfl, rfl, trivial⟩ ⟨rfl, rfl, trivial⟩ ⟨rfl, trivial⟩ rfl ?_
        rintro n i2 _ hj3
        rw [m_syntagmaref05_May_l3] at hj3
        refine g_norm (L' := [(8, .i64 i2), (1, _), (3, _), (4, _)]) (ms' := [_, _]) rfl rfl ?_
        refine g_seq ?_
        refine g_seq ?_
        refine g_region ?_
        refine go_p rfl rfl rfl (o_move rfl) ?_
        refine go_p rfl rfl rfl (o_fieldAddr fi_37_0 rfl rfl rfl) ?_
        refine go_p rfl rfl rfl (o_load Try.isAgg35 rfl rfl) ?_
        refine go_p rfl rfl rfl (o_len Try.runUnderlying35 rfl) ?_
        obtain ⟨hg28, hj3⟩ := grd_some hj3
        refine go_p rfl rfl rfl (o_sub rfl rfl (i64_id hg28)) ?_
        refine go_p rfl rfl rfl (o_cmp rfl rfl rfl) ?_
        refine go_nil ?_
        refine g_cond rfl (fun hc7 => ?_) (fun hc7 => ?_)
        · replace hj3 := cond_t hc7 hj3
          refine g_skip ?_
          refine g_seq ?_
          refine g_block ?_
          refine g_seq ?_
          refine g_region ?_
          refine go_p rfl rfl rfl (o_move rfl) ?_
          refine go_p rfl rfl rfl (o_move rfl) ?_
          obtain ⟨x19, hx29, hj3⟩ := bind_some hj3
          refine go_p rfl rfl rfl (o_indexAddr_arr 0 Try.runUnderlying46 Try.sizeOf3 rfl rfl rfl hx29) ?_
          refine go_p rfl rfl rfl (o_load_arr (off := 0) 0 Try.isAgg3 rfl rfl (idx_some hx29).2 rfl rfl rfl) ?_
          refine go_p rfl rfl rfl (o_cmp rfl rfl rfl) ?_
          refine go_nil ?_
          refine g_cond rfl (fun hc8 => ?_) (fun hc8 => ?_)
          · replace hj3 := cond_t hc8 hj3
            refine g_seq ?_
            refine g_region ?_
            refine go_p rfl rfl rfl (o_assign rfl) ?_
            refine go_nil ?_
            refine g_ret ?_
            obtain rfl := some_eq hj3
            replace hm3 := on_ret hm3
            exact retK (ret_one' rfl (ret_tmp rfl) (perm_drop _)) (congrArg (fun (p : Int) => (.i64 p : D)) (some_eq hm3))
          · replace hj3 := cond_f hc8 hj3
            refine g_skip ?_
            refine g_region ?_
            refine go_p rfl rfl rfl (o_move rfl) ?_
            obtain ⟨hg30, hj3⟩ := grd_some hj3
            refine go_p rfl rfl rfl (o_add rfl rfl (i64_id hg30)) ?_
            refine go_p rfl rfl rfl (o_assign rfl) ?_
            refine go_nil ?_
            exact ⟨_, (), hj3, ⟨rfl, trivial⟩, ⟨rfl, rfl, rfl, trivial⟩, [], rfl⟩
        · replace hj3 := cond_f hc7 hj3
          refine g_exit ?_
          exact ⟨_, (), some_eq hj3, trivial, ⟨rfl, rfl, trivial⟩, [], rfl⟩
      · rintro _ _ hst
        subst hst
        replace hm3 := on_go hm3
        refine k_norm (L' := [(1, _), (4, _)]) (ms' := [_, _]) rfl rfl ?_
        refine g_seq ?_
        refine g_seq ?_
        refine g_region ?_
        refine go_p rfl rfl rfl (o_move rfl) ?_
        refine go_p rfl rfl rfl (o_fieldAddr fi_37_0 rfl rfl rfl) ?_
        refine go_p rfl rfl rfl (o_load Try.isAgg35 rfl rfl) ?_
        refine go_p rfl rfl rfl (o_len Try.runUnderlying35 rfl) ?_
        obtain ⟨hg31, hm3⟩ := grd_some hm3
        refine go_p rfl rfl rfl (o_sub rfl rfl (i64_id hg31)) ?_
        obtain ⟨x20, hx32, hm3⟩ := bind_some hm3
        refine go_p rfl rfl rfl (o_indexAddr_arr 1 Try.runUnderlying46 Try.sizeOf3 rfl rfl rfl hx32) ?_
        refine go_p rfl rfl rfl (o_load_arr (off := 0) 1 Try.isAgg3 rfl rfl (idx_some hx32).2 rfl rfl rfl) ?_
        refine go_p rfl rfl rfl (o_cmp rfl rfl rfl) ?_
        refine go_nil ?_
        refine g_cond rfl (fun hc9 => ?_) (fun hc9 => ?_)
        · replace hm3 := cond_t hc9 hm3
          refine g_seq ?_
          refine g_region ?_
          refine go_p rfl rfl rfl (o_assign rfl) ?_
          refine go_nil ?_
          refine g_ret ?_
          exact retK (ret_one' rfl (ret_tmp rfl) (perm_drop _)) (congrArg (fun (p : Int) => (.i64 p : D)) (some_eq hm3))
        · replace hm3 := cond_f hc9 hm3
          refine g_skip ?_
          refine g_seq ?_
          refine g_region ?_
          refine go_p rfl rfl rfl (o_assign rfl) ?_
          refine go_nil ?_
          refine g_ret ?_
          exact retK (ret_one' rfl (ret_tmp rfl) (perm_drop _)) (congrArg (fun (p : Int) => (.i64 p : D)) (some_eq hm3))
def m_tree_with_l1 (kids1 : (List Int)) (x1 : TreeShape) (z8 : (List ApiField)) : Nat → (Int × (List ApiField) × Int × Int × Int × Int × Int × (List UInt8) × (List UInt8) × Int) → Option ((List ApiField) × Int × Int × Int × Int × Int × (List UInt8) × (List UInt8) × Int)
  | 0, _ => none
  | n + 1, (x2, l3, z18, z19, z20, z21, z22, z23, z24, z25) =>
    bif (decide (x2 < (z8.length : Int))) then
      grd (InR (x1.kids + x2)) <|
      bif (decide ((x1.kids + x2) < (kids1.length : Int))) then
        (idx kids1 (x1.kids + x2)).bind fun x3 =>
        (idx l3 x2).bind fun x4 =>
        grd (InR (x2 + 1)) <|
        m_tree_with_l1 kids1 x1 z8 n ((x2 + 1), (l3.set (x2).toNat (⟨x4.name, x4.var, x3⟩ : ApiField)), z18, z19, z20, z21, z22, z23, z24, z25)
      else
        grd (InR (x2 + 1)) <|
        m_tree_with_l1 kids1 x1 z8 n ((x2 + 1), l3, z18, z19, z20, z21, z22, z23, z24, z25)
    else
      some (l3, z18, z19, z20, z21, z22, z23, z24, z25)
def m_tree_with (n1 : ApiNode) (kids1 : (List Int)) : Option ApiNode :=
  (m_tree_shapeOf n1.kind).bind fun x1 =>
  (sli kids1 0 (if (kids1.length : Int) < x1.kids then (kids1.length : Int) else x1.kids)).bind fun l1 =>
  (bif (!x1.parts) then
    some (n1.kind, ((l1[0]?).getD 0), ((l1[1]?).getD 0), ((l1[2]?).getD 0), n1.n_, n1.name, n1.s, ([] : List ApiField), n1.pos)
  else
    some (n1.kind, ((l1[0]?).getD 0), ((l1[1]?).getD 0), ((l1[2]?).getD 0), n1.n_, n1.name, n1.s, n1.l, n1.pos) : Option (Int × Int × Int × Int × Int × (List UInt8) × (List UInt8) × (List ApiField) × Int)).bind fun (z1, z2, z3, z4, z5, z6, z7, z8, z9) =>
  grd (z8.length * 40 ≤ 140737488355328) <|
  (m_tree_with_l1 kids1 x1 z8 FU (0, z8, z1, z2, z3, z4, z5, z6, z7, z9) : Option ((List ApiField) × Int × Int × Int × Int × Int × (List UInt8) × (List UInt8) × Int)).bind fun (l2, z10, z11, z12, z13, z14, z15, z16, z17) =>
  some (⟨z10, z11, z12, z13, z14, z15, z16, l2, z17⟩ : ApiNode)
theorem w_tree_with {n1 : ApiNode} {kids1 : (List Int)} {r_1 : ApiNode} (hm : m_tree_with n1 kids1 = some r_1) : Fn0 Try.prog 78 [ApiNode.d n1, .list 1 D.i64 kids1] (ApiNode.d r_1) := by
  unfold m_tree_with at hm
  refine fn_intro Try.func78 rfl Try.ntmps78 rfl fun H0 fr w0 => ?_
  refine g_seq ?_
  refine g_region ?_
  refine go_op rfl rfl rfl (o_box_own rfl rfl rfl) ?_
  rintro _ _ ⟨b1, rfl, rfl⟩
  refine go_op rfl rfl rfl (o_alloc_own Try.zeroValue40 (cs := [.i64 0, .i64 0, .i64 0, .i64 0, .i64 0, .str ([] : List UInt8), .str ([] : List UInt8), .list 3 ApiField.d [], .i64 0]) rfl) ?_
  rintro _ _ ⟨b2, rfl, rfl⟩
  refine go_nil ?_
  refine g_seq ?_
  refine g_region ?_
  refine go_p rfl rfl rfl (o_fieldAddr_box fi_40_0 rfl) ?_
  refine go_p rfl rfl rfl (o_load_box 1 Try.isAgg3 rfl rfl rfl rfl) ?_
  obtain ⟨x1, hx1, hm⟩ := bind_some hm
  refine go_p rfl rfl rfl (o_call0 Try.call74 rfl (w_tree_shapeOf hx1)) ?_
  refine go_op rfl rfl rfl (o_alloc_own Try.zeroValue98 (cs := [.i64 0, .bool false]) rfl) ?_
  rintro _ _ ⟨b3, rfl, rfl⟩
  refine go_u rfl rfl (o_store_box 0 Try.sizeOf98 rfl rfl rfl rfl rfl rfl rfl rfl (Nat.le_of_ble_eq_true rfl)) ?_
  rintro _ _ rfl
  refine go_ms (ms' := [box b3 98 [_, _], box b2 40 [_, _, _, _, _, _, _, _, _], box b1 40 [_, _, _, _, _, _, _, _, _]]) rfl ?_
  refine go_nil ?_
  refine g_seq ?_
  refine g_region ?_
  refine go_p rfl rfl rfl (o_build_zero (cs := [.i64 0, .i64 0, .i64 0]) (vs := [.int .i64 0, .int .i64 0, .int .i64 0]) Try.runUnderlying125 Try.sizeOf3 Try.zeroValue125 (fun H => by simp [EncL, Enc])) ?_
  refine go_op rfl rfl rfl (o_alloc_own Try.zeroValue125 (cs := [.i64 0, .i64 0, .i64 0]) rfl) ?_
  rintro _ _ ⟨b4, rfl, rfl⟩
  refine go_u rfl rfl (o_store_box 0 Try.sizeOf125 rfl rfl rfl rfl rfl rfl rfl rfl (Nat.le_of_ble_eq_true rfl)) ?_
  rintro _ _ rfl
  refine go_ms (ms' := [box b4 125 [_, _, _], box b3 98 [_, _], box b2 40 [_, _, _, _, _, _, _, _, _], box b1 40 [_, _, _, _, _, _, _, _, _]]) rfl ?_
  refine go_nil ?_
  refine g_seq ?_
  obtain ⟨l1, hx2, hm⟩ := bind_some hm
  refine g_draw 8 Try_mixed (by decide +kernel) ?_
  refine gd_p rfl rfl rfl (o_slice_box Try.runUnderlying125 Try.sizeOf3 rfl) ?_
  refine gd_p rfl rfl rfl (o_move rfl) ?_
  refine gd_p rfl rfl rfl (o_fieldAddr_box fi_98_0 rfl) ?_
  refine gd_p rfl rfl rfl (o_load_box 1 Try.isAgg3 rfl rfl rfl rfl) ?_
  refine gd_p rfl rfl rfl (o_move rfl) ?_
  refine gd_p rfl rfl rfl (o_len Try.runUnderlying46 rfl) ?_
  refine gd_p rfl rfl rfl (o_min rfl rfl) ?_
  refine gd_p rfl rfl rfl (o_slice_m Try.runUnderlying46 Try.sizeOf3 rfl rfl ⟨_, rfl⟩ hx2) ?_
  refine gd_nil ?_
  refine go_op rfl rfl rfl (o_copy_box 0 Try.runUnderlying46 Try.sizeOf3 rfl rfl rfl rfl rfl (fun _ => rfl) (fun _ => rfl) (fun _ => rfl) (copy3 _ _ _ _)) ?_
  rintro _ _ ⟨rfl, rfl⟩
  refine go_ms (ms' := [box b4 125 [_, _, _], box b3 98 [_, _], box b2 40 [_, _, _, _, _, _, _, _, _], box b1 40 [_, _, _, _, _, _, _, _, _]]) rfl ?_
  refine go_nil ?_
  refine g_seq ?_
  refine g_draw_c [7, 9, 11] [2, 3, 4, 5, 8, 10] [3, 5] Try_mixed (by decide +kernel) (by decide +kernel) rfl ?_
  refine gde_p rfl rfl rfl rfl rfl rfl (o_indexAddr_box Try.runUnderlying125 Try.sizeOf3 rfl rfl (by decide) (by decide) (by decide)) ?_
  refine gde_p rfl rfl rfl rfl rfl rfl (o_load_box 0 Try.isAgg3 rfl rfl rfl rfl) ?_
  refine gde_p rfl rfl rfl rfl rfl rfl (o_indexAddr_box Try.runUnderlying125 Try.sizeOf3 rfl rfl (by decide) (by decide) (by decide)) ?_
  refine gde_f rfl rfl rfl rfl rfl (o_load_box 0 Try.isAgg3 rfl rfl rfl rfl) ?_
  refine gde_p rfl rfl rfl rfl rfl rfl (o_indexAddr_box Try.runUnderlying125 Try.sizeOf3 rfl rfl (by decide) (by decide) (by decide)) ?_
  refine gde_f rfl rfl rfl rfl rfl (o_load_box 0 Try.isAgg3 rfl rfl rfl rfl) ?_
  refine gde_p rfl rfl rfl rfl rfl rfl (o_fieldAddr_box fi_40_1 rfl) ?_
  refine gde_e rfl ?_
  refine gde_p rfl rfl rfl rfl rfl rfl (o_fieldAddr_box fi_40_2 rfl) ?_
  refine gde_e rfl ?_
  refine gde_p rfl rfl rfl rfl rfl rfl (o_fieldAddr_box fi_40_3 rfl) ?_
  refine gde_e rfl ?_
  refine gde_nil ?_
  refine gde2_u rfl rfl rfl (o_store_box 3 Try.sizeOf3 rfl rfl rfl rfl rfl rfl rfl rfl (Nat.le_of_ble_eq_true rfl)) ?_
  rintro _ _ rfl
  refine ⟨⟨⟨trivial, o_load_box 0 Try.isAgg3 rfl rfl rfl rfl⟩, o_load_box 0 Try.isAgg3 rfl rfl rfl rfl⟩, ?_⟩
  refine gde2_u rfl rfl rfl (o_store_box 3 Try.sizeOf3 rfl rfl rfl rfl rfl rfl rfl rfl (Nat.le_of_ble_eq_true rfl)) ?_
  rintro _ _ rfl
  refine ⟨⟨⟨trivial, o_load_box 0 Try.isAgg3 rfl rfl rfl rfl⟩, o_load_box 0 Try.isAgg3 rfl rfl rfl rfl⟩, ?_⟩
  refine gde2_u rfl rfl rfl (o_store_box 3 Try.sizeOf3 rfl rfl rfl rfl rfl rfl rfl rfl (Nat.le_of_ble_eq_true rfl)) ?_
  rintro _ _ rfl
  refine ⟨⟨⟨trivial, o_load_box 0 Try.isAgg3 rfl rfl rfl rfl⟩, o_load_box 0 Try.isAgg3 rfl rfl rfl rfl⟩, ?_⟩
  refine gde2_nil ?_
  refine g_seq ?_
  refine g_seq ?_
  refine g_region ?_
  refine go_p rfl rfl rfl (o_fieldAddr_box fi_98_1 rfl) ?_
  refine go_p rfl rfl rfl (o_load_box 1 Try.isAgg4 rfl rfl rfl rfl) ?_
  refine go_p rfl rfl rfl (o_not rfl) ?_
  refine go_nil ?_
  obtain ⟨o_1, hj1, hm1⟩ := bind_some hm
  refine g_cut_m [(1, _), (2, _), (4, _), (5, _)] [(0, _), (1, _), (2, _)] (fun (st : (Int × Int × Int × Int × Int × (List UInt8) × (List UInt8) × (List ApiField) × Int)) (hid : Unit) => match st, hid with | (z1, z2, z3, z4, z5, z6, z7, z8, z9), _ => []) (fun F (st : (Int × Int × Int × Int × Int × (List UInt8) × (List UInt8) × (List ApiField) × Int)) (hid : Unit) => match st, hid with | (z1, z2, z3, z4, z5, z6, z7, z8, z9), _ => [(nthF F 0), (nthF F 1), (nthF F 2), box b1 40 [.i64 z1, .i64 z2, .i64 z3, .i64 z4, .i64 z5, .str z6, .str z7, .list 3 ApiField.d z8, .i64 z9]]) (fun st => st = o_1) ⟨rfl, rfl, rfl, rfl, trivial⟩ ⟨rfl, rfl, rfl, trivial⟩ ?_ ?_
  · skip
    refine g_cond rfl (fun hc1 => ?_) (fun hc1 => ?_)
    · replace hj1 := cond_t hc1 hj1
      refine g_region ?_
      refine go_p rfl rfl rfl (o_fieldAddr_box fi_40_7 rfl) ?_
      refine go_u rfl rfl (o_store_box 3 Try.sizeOf38 rfl rfl rfl rfl rfl rfl rfl rfl (Nat.le_of_ble_eq_true rfl)) ?_
      rintro _ _ rfl
      refine go_conv (refines_cell 3 7 rfl rfl (nil_enc (sz := 3) (f := ApiField.d)) rfl rfl) ?_
      refine go_ms (ms' := [box b4 125 [_, _, _], box b3 98 [_, _], box b2 40 [_, _, _, _, _, _, _, _, _], box b1 40 [_, _, _, _, _, _, _, _, _]]) rfl ?_
      refine go_nil ?_
      exact ⟨_, (), some_eq hj1, trivial, ⟨rfl, rfl, rfl, rfl, trivial⟩, [], rfl⟩
    · replace hj1 := cond_f hc1 hj1
      refine g_skip ?_
      exact ⟨_, (), some_eq hj1, trivial, ⟨rfl, rfl, rfl, rfl, trivial⟩, [], rfl⟩
  · rintro ⟨z1, z2, z3, z4, z5, z6, z7, z8, z9⟩ _ hst
    subst hst
    refine k_norm (L' := [(1, _), (2, _), (4, _), (5, _)]) (ms' := [_, _, _, box b1 40 [.i64 z1, .i64 z2, .i64 z3, .i64 z4, .i64 z5, .str z6, .str z7, .list 3 ApiField.d z8, .i64 z9]]) rfl rfl ?_
    refine g_seq ?_
    refine g_region ?_
    refine go_p rfl rfl rfl (o_fieldAddr_box fi_40_7 rfl) ?_
    refine go_p rfl rfl rfl (o_load_box 3 Try.isAgg38 rfl rfl rfl rfl) ?_
    obtain ⟨hg3, hm1⟩ := grd_some hm1
    refine go_op rfl rfl rfl (o_call (ms₁ := []) Try.call115 rfl (List.Perm.refl _) (w_Clone_115 hg3)) ?_
    rintro _ _ ⟨_, ⟨a_r1, cap_r1, rfl, rfl⟩, rfl⟩
    generalize hm_r1 : z8.length = m_r1
    clear hm_r1
    refine go_p rfl rfl rfl (o_fieldAddr_box fi_40_7 rfl) ?_
    refine go_u rfl rfl (o_store_box 4 Try.sizeOf38 rfl rfl rfl rfl rfl rfl rfl rfl (Nat.le_of_ble_eq_true rfl)) ?_
    rintro _ _ rfl
    refine go_ms (ms' := [_, box b4 125 [_, _, _], box b3 98 [_, _], box b2 40 [_, _, _, _, _, _, _, _, _], box b1 40 [_, _, _, _, _, _, _, _, _]]) rfl ?_
    refine go_nil ?_
    refine g_seq ?_
    refine g_seq ?_
    refine g_region ?_
    refine go_p rfl rfl rfl (o_fieldAddr_box fi_40_7 rfl) ?_
    refine go_p rfl rfl rfl (o_load_box 4 Try.isAgg38 rfl rfl rfl rfl) ?_
    refine go_p rfl rfl rfl (o_len_arr 0 Try.runUnderlying38 rfl rfl) ?_
    refine go_p rfl rfl rfl (o_move rfl) ?_
    refine go_nil ?_
    obtain ⟨o_2, hj2, hm2⟩ := bind_some hm1
    refine g_cut_m [(2, _), (4, _)] [(1, _), (2, _), (3, _)] (fun (st : ((List ApiField) × Int × Int × Int × Int × Int × (List UInt8) × (List UInt8) × Int)) (hid : Unit) => match st, hid with | (l2, z10, z11, z12, z13, z14, z15, z16, z17), _ => []) (fun F (st : ((List ApiField) × Int × Int × Int × Int × Int × (List UInt8) × (List UInt8) × Int)) (hid : Unit) => match st, hid with | (l2, z10, z11, z12, z13, z14, z15, z16, z17), _ => [arr a_r1 m_r1 cap_r1 102 3 ApiField.d l2, (nthF F 0), (nthF F 1), (nthF F 2), box b1 40 [.i64 z10, .i64 z11, .i64 z12, .i64 z13, .i64 z14, .str z15, .str z16, .v (.slice a_r1 m_r1 cap_r1), .i64 z17]]) (fun st => st = o_2) ⟨rfl, rfl, trivial⟩ ⟨rfl, rfl, rfl, trivial⟩ ?_ ?_
    · skip
      refine g_block ?_
      refine g_loop_m [(1, _), (2, _), (4, _), (5, _), (41, _)] [(1, _), (2, _), (3, _)] (fun (st : (Int × (List ApiField) × Int × Int × Int × Int × Int × (List UInt8) × (List UInt8) × Int)) (hid : Unit) => match st, hid with | (x2, l3, z18, z19, z20, z21, z22, z23, z24, z25), _ => [(42, .i64 x2)]) (fun F (st : (Int × (List ApiField) × Int × Int × Int × Int × Int × (List UInt8) × (List UInt8) × Int)) (hid : Unit) => match st, hid with | (x2, l3, z18, z19, z20, z21, z22, z23, z24, z25), _ => [arr a_r1 m_r1 cap_r1 102 3 ApiField.d l3, (nthF F 0), (nthF F 1), (nthF F 2), box b1 40 [.i64 z18, .i64 z19, .i64 z20, .i64 z21, .i64 z22, .str z23, .str z24, .v (.slice a_r1 m_r1 cap_r1), .i64 z25]]) () hj2 (fun _ => rfl) ⟨rfl, rfl, rfl, rfl, rfl, trivial⟩ ⟨rfl, rfl, rfl, trivial⟩ ⟨rfl, trivial⟩ rfl ?_
      rintro n ⟨x2, l3, z18, z19, z20, z21, z22, z23, z24, z25⟩ ⟨⟩ hj2
      rw [m_tree_with_l1] at hj2
      refine g_norm (L' := [(42, .i64 x2), (1, _), (2, _), (4, _), (5, _), (41, _)]) (ms' := [arr a_r1 m_r1 cap_r1 102 3 ApiField.d l3, _, _, _, box b1 40 [.i64 z18, .i64 z19, .i64 z20, .i64 z21, .i64 z22, .str z23, .str z24, .v (.slice a_r1 m_r1 cap_r1), .i64 z25]]) rfl rfl ?_
      refine g_seq ?_
      refine g_region ?_
      refine go_p rfl rfl rfl (o_cmp rfl rfl rfl) ?_
      refine go_nil ?_
      refine g_seq ?_
      refine g_cond rfl (fun hc2 => ?_) (fun hc2 => ?_)
      · replace hj2 := cond_t hc2 hj2
        refine g_skip ?_
        refine g_seq ?_
        refine g_block ?_
        refine g_seq ?_
        refine g_region ?_
        refine go_p rfl rfl rfl (o_move rfl) ?_
        refine go_p rfl rfl rfl (o_assign rfl) ?_
        refine go_nil ?_
        refine g_seq ?_
        refine g_region ?_
        refine go_p rfl rfl rfl (o_fieldAddr_box fi_98_0 rfl) ?_
        refine go_p rfl rfl rfl (o_load_box 2 Try.isAgg3 rfl rfl rfl rfl) ?_
        refine go_p rfl rfl rfl (o_move rfl) ?_
        obtain ⟨hg4, hj2⟩ := grd_some hj2
        refine go_p rfl rfl rfl (o_add rfl rfl (i64_id hg4)) ?_
        refine go_p rfl rfl rfl (o_assign rfl) ?_
        refine go_nil ?_
        refine g_seq ?_
        refine g_region ?_
        refine go_p rfl rfl rfl (o_move rfl) ?_
        refine go_p rfl rfl rfl (o_move rfl) ?_
        refine go_p rfl rfl rfl (o_len Try.runUnderlying46 rfl) ?_
        refine go_p rfl rfl rfl (o_cmp rfl rfl rfl) ?_
        refine go_nil ?_
        refine g_cond rfl (fun hc3 => ?_) (fun hc3 => ?_)
        · replace hj2 := cond_t hc3 hj2
          obtain ⟨x3, hx5, hj2⟩ := bind_some hj2
          obtain ⟨x4, hx6, hj2⟩ := bind_some hj2
          refine g_draw 9 Try_mixed (by decide +kernel) ?_
          refine gd_p rfl rfl rfl (o_fieldAddr_box fi_40_7 rfl) ?_
          refine gd_p rfl rfl rfl (o_load_box 4 Try.isAgg38 rfl rfl rfl rfl) ?_
          refine gd_p rfl rfl rfl (o_move rfl) ?_
          refine gd_p rfl rfl rfl (o_move rfl) ?_
          refine gd_p rfl rfl rfl (o_move rfl) ?_
          refine gd_p rfl rfl rfl (o_indexAddr_m Try.runUnderlying46 Try.sizeOf3 rfl rfl hx5) ?_
          refine gd_p rfl rfl rfl (o_load Try.isAgg3 rfl rfl) ?_
          refine gd_p rfl rfl rfl (o_indexAddr_arr 0 Try.runUnderlying38 Try.sizeOf102 rfl rfl rfl hx6) ?_
          refine gd_p rfl rfl rfl (o_fieldAddr_apt (b := 0) 0 fi_102_2 rfl rfl (idx_some hx6).2) ?_
          refine gd_nil ?_
          refine go_u rfl rfl (o_store_arr (off := 2) (z' := (⟨x4.name, x4.var, x3⟩ : ApiField)) 0 Try.sizeOf3 rfl rfl (idx_some hx6).2 rfl rfl rfl rfl rfl rfl (Nat.le_of_ble_eq_true rfl) rfl rfl) ?_
          rintro _ _ rfl
          refine go_ms (ms' := [_, box b4 125 [_, _, _], box b3 98 [_, _], box b2 40 [_, _, _, _, _, _, _, _, _], box b1 40 [_, _, _, _, _, _, _, _, _]]) rfl ?_
          refine go_nil ?_
          refine g_region ?_
          obtain ⟨hg7, hj2⟩ := grd_some hj2
          refine go_p rfl rfl rfl (o_add rfl rfl (i64_id hg7)) ?_
          refine go_p rfl rfl rfl (o_move rfl) ?_
          refine go_nil ?_
          exact ⟨_, (), hj2, ⟨rfl, trivial⟩, ⟨rfl, rfl, rfl, rfl, rfl, trivial⟩, [], rfl⟩
        · replace hj2 := cond_f hc3 hj2
          refine g_skip ?_
          refine g_region ?_
          obtain ⟨hg8, hj2⟩ := grd_some hj2
          refine go_p rfl rfl rfl (o_add rfl rfl (i64_id hg8)) ?_
          refine go_p rfl rfl rfl (o_move rfl) ?_
          refine go_nil ?_
          exact ⟨_, (), hj2, ⟨rfl, trivial⟩, ⟨rfl, rfl, rfl, rfl, rfl, trivial⟩, [], rfl⟩
      · replace hj2 := cond_f hc2 hj2
        refine g_exit ?_
        exact ⟨_, (), some_eq hj2, trivial, ⟨rfl, rfl, trivial⟩, [], rfl⟩
    · rintro ⟨l2, z10, z11, z12, z13, z14, z15, z16, z17⟩ ⟨⟩ hst
      subst hst
      refine k_norm (L' := [(2, _), (4, _)]) (ms' := [arr a_r1 m_r1 cap_r1 102 3 ApiField.d l2, _, _, _, box b1 40 [.i64 z10, .i64 z11, .i64 z12, .i64 z13, .i64 z14, .str z15, .str z16, .v (.slice a_r1 m_r1 cap_r1), .i64 z17]]) rfl rfl ?_
      refine g_seq ?_
      refine g_region ?_
      refine go_thaw 0 rfl rfl ?_
      rintro rfl
      refine go_p rfl rfl rfl (o_load_box_agg 4 Try.isAgg40 Try.sizeOf40 rfl rfl rfl rfl (Nat.le_of_ble_eq_true rfl)) ?_
      refine go_conv (peekAggE (i := 63) (q := 7) 0 rfl rfl rfl rfl rfl).refines ?_
      refine go_u rfl rfl (o_store_box 3 Try.sizeOf40 rfl rfl rfl rfl rfl rfl rfl rfl (Nat.le_of_ble_eq_true rfl)) ?_
      rintro _ _ rfl
      refine go_ms (ms' := [_, box b4 125 [_, _, _], box b3 98 [_, _], box b2 40 [_, _, _, _, _, _, _, _, _], box b1 40 [_, _, _, _, _, _, _, _, _]]) rfl ?_
      refine go_nil ?_
      refine g_ret ?_
      exact retK (ret_one' rfl (ret_cell 3 rfl rfl rfl Try.isAgg40 Try.sizeOf40 rfl) (perm_drop _)) (congrArg (fun (p : ApiNode) => (ApiNode.d p : D)) (some_eq hm2))
def m_tree_sub_l2 (mm2 : (List (Int × Int))) (x3 : (List Int)) : Nat → (Int × (List Int)) → Option (List Int)
  | 0, _ => none
  | n + 1, (x4, l4) =>
    bif (decide (x4 < (x3.length : Int))) then
      (idx x3 x4).bind fun x5 =>
      grd ((l4.length + ([((mget mm2 x5).getD (0 : Int))] : List _).length) * 8 ≤ 140737488355328) <|
      grd (InR (x4 + 1)) <|
      m_tree_sub_l2 mm2 x3 n ((x4 + 1), (l4 ++ [((mget mm2 x5).getD (0 : Int))]))
    else
      some l4
def m_tree_sub_r1 (e1 : ApiExpr) : List Int → ((List (Int × Int)) × (List ApiNode)) → Option ((List (Int × Int)) × (List ApiNode))
  | [], (mm2, l2) =>
    some (mm2, l2)
  | x1 :: rr, (mm2, l2) =>
    (idx e1.l x1).bind fun x2 =>
    (m_tree_Kids x2).bind fun x3 =>
    (m_tree_sub_l2 mm2 x3 FU (0, []) : Option (List Int)).bind fun l3 =>
    (idx e1.l x1).bind fun x6 =>
    (m_tree_with x6 l3).bind fun x7 =>
    grd ((l2.length + ([x7] : List _).length) * 104 ≤ 140737488355328) <|
    m_tree_sub_r1 e1 rr ((mset mm2 x1 (l2.length : Int)), (l2 ++ [x7]))
def m_tree_sub (e1 : ApiExpr) (root1 : Int) : Option ApiExpr :=
  ((m_below e1 root1).bind fun xs1 =>
  m_tree_sub_r1 e1 xs1 (([] : List (Int × Int)), []) : Option ((List (Int × Int)) × (List ApiNode))).bind fun (mm1, l1) =>
  some (⟨l1⟩ : ApiExpr)
theorem w_tree_sub {e1 : ApiExpr} {root1 : Int} {r_1 : ApiExpr} (hm : m_tree_sub e1 root1 = some r_1) : Fn0 Try.prog 80 [ApiExpr.d e1, .i64 root1] (ApiExpr.d r_1) := by
  unfold m_tree_sub at hm
  refine fn_intro Try.func80 rfl Try.ntmps80 rfl fun H0 fr w0 => ?_
  refine g_seq ?_
  refine g_region ?_
  refine go_p rfl rfl rfl (o_box rfl rfl) ?_
  refine go_op rfl rfl rfl (o_alloc_own Try.zeroValue37 (cs := [.list 9 ApiNode.d []]) rfl) ?_
  rintro _ _ ⟨b1, rfl, rfl⟩
  refine go_nil ?_
  refine g_seq ?_
  refine g_region ?_
  refine go_op rfl rfl rfl (o_alloc_own Try.zeroValue37 (cs := [.v (.slice none 0 0)]) rfl) ?_
  rintro _ _ ⟨b2, rfl, rfl⟩
  refine go_conv (refines_newrow (T := 40) (sz := 9) (f := ApiNode.d)) ?_
  refine go_nil ?_
  refine g_seq ?_
  refine g_region ?_
  refine go_op rfl rfl rfl (o_makeMap (fk := kI64) (fv := D.i64)) ?_
  rintro _ _ ⟨b3, rfl, rfl⟩
  refine go_op rfl rfl rfl (o_alloc_own Try.zeroValue127 (cs := [.v (.map none)]) rfl) ?_
  rintro _ _ ⟨b4, rfl, rfl⟩
  refine go_u rfl rfl (o_store_box 0 Try.sizeOf127 rfl rfl rfl rfl rfl rfl rfl rfl (Nat.le_of_ble_eq_true rfl)) ?_
  rintro _ _ rfl
  refine go_ms (ms' := [box b4 127 [_], _, _, box b2 37 [_], box b1 37 [_]]) rfl ?_
  refine go_nil ?_
  refine g_seq ?_
  refine g_seq ?_
  refine g_region ?_
  refine go_p rfl rfl rfl (o_load_agg Try.isAgg37 Try.sizeOf37 rfl rfl) ?_
  refine go_p rfl rfl rfl (o_move rfl) ?_
  refine go_p rfl rfl rfl (o_call0 Try.call116 rfl w_below) ?_
  refine go_nil ?_
  obtain ⟨o_1, hj1, hm1⟩ := bind_some hm
  refine g_cut_m [(4, _), (5, _)] [(0, _), (4, _)] (fun (st : ((List (Int × Int)) × (List ApiNode))) (hid : (Option Addr × Nat)) => match st, hid with | (mm1, l1), (a_r1, cap_r1) => []) (fun F (st : ((List (Int × Int)) × (List ApiNode))) (hid : (Option Addr × Nat)) => match st, hid with | (mm1, l1), (a_r1, cap_r1) => [(nthF F 0), mp b3 kI64 D.i64 mm1, row a_r1 cap_r1 40 9 ApiNode.d l1, box b2 37 [.v (.slice a_r1 l1.length cap_r1)], (nthF F 1)]) (fun st => st = o_1) ⟨rfl, rfl, trivial⟩ ⟨rfl, rfl, trivial⟩ ?_ ?_
  · skip
    refine g_block ?_
    obtain ⟨xs1, hx1, hj1⟩ := bind_some hj1
    refine g_range_m (fun (p : Int) => [.i64 p]) [(0, _), (4, _)] (fun F (st : ((List (Int × Int)) × (List ApiNode))) (hid : (Option Addr × Nat)) => match st, hid with | (mm2, l2), (a_r1, cap_r1) => [(nthF F 0), mp b3 kI64 D.i64 mm2, row a_r1 cap_r1 40 9 ApiNode.d l2, box b2 37 [.v (.slice a_r1 l2.length cap_r1)], (nthF F 1)]) (_, _) hj1 ⟨rfl, rfl, trivial⟩ rfl rfl Try.call147 (it_below hx1) (fun _ => rfl) rfl ?_ ?_
    · rintro H0r frr ror w0r hrr x1 rr ⟨mm2, l2⟩ ⟨a_r1, cap_r1⟩ hj1
      rw [m_tree_sub_r1] at hj1
      refine g_norm (ms' := [_, mp b3 kI64 D.i64 mm2, row a_r1 cap_r1 40 9 ApiNode.d l2, box b2 37 [.v (.slice a_r1 l2.length cap_r1)], _]) rfl rfl ?_
      refine g_region ?_
      refine go_p rfl rfl rfl (o_assign rfl) ?_
      refine go_nil ?_
      intro H0r frr ror w0r hrr
      refine g_block ?_
      refine g_seq ?_
      refine g_region ?_
      refine go_p rfl rfl rfl (o_assign rfl) ?_
      refine go_conv (refines_newrow (T := 3) (sz := 1) (f := D.i64)) ?_
      refine go_nil ?_
      refine g_seq ?_
      refine g_seq ?_
      refine g_region ?_
      refine go_p rfl rfl rfl (o_fieldAddr fi_37_0 rfl rfl rfl) ?_
      refine go_p rfl rfl rfl (o_load Try.isAgg35 rfl rfl) ?_
      refine go_p rfl rfl rfl (o_move rfl) ?_
      obtain ⟨x2, hx2, hj1⟩ := bind_some hj1
      refine go_p rfl rfl rfl (o_indexAddr_m Try.runUnderlying35 Try.sizeOf40 rfl rfl hx2) ?_
      refine go_p rfl rfl rfl (o_load_agg Try.isAgg40 Try.sizeOf40 rfl rfl) ?_
      obtain ⟨x3, hx3, hj1⟩ := bind_some hj1
      refine go_p rfl rfl rfl (o_call0 Try.call31 rfl (w_tree_Kids hx3)) ?_
      refine go_p rfl rfl rfl (o_len Try.runUnderlying46 rfl) ?_
      refine go_p rfl rfl rfl (o_move rfl) ?_
      refine go_nil ?_
      obtain ⟨o_2, hj2, hm2⟩ := bind_some hj1
      refine g_cut_m [(2, _), (4, _), (5, _), (6, _), (7, _)] [(1, _), (2, _), (3, _), (4, _), (5, _)] (fun (st : (List Int)) (hid : (Option Addr × Nat)) => match st, hid with | l3, (a_r2, cap_r2) => [(8, .v (.slice a_r2 l3.length cap_r2))]) (fun F (st : (List Int)) (hid : (Option Addr × Nat)) => match st, hid with | l3, (a_r2, cap_r2) => [row a_r2 cap_r2 3 1 D.i64 l3, (nthF F 0), (nthF F 1), (nthF F 2), (nthF F 3), (nthF F 4)]) (fun st => st = o_2) ⟨rfl, rfl, rfl, rfl, rfl, trivial⟩ ⟨rfl, rfl, rfl, rfl, rfl, trivial⟩ ?_ ?_
      · skip
        refine g_block ?_
        refine g_loop_m [(2, _), (4, _), (5, _), (6, _), (7, _), (21, _), (22, _)] [(1, _), (2, _), (3, _), (4, _), (5, _)] (fun (st : (Int × (List Int))) (hid : (Option Addr × Nat)) => match st, hid with | (x4, l4), (a_r2, cap_r2) => [(8, .v (.slice a_r2 l4.length cap_r2)), (23, .i64 x4)]) (fun F (st : (Int × (List Int))) (hid : (Option Addr × Nat)) => match st, hid with | (x4, l4), (a_r2, cap_r2) => [row a_r2 cap_r2 3 1 D.i64 l4, (nthF F 0), (nthF F 1), (nthF F 2), (nthF F 3), (nthF F 4)]) (_, _) hj2 (fun _ => rfl) ⟨rfl, rfl, rfl, rfl, rfl, rfl, rfl, trivial⟩ ⟨rfl, rfl, rfl, rfl, rfl, trivial⟩ ⟨rfl, rfl, trivial⟩ rfl ?_
        rintro n ⟨x4, l4⟩ ⟨a_r2, cap_r2⟩ hj2
        rw [m_tree_sub_l2] at hj2
        refine g_norm (L' := [(8, .v (.slice a_r2 l4.length cap_r2)), (23, .i64 x4), (2, _), (4, _), (5, _), (6, _), (7, _), (21, _), (22, _)]) (ms' := [row a_r2 cap_r2 3 1 D.i64 l4, _, _, _, _, _]) rfl rfl ?_
        refine g_seq ?_
        refine g_region ?_
        refine go_p rfl rfl rfl (o_cmp rfl rfl rfl) ?_
        refine go_nil ?_
        refine g_seq ?_
        refine g_cond rfl (fun hc1 => ?_) (fun hc1 => ?_)
        · replace hj2 := cond_t hc1 hj2
          refine g_skip ?_
          refine g_seq ?_
          refine g_block ?_
          refine g_seq ?_
          refine g_region ?_
          obtain ⟨x5, hx4, hj2⟩ := bind_some hj2
          refine go_p rfl rfl rfl (o_indexAddr_m Try.runUnderlying46 Try.sizeOf3 rfl rfl hx4) ?_
          refine go_p rfl rfl rfl (o_load Try.isAgg3 rfl rfl) ?_
          refine go_p rfl rfl rfl (o_assign rfl) ?_
          refine go_nil ?_
          refine g_region ?_
          refine go_p rfl rfl rfl (o_move rfl) ?_
          refine go_p rfl rfl rfl (o_load_box 1 Try.isAgg127 rfl rfl rfl rfl) ?_
          refine go_p rfl rfl rfl (o_move rfl) ?_
          refine go_p rfl rfl rfl (o_lookup (z0 := (0 : Int)) 2 Try.runUnderlying127 (keyI64 Try.underlying3) Try.zeroValue3 (fun _ => conc_v.2 rfl) rfl rfl rfl) ?_
          refine go_p rfl rfl rfl (o_buildSlice (xs := [_]) (f := D.i64) (l := [_]) Try.runUnderlying46 Try.sizeOf3 Try.zeroValue3 rfl rfl rfl (fun _ => ⟨rfl, rfl, rfl⟩) rfl) ?_
          obtain ⟨hg5, hj2⟩ := grd_some hj2
          refine go_op rfl rfl rfl (o_append (a := _) 0 Try.underlying46 Try.type3 rfl rfl rfl rfl rfl rfl rfl (fun _ => rfl) (fun _ => rfl) hg5 (app_len hg5 rfl)) ?_
          rintro _ _ ⟨a_r2, cap_r2, rfl, rfl⟩
          refine go_ms (ms' := [_, box b4 127 [_], _, _, box b2 37 [_], box b1 37 [_]]) rfl ?_
          refine go_p rfl rfl rfl (o_assign rfl) ?_
          refine go_nil ?_
          refine g_region ?_
          obtain ⟨hg6, hj2⟩ := grd_some hj2
          refine go_p rfl rfl rfl (o_add rfl rfl (i64_id hg6)) ?_
          refine go_p rfl rfl rfl (o_move rfl) ?_
          refine go_nil ?_
          exact ⟨_, (_, _), hj2, ⟨rfl, rfl, trivial⟩, ⟨rfl, rfl, rfl, rfl, rfl, rfl, rfl, trivial⟩, [], rfl⟩
        · replace hj2 := cond_f hc1 hj2
          refine g_exit ?_
          exact ⟨_, (_, _), some_eq hj2, ⟨rfl, trivial⟩, ⟨rfl, rfl, rfl, rfl, rfl, trivial⟩, [], rfl⟩
      · rintro l3 ⟨a_r2, cap_r2⟩ hst
        subst hst
        refine k_norm (L' := [(8, .v (.slice a_r2 l3.length cap_r2)), (2, _), (4, _), (5, _), (6, _), (7, _)]) (ms' := [row a_r2 cap_r2 3 1 D.i64 l3, _, _, _, _, _]) rfl rfl ?_
        refine g_seq ?_
        refine g_region ?_
        refine go_p rfl rfl rfl (o_load_box 1 Try.isAgg127 rfl rfl rfl rfl) ?_
        refine go_p rfl rfl rfl (o_move rfl) ?_
        refine go_p rfl rfl rfl (o_fieldAddr_box fi_37_0 rfl) ?_
        refine go_p rfl rfl rfl (o_load_box 4 Try.isAgg35 rfl rfl rfl rfl) ?_
        refine go_p rfl rfl rfl (.view (peekE (i := 37) 3 rfl rfl rfl) (o_len Try.runUnderlying35 rfl)) ?_
        refine go_u rfl rfl (o_mapUpdate (v := (l2.length : Int)) 2 Try.runUnderlying127 (keyI64 Try.underlying3) rfl rfl rfl rfl) ?_
        rintro _ _ rfl
        refine go_nil ?_
        obtain ⟨x6, hx7, hm2⟩ := bind_some hm2
        obtain ⟨x7, hx8, hm2⟩ := bind_some hm2
        refine g_draw 10 Try_mixed (by decide +kernel) ?_
        refine gd_p rfl rfl rfl (o_fieldAddr_box fi_37_0 rfl) ?_
        refine gd_p rfl rfl rfl (o_load_box 4 Try.isAgg35 rfl rfl rfl rfl) ?_
        refine gd_p rfl rfl rfl (o_fieldAddr fi_37_0 rfl rfl rfl) ?_
        refine gd_p rfl rfl rfl (o_load Try.isAgg35 rfl rfl) ?_
        refine gd_p rfl rfl rfl (o_move rfl) ?_
        refine gd_p rfl rfl rfl (o_indexAddr_m Try.runUnderlying35 Try.sizeOf40 rfl rfl hx7) ?_
        refine gd_p rfl rfl rfl (o_load_agg Try.isAgg40 Try.sizeOf40 rfl rfl) ?_
        refine gd_p rfl rfl rfl (o_move rfl) ?_
        refine gd_p rfl rfl rfl (.view (peekE (i := 46) 0 rfl rfl rfl) (o_call0 Try.call78 rfl (w_tree_with hx8))) ?_
        refine gd_p rfl rfl rfl (o_buildSlice (xs := [_]) (f := ApiNode.d) (l := [_]) Try.runUnderlying35 Try.sizeOf40 Try.zeroValue40 rfl rfl rfl (fun _ => ⟨rfl, rfl, rfl⟩) rfl) ?_
        refine gd_nil ?_
        obtain ⟨hg9, hm2⟩ := grd_some hm2
        refine go_op rfl rfl rfl (o_append (a := _) 3 Try.underlying35 Try.type40 rfl rfl rfl rfl rfl rfl rfl (fun _ => rfl) (fun _ => rfl) hg9 (app_len hg9 rfl)) ?_
        rintro _ _ ⟨a_r1, cap_r1, rfl, rfl⟩
        refine go_ms (ms' := [_, box b4 127 [_], _, _, box b2 37 [_], box b1 37 [_]]) rfl ?_
        refine go_p rfl rfl rfl (o_fieldAddr_box fi_37_0 rfl) ?_
        refine go_u rfl rfl (o_store_box 4 Try.sizeOf35 rfl rfl rfl rfl rfl rfl rfl rfl (Nat.le_of_ble_eq_true rfl)) ?_
        rintro _ _ rfl
        refine go_ms (ms' := [_, box b4 127 [_], _, _, box b2 37 [_], box b1 37 [_]]) rfl ?_
        refine go_nil ?_
        exact ⟨_, (_, _), hm2, [_], rfl⟩
    · rintro ⟨mm2, l2⟩ ⟨a_r1, cap_r1⟩ hj1
      rw [m_tree_sub_r1] at hj1
      refine k_norm (ms' := [_, mp b3 kI64 D.i64 mm2, row a_r1 cap_r1 40 9 ApiNode.d l2, box b2 37 [.v (.slice a_r1 l2.length cap_r1)], _]) rfl rfl ?_
      exact ⟨_, (_, _), some_eq hj1, trivial, ⟨rfl, rfl, trivial⟩, [], rfl⟩
  · rintro ⟨mm1, l1⟩ ⟨a_r1, cap_r1⟩ hst
    subst hst
    refine k_norm (L' := [(4, _), (5, _)]) (ms' := [_, mp b3 kI64 D.i64 mm1, row a_r1 cap_r1 40 9 ApiNode.d l1, box b2 37 [.v (.slice a_r1 l1.length cap_r1)], _]) rfl rfl ?_
    refine g_seq ?_
    refine g_region ?_
    refine go_p rfl rfl rfl (o_load_box_agg 3 Try.isAgg37 Try.sizeOf37 rfl rfl rfl rfl (Nat.le_of_ble_eq_true rfl)) ?_
    refine go_conv (peekAggE (i := 51) (q := 0) 2 rfl rfl rfl rfl rfl).refines ?_
    refine go_u rfl rfl (o_store_box 4 Try.sizeOf37 rfl rfl rfl rfl rfl rfl rfl rfl (Nat.le_of_ble_eq_true rfl)) ?_
    rintro _ _ rfl
    refine go_ms (ms' := [box b4 127 [_], _, _, box b2 37 [_], box b1 37 [_]]) rfl ?_
    refine go_nil ?_
    refine g_ret ?_
    exact retK (ret_one' rfl (ret_cell 4 rfl rfl rfl Try.isAgg37 Try.sizeOf37 rfl) (perm_drop _)) (congrArg (fun (p : ApiExpr) => (ApiExpr.d p : D)) (some_eq hm1))
def m_tree_Norm (e1 : ApiExpr) : Option (ApiExpr × Int) :=
  (m_tree_May e1).bind fun x1 =>
  bif (!decide (x1 = 0)) then
    some ((⟨([] : List ApiNode)⟩ : ApiExpr), x1)
  else
    grd (InR ((e1.l.length : Int) - 1)) <|
    (m_tree_sub e1 ((e1.l.length : Int) - 1)).bind fun x2 =>
    some ((⟨x2.l⟩ : ApiExpr), 0)
theorem w_tree_Norm {e1 : ApiExpr} {r_1 : ApiExpr} {r_2 : Int} (hm : m_tree_Norm e1 = some (r_1, r_2)) : Fn0 Try.prog 37 [ApiExpr.d e1] (.tup [ApiExpr.d r_1, .i64 r_2]) := by
  unfold m_tree_Norm at hm
  refine fn_intro Try.func37 rfl Try.ntmps37 rfl fun H0 fr w0 => ?_
  refine g_seq ?_
  refine g_region ?_
  refine go_p rfl rfl rfl (o_box rfl rfl) ?_
  refine go_op rfl rfl rfl (o_alloc_own Try.zeroValue37 (cs := [.list 9 ApiNode.d []]) rfl) ?_
  rintro _ _ ⟨b1, rfl, rfl⟩
  refine go_p rfl rfl rfl (o_assign rfl) ?_
  refine go_nil ?_
  refine g_seq ?_
  refine g_seq ?_
  refine g_region ?_
  refine go_p rfl rfl rfl (o_load_agg Try.isAgg37 Try.sizeOf37 rfl rfl) ?_
  obtain ⟨x1, hx1, hm⟩ := bind_some hm
  refine go_p rfl rfl rfl (o_call0 Try.call28 rfl (w_tree_May hx1)) ?_
  refine go_p rfl rfl rfl (o_assign rfl) ?_
  refine go_nil ?_
  refine g_seq ?_
  refine g_region ?_
  refine go_p rfl rfl rfl (o_move rfl) ?_
  refine go_p rfl rfl rfl (o_cmp rfl rfl rfl) ?_
  refine go_nil ?_
  refine g_cond rfl (fun hc1 => ?_) (fun hc1 => ?_)
  · replace hm := cond_t hc1 hm
    refine g_seq ?_
    refine g_region ?_
    refine go_p rfl rfl rfl (o_build (zs := [.list 9 ApiNode.d []]) Try.runUnderlying37 Try.zeroValue37 (pl_37 _ Try.runUnderlying37) rfl rfl rfl rfl) ?_
    refine go_p rfl rfl rfl (o_move rfl) ?_
    refine go_u rfl rfl (o_store_box 0 Try.sizeOf37 rfl rfl rfl rfl rfl rfl rfl rfl (Nat.le_of_ble_eq_true rfl)) ?_
    rintro _ _ rfl
    refine go_ms (ms' := [box b1 37 [_]]) rfl ?_
    refine go_p rfl rfl rfl (o_assign rfl) ?_
    refine go_nil ?_
    refine g_ret ?_
    exact retK (ret_many (ds := [_, _]) rfl (by decide) ⟨ret_cell 0 rfl rfl rfl Try.isAgg37 Try.sizeOf37 rfl, ⟨ret_tmp rfl, rfl⟩⟩ (perm_drop _)) (congrArg (fun (p : (ApiExpr × Int)) => D.tup [ApiExpr.d p.1, .i64 p.2]) (some_eq hm))
  · replace hm := cond_f hc1 hm
    refine g_skip ?_
    refine g_seq ?_
    refine g_region ?_
    refine go_p rfl rfl rfl (o_load_agg Try.isAgg37 Try.sizeOf37 rfl rfl) ?_
    refine go_p rfl rfl rfl (o_fieldAddr fi_37_0 rfl rfl rfl) ?_
    refine go_p rfl rfl rfl (o_load Try.isAgg35 rfl rfl) ?_
    refine go_p rfl rfl rfl (o_len Try.runUnderlying35 rfl) ?_
    obtain ⟨hg2, hm⟩ := grd_some hm
    refine go_p rfl rfl rfl (o_sub rfl rfl (i64_id hg2)) ?_
    obtain ⟨x2, hx3, hm⟩ := bind_some hm
    refine go_p rfl rfl rfl (o_call0 Try.call80 rfl (w_tree_sub hx3)) ?_
    refine go_u rfl rfl (o_store_box 0 Try.sizeOf37 rfl rfl rfl rfl rfl rfl rfl rfl (Nat.le_of_ble_eq_true rfl)) ?_
    rintro _ _ rfl
    refine go_ms (ms' := [box b1 37 [_]]) rfl ?_
    refine go_p rfl rfl rfl (o_assign rfl) ?_
    refine go_nil ?_
    refine g_ret ?_
    exact retK (ret_many (ds := [_, _]) rfl (by decide) ⟨ret_cell 0 rfl rfl rfl Try.isAgg37 Try.sizeOf37 rfl, ⟨ret_tmp rfl, rfl⟩⟩ (perm_drop _)) (congrArg (fun (p : (ApiExpr × Int)) => D.tup [ApiExpr.d p.1, .i64 p.2]) (some_eq hm))
def ApiField.eqv (x y : ApiField) : Bool := ((x.name == y.name) && ((x.var == y.var) && ((x.at_ == y.at_) && true)))
theorem eqf_102 : ∀ fs : Array Field, Try.prog.underlying 102 = some (.struct fs) → EqFields Try.prog fs.toList 0 [.str, .str, .int] := by
  intro fs h
  have := h.symm.trans Try.underlying102
  simp only [Option.some.injEq, TypeDesc.struct.injEq] at this
  subst this
  exact ⟨by decide, rfl, Try.isAgg9, Try.underlying9, ⟨by decide, rfl, Try.isAgg9, Try.underlying9, ⟨by decide, rfl, Try.isAgg3, ⟨_, Try.underlying3⟩, trivial⟩⟩⟩
theorem pl_40 : ∀ fs, (∀ w, (underlying 40).run Try.prog w = .ok (.struct fs) w) → placesOf Try.prog fs [(0, 1), (1, 1), (2, 1), (3, 1), (4, 1), (5, 1), (6, 1), (7, 1), (8, 1)] := by
  intro fs h w
  have := (h w).symm.trans (Try.runUnderlying40 w)
  simp only [Result.ok.injEq, TypeDesc.struct.injEq, and_true] at this
  subst this
  simp [Try.sizeOf2, Try.sizeOf3, Try.sizeOf38, Try.sizeOf9, Sem.run]
def m_syntagmaref05_SameNode_l1 (a1 : ApiNode) (b1 : ApiNode) : Nat → Int → Option (Out Bool Unit)
  | 0, _ => none
  | n + 1, i1 =>
    bif (decide (i1 < (a1.l.length : Int))) then
      (idx a1.l i1).bind fun x1 =>
      (idx b1.l i1).bind fun x2 =>
      bif (!(ApiField.eqv x1 x2)) then
        some (Out.ret false)
      else
        grd (InR (i1 + 1)) <|
        m_syntagmaref05_SameNode_l1 a1 b1 n (i1 + 1)
    else
      some (Out.go (()))
def m_syntagmaref05_SameNode (a1 : ApiNode) (b1 : ApiNode) : Option Bool :=
  bif ((((((((!decide (a1.kind = b1.kind)) || (!decide (a1.a = b1.a))) || (!decide (a1.b = b1.b))) || (!decide (a1.c = b1.c))) || (!decide (a1.n_ = b1.n_))) || (!decide ((a1.name : List UInt8) = b1.name))) || (!decide ((a1.s : List UInt8) = b1.s))) || (!decide ((a1.l.length : Int) = (b1.l.length : Int)))) then
    some false
  else
    ((m_syntagmaref05_SameNode_l1 a1 b1 FU 0 : Option (Out Bool Unit))).bind (fun oo => oo.on (fun r1 => some r1) (fun _ =>
    some true))
theorem w_syntagmaref05_SameNode {a1 : ApiNode} {b1 : ApiNode} {r_1 : Bool} (hm : m_syntagmaref05_SameNode a1 b1 = some r_1) : Fn0 Try.prog 77 [ApiNode.d a1, ApiNode.d b1] (.bool r_1) := by
  unfold m_syntagmaref05_SameNode at hm
  refine fn_intro Try.func77 rfl Try.ntmps77 rfl fun H0 fr w0 => ?_
  refine g_seq ?_
  refine g_region ?_
  refine go_p rfl rfl rfl (o_box rfl rfl) ?_
  refine go_p rfl rfl rfl (o_box rfl rfl) ?_
  refine go_p rfl rfl rfl (o_assign rfl) ?_
  refine go_nil ?_
  refine g_seq ?_
  refine g_seq ?_
  refine g_region ?_
  refine go_p rfl rfl rfl (o_fieldAddr fi_40_0 rfl rfl rfl) ?_
  refine go_p rfl rfl rfl (o_load Try.isAgg3 rfl rfl) ?_
  refine go_p rfl rfl rfl (o_fieldAddr fi_40_0 rfl rfl rfl) ?_
  refine go_p rfl rfl rfl (o_load Try.isAgg3 rfl rfl) ?_
  refine go_p rfl rfl rfl (o_cmp rfl rfl rfl) ?_
  refine go_p rfl rfl rfl (o_move rfl) ?_
  apply go_or [(2, _), (3, _)] 6 17 (t := 11) ⟨rfl, rfl, trivial⟩ rfl
  · intro hg_1 hk1
    refine go_wantp rfl rfl rfl hg_1 rfl rfl (o_fieldAddr fi_40_1 rfl rfl rfl) ?_
    refine go_wantp rfl rfl rfl hg_1 rfl rfl (o_load Try.isAgg3 rfl rfl) ?_
    refine go_wantp rfl rfl rfl hg_1 rfl rfl (o_fieldAddr fi_40_1 rfl rfl rfl) ?_
    refine go_wantp rfl rfl rfl hg_1 rfl rfl (o_load Try.isAgg3 rfl rfl) ?_
    refine go_wantp rfl rfl rfl hg_1 rfl rfl (o_cmp rfl rfl rfl) ?_
    refine go_p rfl rfl rfl (o_pickF rfl hg_1 rfl) ?_
    exact go_meet hk1 (rfl) ⟨rfl, rfl, trivial⟩
  · intro hg_1 hk1
    refine go_skip rfl rfl rfl hg_1 rfl rfl ?_
    refine go_skip rfl rfl rfl hg_1 rfl rfl ?_
    refine go_skip rfl rfl rfl hg_1 rfl rfl ?_
    refine go_skip rfl rfl rfl hg_1 rfl rfl ?_
    refine go_skip rfl rfl rfl hg_1 rfl rfl ?_
    refine go_p rfl rfl rfl (o_pickT rfl hg_1 rfl) ?_
    exact go_meet hk1 (rfl) ⟨rfl, rfl, trivial⟩
  refine go_p rfl rfl rfl (o_move rfl) ?_
  apply go_or [(2, _), (3, _)] 6 24 (t := 18) ⟨rfl, rfl, trivial⟩ rfl
  · intro hg_2 hk2
    refine go_wantp rfl rfl rfl hg_2 rfl rfl (o_fieldAddr fi_40_2 rfl rfl rfl) ?_
    refine go_wantp rfl rfl rfl hg_2 rfl rfl (o_load Try.isAgg3 rfl rfl) ?_
    refine go_wantp rfl rfl rfl hg_2 rfl rfl (o_fieldAddr fi_40_2 rfl rfl rfl) ?_
    refine go_wantp rfl rfl rfl hg_2 rfl rfl (o_load Try.isAgg3 rfl rfl) ?_
    refine go_wantp rfl rfl rfl hg_2 rfl rfl (o_cmp rfl rfl rfl) ?_
    refine go_p rfl rfl rfl (o_pickF rfl hg_2 rfl) ?_
    exact go_meet hk2 (rfl) ⟨rfl, rfl, trivial⟩
  · intro hg_2 hk2
    refine go_skip rfl rfl rfl hg_2 rfl rfl ?_
    refine go_skip rfl rfl rfl hg_2 rfl rfl ?_
    refine go_skip rfl rfl rfl hg_2 rfl rfl ?_
    refine go_skip rfl rfl rfl hg_2 rfl rfl ?_
    refine go_skip rfl rfl rfl hg_2 rfl rfl ?_
    refine go_p rfl rfl rfl (o_pickT rfl hg_2 rfl) ?_
    exact go_meet hk2 (rfl) ⟨rfl, rfl, trivial⟩
  refine go_p rfl rfl rfl (o_move rfl) ?_
  apply go_or [(2, _), (3, _)] 6 31 (t := 25) ⟨rfl, rfl, trivial⟩ rfl
  · intro hg_3 hk3
    refine go_wantp rfl rfl rfl hg_3 rfl rfl (o_fieldAddr fi_40_3 rfl rfl rfl) ?_
    refine go_wantp rfl rfl rfl hg_3 rfl rfl (o_load Try.isAgg3 rfl rfl) ?_
    refine go_wantp rfl rfl rfl hg_3 rfl rfl (o_fieldAddr fi_40_3 rfl rfl rfl) ?_
    refine go_wantp rfl rfl rfl hg_3 rfl rfl (o_load Try.isAgg3 rfl rfl) ?_
    refine go_wantp rfl rfl rfl hg_3 rfl rfl (o_cmp rfl rfl rfl) ?_
    refine go_p rfl rfl rfl (o_pickF rfl hg_3 rfl) ?_
    exact go_meet hk3 (rfl) ⟨rfl, rfl, trivial⟩
  · intro hg_3 hk3
    refine go_skip rfl rfl rfl hg_3 rfl rfl ?_
    refine go_skip rfl rfl rfl hg_3 rfl rfl ?_
    refine go_skip rfl rfl rfl hg_3 rfl rfl ?_
    refine go_skip rfl rfl rfl hg_3 rfl rfl ?_
    refine go_skip rfl rfl rfl hg_3 rfl rfl ?_
    refine go_p rfl rfl rfl (o_pickT rfl hg_3 rfl) ?_
    exact go_meet hk3 (rfl) ⟨rfl, rfl, trivial⟩
  refine go_p rfl rfl rfl (o_move rfl) ?_
  apply go_or [(2, _), (3, _)] 6 38 (t := 32) ⟨rfl, rfl, trivial⟩ rfl
  · intro hg_4 hk4
    refine go_wantp rfl rfl rfl hg_4 rfl rfl (o_fieldAddr fi_40_4 rfl rfl rfl) ?_
    refine go_wantp rfl rfl rfl hg_4 rfl rfl (o_load Try.isAgg2 rfl rfl) ?_
    refine go_wantp rfl rfl rfl hg_4 rfl rfl (o_fieldAddr fi_40_4 rfl rfl rfl) ?_
    refine go_wantp rfl rfl rfl hg_4 rfl rfl (o_load Try.isAgg2 rfl rfl) ?_
    refine go_wantp rfl rfl rfl hg_4 rfl rfl (o_cmp rfl rfl rfl) ?_
    refine go_p rfl rfl rfl (o_pickF rfl hg_4 rfl) ?_
    exact go_meet hk4 (rfl) ⟨rfl, rfl, trivial⟩
  · intro hg_4 hk4
    refine go_skip rfl rfl rfl hg_4 rfl rfl ?_
    refine go_skip rfl rfl rfl hg_4 rfl rfl ?_
    refine go_skip rfl rfl rfl hg_4 rfl rfl ?_
    refine go_skip rfl rfl rfl hg_4 rfl rfl ?_
    refine go_skip rfl rfl rfl hg_4 rfl rfl ?_
    refine go_p rfl rfl rfl (o_pickT rfl hg_4 rfl) ?_
    exact go_meet hk4 (rfl) ⟨rfl, rfl, trivial⟩
  refine go_p rfl rfl rfl (o_move rfl) ?_
  apply go_or [(2, _), (3, _)] 6 45 (t := 39) ⟨rfl, rfl, trivial⟩ rfl
  · intro hg_5 hk5
    refine go_wantp rfl rfl rfl hg_5 rfl rfl (o_fieldAddr fi_40_5 rfl rfl rfl) ?_
    refine go_wantp rfl rfl rfl hg_5 rfl rfl (o_load Try.isAgg9 rfl rfl) ?_
    refine go_wantp rfl rfl rfl hg_5 rfl rfl (o_fieldAddr fi_40_5 rfl rfl rfl) ?_
    refine go_wantp rfl rfl rfl hg_5 rfl rfl (o_load Try.isAgg9 rfl rfl) ?_
    refine go_wantp rfl rfl rfl hg_5 rfl rfl (o_cmps rfl rfl rfl) ?_
    refine go_p rfl rfl rfl (o_pickF rfl hg_5 rfl) ?_
    exact go_meet hk5 (rfl) ⟨rfl, rfl, trivial⟩
  · intro hg_5 hk5
    refine go_skip rfl rfl rfl hg_5 rfl rfl ?_
    refine go_skip rfl rfl rfl hg_5 rfl rfl ?_
    refine go_skip rfl rfl rfl hg_5 rfl rfl ?_
    refine go_skip rfl rfl rfl hg_5 rfl rfl ?_
    refine go_skip rfl rfl rfl hg_5 rfl rfl ?_
    refine go_p rfl rfl rfl (o_pickT rfl hg_5 rfl) ?_
    exact go_meet hk5 (rfl) ⟨rfl, rfl, trivial⟩
  refine go_p rfl rfl rfl (o_move rfl) ?_
  apply go_or [(2, _), (3, _)] 6 52 (t := 46) ⟨rfl, rfl, trivial⟩ rfl
  · intro hg_6 hk6
    refine go_wantp rfl rfl rfl hg_6 rfl rfl (o_fieldAddr fi_40_6 rfl rfl rfl) ?_
    refine go_wantp rfl rfl rfl hg_6 rfl rfl (o_load Try.isAgg9 rfl rfl) ?_
    refine go_wantp rfl rfl rfl hg_6 rfl rfl (o_fieldAddr fi_40_6 rfl rfl rfl) ?_
    refine go_wantp rfl rfl rfl hg_6 rfl rfl (o_load Try.isAgg9 rfl rfl) ?_
    refine go_wantp rfl rfl rfl hg_6 rfl rfl (o_cmps rfl rfl rfl) ?_
    refine go_p rfl rfl rfl (o_pickF rfl hg_6 rfl) ?_
    exact go_meet hk6 (rfl) ⟨rfl, rfl, trivial⟩
  · intro hg_6 hk6
    refine go_skip rfl rfl rfl hg_6 rfl rfl ?_
    refine go_skip rfl rfl rfl hg_6 rfl rfl ?_
    refine go_skip rfl rfl rfl hg_6 rfl rfl ?_
    refine go_skip rfl rfl rfl hg_6 rfl rfl ?_
    refine go_skip rfl rfl rfl hg_6 rfl rfl ?_
    refine go_p rfl rfl rfl (o_pickT rfl hg_6 rfl) ?_
    exact go_meet hk6 (rfl) ⟨rfl, rfl, trivial⟩
  refine go_p rfl rfl rfl (o_move rfl) ?_
  apply go_or [(2, _), (3, _)] 8 61 (t := 53) ⟨rfl, rfl, trivial⟩ rfl
  · intro hg_7 hk7
    refine go_wantp rfl rfl rfl hg_7 rfl rfl (o_fieldAddr fi_40_7 rfl rfl rfl) ?_
    refine go_wantp rfl rfl rfl hg_7 rfl rfl (o_load Try.isAgg38 rfl rfl) ?_
    refine go_wantp rfl rfl rfl hg_7 rfl rfl (o_len Try.runUnderlying38 rfl) ?_
    refine go_wantp rfl rfl rfl hg_7 rfl rfl (o_fieldAddr fi_40_7 rfl rfl rfl) ?_
    refine go_wantp rfl rfl rfl hg_7 rfl rfl (o_load Try.isAgg38 rfl rfl) ?_
    refine go_wantp rfl rfl rfl hg_7 rfl rfl (o_len Try.runUnderlying38 rfl) ?_
    refine go_wantp rfl rfl rfl hg_7 rfl rfl (o_cmp rfl rfl rfl) ?_
    refine go_p rfl rfl rfl (o_pickF rfl hg_7 rfl) ?_
    exact go_meet hk7 (rfl) ⟨rfl, rfl, trivial⟩
  · intro hg_7 hk7
    refine go_skip rfl rfl rfl hg_7 rfl rfl ?_
    refine go_skip rfl rfl rfl hg_7 rfl rfl ?_
    refine go_skip rfl rfl rfl hg_7 rfl rfl ?_
    refine go_skip rfl rfl rfl hg_7 rfl rfl ?_
    refine go_skip rfl rfl rfl hg_7 rfl rfl ?_
    refine go_skip rfl rfl rfl hg_7 rfl rfl ?_
    refine go_skip rfl rfl rfl hg_7 rfl rfl ?_
    refine go_p rfl rfl rfl (o_pickT rfl hg_7 rfl) ?_
    exact go_meet hk7 (rfl) ⟨rfl, rfl, trivial⟩
  refine go_nil ?_
  refine g_cond rfl (fun hc1 => ?_) (fun hc1 => ?_)
  · replace hm := cond_t hc1 hm
    refine g_seq ?_
    refine g_region ?_
    refine go_p rfl rfl rfl (o_assign rfl) ?_
    refine go_nil ?_
    refine g_ret ?_
    exact retK (ret_one' rfl (ret_tmp rfl) (perm_drop _)) (congrArg (fun (p : Bool) => (.bool p : D)) (some_eq hm))
  · replace hm := cond_f hc1 hm
    refine g_skip ?_
    refine g_seq ?_
    refine g_seq ?_
    refine g_region ?_
    refine go_p rfl rfl rfl (o_assign rfl) ?_
    refine go_nil ?_
    obtain ⟨o_1, hj1, hm1⟩ := bind_some hm
    refine g_cut_m [] [] (fun (st : Unit) (hid : Unit) => match st, hid with | _, _ => []) (fun F (st : Unit) (hid : Unit) => match st, hid with | _, _ => []) (fun st => Out.go (st) = o_1) trivial trivial ?_ ?_
    · skip
      refine g_block ?_
      refine g_loop_m [(2, _), (3, _)] [] (fun (st : Int) (hid : Unit) => match st, hid with | i1, _ => [(5, .i64 i1)]) (fun F (st : Int) (hid : Unit) => match st, hid with | i1, _ => []) () hj1 (fun _ => rfl) ⟨rfl, rfl, trivial⟩ trivial ⟨rfl, trivial⟩ rfl ?_
      rintro n i1 _ hj1
      rw [m_syntagmaref05_SameNode_l1] at hj1
      refine g_norm (L' := [(5, .i64 i1), (2, _), (3, _)]) (ms' := []) rfl rfl ?_
      refine g_seq ?_
      refine g_seq ?_
      refine g_region ?_
      refine go_p rfl rfl rfl (o_move rfl) ?_
      refine go_p rfl rfl rfl (o_fieldAddr fi_40_7 rfl rfl rfl) ?_
      refine go_p rfl rfl rfl (o_load Try.isAgg38 rfl rfl) ?_
      refine go_p rfl rfl rfl (o_len Try.runUnderlying38 rfl) ?_
      refine go_p rfl rfl rfl (o_cmp rfl rfl rfl) ?_
      refine go_nil ?_
      refine g_cond rfl (fun hc2 => ?_) (fun hc2 => ?_)
      · replace hj1 := cond_t hc2 hj1
        refine g_skip ?_
        refine g_seq ?_
        refine g_block ?_
        refine g_seq ?_
        obtain ⟨x1, hx1, hj1⟩ := bind_some hj1
        obtain ⟨x2, hx2, hj1⟩ := bind_some hj1
        refine g_draw 11 Try_mixed (by decide +kernel) ?_
        refine gd_p rfl rfl rfl (o_fieldAddr fi_40_7 rfl rfl rfl) ?_
        refine gd_p rfl rfl rfl (o_load Try.isAgg38 rfl rfl) ?_
        refine gd_p rfl rfl rfl (o_move rfl) ?_
        refine gd_p rfl rfl rfl (o_indexAddr_m Try.runUnderlying38 Try.sizeOf102 rfl rfl hx1) ?_
        refine gd_p rfl rfl rfl (o_load_agg Try.isAgg102 Try.sizeOf102 rfl rfl) ?_
        refine gd_p rfl rfl rfl (o_fieldAddr fi_40_7 rfl rfl rfl) ?_
        refine gd_p rfl rfl rfl (o_load Try.isAgg38 rfl rfl) ?_
        refine gd_p rfl rfl rfl (o_move rfl) ?_
        refine gd_p rfl rfl rfl (o_indexAddr_m Try.runUnderlying38 Try.sizeOf102 rfl rfl hx2) ?_
        refine gd_p rfl rfl rfl (o_load_agg Try.isAgg102 Try.sizeOf102 rfl rfl) ?_
        refine gd_p rfl rfl rfl (o_neqagg (ks := [.str, .str, .int]) Try.underlying102 (by kernel_rfl) (by kernel_rfl) (eqf_102 _ Try.underlying102) rfl rfl rfl) ?_
        refine gd_nil ?_
        refine go_nil ?_
        refine g_cond rfl (fun hc3 => ?_) (fun hc3 => ?_)
        · replace hj1 := cond_t hc3 hj1
          refine g_seq ?_
          refine g_region ?_
          refine go_p rfl rfl rfl (o_assign rfl) ?_
          refine go_nil ?_
          refine g_ret ?_
          obtain rfl := some_eq hj1
          replace hm1 := on_ret hm1
          exact retK (ret_one' rfl (ret_tmp rfl) (perm_drop _)) (congrArg (fun (p : Bool) => (.bool p : D)) (some_eq hm1))
        · replace hj1 := cond_f hc3 hj1
          refine g_skip ?_
          refine g_region ?_
          refine go_p rfl rfl rfl (o_move rfl) ?_
          obtain ⟨hg3, hj1⟩ := grd_some hj1
          refine go_p rfl rfl rfl (o_add rfl rfl (i64_id hg3)) ?_
          refine go_p rfl rfl rfl (o_assign rfl) ?_
          refine go_nil ?_
          exact ⟨_, (), hj1, ⟨rfl, trivial⟩, ⟨rfl, rfl, trivial⟩, [], rfl⟩
      · replace hj1 := cond_f hc2 hj1
        refine g_exit ?_
        exact ⟨_, (), some_eq hj1, trivial, trivial, [], rfl⟩
    · rintro _ _ hst
      subst hst
      replace hm1 := on_go hm1
      refine k_norm (L' := []) (ms' := []) rfl rfl ?_
      refine g_seq ?_
      refine g_region ?_
      refine go_p rfl rfl rfl (o_assign rfl) ?_
      refine go_nil ?_
      refine g_ret ?_
      exact retK (ret_one' rfl (ret_tmp rfl) (perm_drop _)) (congrArg (fun (p : Bool) => (.bool p : D)) (some_eq hm1))
def m_syntagmaref05_SameList_l1 (a1 : ApiExpr) (b1 : ApiExpr) : Nat → Int → Option (Out Bool Unit)
  | 0, _ => none
  | n + 1, i1 =>
    bif (decide (i1 < (a1.l.length : Int))) then
      (idx a1.l i1).bind fun x1 =>
      (idx b1.l i1).bind fun x2 =>
      (m_syntagmaref05_SameNode x1 x2).bind fun x3 =>
      bif (!x3) then
        some (Out.ret false)
      else
        grd (InR (i1 + 1)) <|
        m_syntagmaref05_SameList_l1 a1 b1 n (i1 + 1)
    else
      some (Out.go (()))
def m_syntagmaref05_SameList (a1 : ApiExpr) (b1 : ApiExpr) : Option Bool :=
  bif (!decide ((a1.l.length : Int) = (b1.l.length : Int))) then
    some false
  else
    ((m_syntagmaref05_SameList_l1 a1 b1 FU 0 : Option (Out Bool Unit))).bind (fun oo => oo.on (fun r1 => some r1) (fun _ =>
    some true))
theorem w_syntagmaref05_SameList {a1 : ApiExpr} {b1 : ApiExpr} {r_1 : Bool} (hm : m_syntagmaref05_SameList a1 b1 = some r_1) : Fn0 Try.prog 34 [ApiExpr.d a1, ApiExpr.d b1] (.bool r_1) := by
  unfold m_syntagmaref05_SameList at hm
  refine fn_intro Try.func34 rfl Try.ntmps34 rfl fun H0 fr w0 => ?_
  refine g_seq ?_
  refine g_region ?_
  refine go_p rfl rfl rfl (o_box rfl rfl) ?_
  refine go_p rfl rfl rfl (o_box rfl rfl) ?_
  refine go_p rfl rfl rfl (o_assign rfl) ?_
  refine go_nil ?_
  refine g_seq ?_
  refine g_seq ?_
  refine g_region ?_
  refine go_p rfl rfl rfl (o_fieldAddr fi_37_0 rfl rfl rfl) ?_
  refine go_p rfl rfl rfl (o_load Try.isAgg35 rfl rfl) ?_
  refine go_p rfl rfl rfl (o_len Try.runUnderlying35 rfl) ?_
  refine go_p rfl rfl rfl (o_fieldAddr fi_37_0 rfl rfl rfl) ?_
  refine go_p rfl rfl rfl (o_load Try.isAgg35 rfl rfl) ?_
  refine go_p rfl rfl rfl (o_len Try.runUnderlying35 rfl) ?_
  refine go_p rfl rfl rfl (o_cmp rfl rfl rfl) ?_
  refine go_nil ?_
  refine g_cond rfl (fun hc1 => ?_) (fun hc1 => ?_)
  · replace hm := cond_t hc1 hm
    refine g_seq ?_
    refine g_region ?_
    refine go_p rfl rfl rfl (o_assign rfl) ?_
    refine go_nil ?_
    refine g_ret ?_
    exact retK (ret_one' rfl (ret_tmp rfl) (perm_drop _)) (congrArg (fun (p : Bool) => (.bool p : D)) (some_eq hm))
  · replace hm := cond_f hc1 hm
    refine g_skip ?_
    refine g_seq ?_
    refine g_seq ?_
    refine g_region ?_
    refine go_p rfl rfl rfl (o_assign rfl) ?_
    refine go_nil ?_
    obtain ⟨o_1, hj1, hm1⟩ := bind_some hm
    refine g_cut_m [] [] (fun (st : Unit) (hid : Unit) => match st, hid with | _, _ => []) (fun F (st : Unit) (hid : Unit) => match st, hid with | _, _ => []) (fun st => Out.go (st) = o_1) trivial trivial ?_ ?_
    · skip
      refine g_block ?_
      refine g_loop_m [(2, _), (3, _)] [] (fun (st : Int) (hid : Unit) => match st, hid with | i1, _ => [(5, .i64 i1)]) (fun F (st : Int) (hid : Unit) => match st, hid with | i1, _ => []) () hj1 (fun _ => rfl) ⟨rfl, rfl, trivial⟩ trivial ⟨rfl, trivial⟩ rfl ?_
      rintro n i1 _ hj1
      rw [m_syntagmaref05_SameList_l1] at hj1
      refine g_norm (L' := [(5, .i64 i1), (2, _), (3, _)]) (ms' := []) rfl rfl ?_
      refine g_seq ?_
      refine g_seq ?_
      refine g_region ?_
      refine go_p rfl rfl rfl (o_move rfl) ?_
      refine go_p rfl rfl rfl (o_fieldAddr fi_37_0 rfl rfl rfl) ?_
      refine go_p rfl rfl rfl (o_load Try.isAgg35 rfl rfl) ?_
      refine go_p rfl rfl rfl (o_len Try.runUnderlying35 rfl) ?_
      refine go_p rfl rfl rfl (o_cmp rfl rfl rfl) ?_
      refine go_nil ?_
      refine g_cond rfl (fun hc2 => ?_) (fun hc2 => ?_)
      · replace hj1 := cond_t hc2 hj1
        refine g_skip ?_
        refine g_seq ?_
        refine g_block ?_
        refine g_seq ?_
        obtain ⟨x1, hx1, hj1⟩ := bind_some hj1
        obtain ⟨x2, hx2, hj1⟩ := bind_some hj1
        obtain ⟨x3, hx3, hj1⟩ := bind_some hj1
        refine g_draw 12 Try_mixed (by decide +kernel) ?_
        refine gd_p rfl rfl rfl (o_fieldAddr fi_37_0 rfl rfl rfl) ?_
        refine gd_p rfl rfl rfl (o_load Try.isAgg35 rfl rfl) ?_
        refine gd_p rfl rfl rfl (o_move rfl) ?_
        refine gd_p rfl rfl rfl (o_indexAddr_m Try.runUnderlying35 Try.sizeOf40 rfl rfl hx1) ?_
        refine gd_p rfl rfl rfl (o_load_agg Try.isAgg40 Try.sizeOf40 rfl rfl) ?_
        refine gd_p rfl rfl rfl (o_fieldAddr fi_37_0 rfl rfl rfl) ?_
        refine gd_p rfl rfl rfl (o_load Try.isAgg35 rfl rfl) ?_
        refine gd_p rfl rfl rfl (o_move rfl) ?_
        refine gd_p rfl rfl rfl (o_indexAddr_m Try.runUnderlying35 Try.sizeOf40 rfl rfl hx2) ?_
        refine gd_p rfl rfl rfl (o_load_agg Try.isAgg40 Try.sizeOf40 rfl rfl) ?_
        refine gd_p rfl rfl rfl (o_call0 Try.call77 rfl (w_syntagmaref05_SameNode hx3)) ?_
        refine gd_p rfl rfl rfl (o_not rfl) ?_
        refine gd_nil ?_
        refine go_nil ?_
        refine g_cond rfl (fun hc3 => ?_) (fun hc3 => ?_)
        · replace hj1 := cond_t hc3 hj1
          refine g_seq ?_
          refine g_region ?_
          refine go_p rfl rfl rfl (o_assign rfl) ?_
          refine go_nil ?_
          refine g_ret ?_
          obtain rfl := some_eq hj1
          replace hm1 := on_ret hm1
          exact retK (ret_one' rfl (ret_tmp rfl) (perm_drop _)) (congrArg (fun (p : Bool) => (.bool p : D)) (some_eq hm1))
        · replace hj1 := cond_f hc3 hj1
          refine g_skip ?_
          refine g_region ?_
          refine go_p rfl rfl rfl (o_move rfl) ?_
          obtain ⟨hg4, hj1⟩ := grd_some hj1
          refine go_p rfl rfl rfl (o_add rfl rfl (i64_id hg4)) ?_
          refine go_p rfl rfl rfl (o_assign rfl) ?_
          refine go_nil ?_
          exact ⟨_, (), hj1, ⟨rfl, trivial⟩, ⟨rfl, rfl, trivial⟩, [], rfl⟩
      · replace hj1 := cond_f hc2 hj1
        refine g_exit ?_
        exact ⟨_, (), some_eq hj1, trivial, trivial, [], rfl⟩
    · rintro _ _ hst
      subst hst
      replace hm1 := on_go hm1
      refine k_norm (L' := []) (ms' := []) rfl rfl ?_
      refine g_seq ?_
      refine g_region ?_
      refine go_p rfl rfl rfl (o_assign rfl) ?_
      refine go_nil ?_
      refine g_ret ?_
      exact retK (ret_one' rfl (ret_tmp rfl) (perm_drop _)) (congrArg (fun (p : Bool) => (.bool p : D)) (some_eq hm1))
def m_tree_Join_l3 (l5 : (List ApiNode)) (l8 : (List Int)) : Nat → (Int × (List Int)) → Option (List Int)
  | 0, _ => none
  | n + 1, (x5, l10) =>
    bif (decide (x5 < (l8.length : Int))) then
      (idx l10 x5).bind fun x6 =>
      grd (InR (x6 + (l5.length : Int))) <|
      (idx l10 x5).bind fun x7 =>
      grd (InR (x5 + 1)) <|
      m_tree_Join_l3 l5 l8 n ((x5 + 1), (l10.set (x5).toNat (x6 + (l5.length : Int))))
    else
      some l10
def m_tree_Join_l2 (l5 : (List ApiNode)) (x2 : ApiExpr) : Nat → (Int × (List ApiNode)) → Option (List ApiNode)
  | 0, _ => none
  | n + 1, (x3, l7) =>
    bif (decide (x3 < (x2.l.length : Int))) then
      (idx x2.l x3).bind fun x4 =>
      (m_tree_KidsO (⟨x4.kind, x4.a, x4.b, x4.c, x4.n_, x4.name, x4.s, x4.l, x4.pos⟩ : ApiNode)).bind fun l8 =>
      (m_tree_Join_l3 l5 l8 FU (0, l8) : Option (List Int)).bind fun l9 =>
      (m_tree_with (⟨x4.kind, x4.a, x4.b, x4.c, x4.n_, x4.name, x4.s, x4.l, x4.pos⟩ : ApiNode) l9).bind fun x8 =>
      grd ((l7.length + ([x8] : List _).length) * 104 ≤ 140737488355328) <|
      grd (InR (x3 + 1)) <|
      m_tree_Join_l2 l5 x2 n ((x3 + 1), (l7 ++ [x8]))
    else
      some l7
def m_tree_Join_l1 (l1 : (List ApiExpr)) : Nat → (Int × (List Int) × (List ApiNode)) → Option ((List Int) × (List ApiNode))
  | 0, _ => none
  | n + 1, (x1, l4, l5) =>
    bif (decide (x1 < (l1.length : Int))) then
      (idx l1 x1).bind fun x2 =>
      (m_tree_Join_l2 l5 x2 FU (0, l5) : Option (List ApiNode)).bind fun l6 =>
      grd (InR ((l6.length : Int) - 1)) <|
      grd ((l4.length + ([((l6.length : Int) - 1)] : List _).length) * 8 ≤ 140737488355328) <|
      grd (InR (x1 + 1)) <|
      m_tree_Join_l1 l1 n ((x1 + 1), (l4 ++ [((l6.length : Int) - 1)]), l6)
    else
      some (l4, l5)
def m_tree_Join (n1 : ApiNode) (l1 : (List ApiExpr)) : Option ApiExpr :=
  (m_tree_Join_l1 l1 FU (0, [], []) : Option ((List Int) × (List ApiNode))).bind fun (l2, l3) =>
  (m_tree_with n1 l2).bind fun x9 =>
  grd ((l3.length + ([x9] : List _).length) * 104 ≤ 140737488355328) <|
  some (⟨(l3 ++ [x9])⟩ : ApiExpr)
theorem w_tree_Join {n1 : ApiNode} {l1 : (List ApiExpr)} {r_1 : ApiExpr} (hm : m_tree_Join n1 l1 = some r_1) : Fn0 Try.prog 35 [ApiNode.d n1, .list 1 ApiExpr.d l1] (ApiExpr.d r_1) := by
  unfold m_tree_Join at hm
  refine fn_intro Try.func35 rfl Try.ntmps35 rfl fun H0 fr w0 => ?_
  refine g_seq ?_
  refine g_region ?_
  refine go_p rfl rfl rfl (o_box rfl rfl) ?_
  refine go_op rfl rfl rfl (o_alloc_own Try.zeroValue37 (cs := [.list 9 ApiNode.d []]) rfl) ?_
  rintro _ _ ⟨b1, rfl, rfl⟩
  refine go_nil ?_
  refine g_seq ?_
  refine g_region ?_
  refine go_op rfl rfl rfl (o_alloc_own Try.zeroValue37 (cs := [.v (.slice none 0 0)]) rfl) ?_
  rintro _ _ ⟨b2, rfl, rfl⟩
  refine go_conv (refines_newrow (T := 40) (sz := 9) (f := ApiNode.d)) ?_
  refine go_nil ?_
  refine g_seq ?_
  refine g_region ?_
  refine go_p rfl rfl rfl (o_assign rfl) ?_
  refine go_conv (refines_newrow (T := 3) (sz := 1) (f := D.i64)) ?_
  refine go_nil ?_
  refine g_seq ?_
  refine g_seq ?_
  refine g_region ?_
  refine go_p rfl rfl rfl (o_move rfl) ?_
  refine go_p rfl rfl rfl (o_len Try.runUnderlying49 rfl) ?_
  refine go_p rfl rfl rfl (o_move rfl) ?_
  refine go_nil ?_
  obtain ⟨o_1, hj1, hm1⟩ := bind_some hm
  refine g_cut_m [(2, _), (4, _), (5, _)] [(3, _)] (fun (st : ((List Int) × (List ApiNode))) (hid : (Option Addr × Nat) × (Option Addr × Nat)) => match st, hid with | (l2, l3), ((a_r2, cap_r2), (a_r1, cap_r1)) => [(6, .v (.slice a_r2 l2.length cap_r2))]) (fun F (st : ((List Int) × (List ApiNode))) (hid : (Option Addr × Nat) × (Option Addr × Nat)) => match st, hid with | (l2, l3), ((a_r2, cap_r2), (a_r1, cap_r1)) => [row a_r2 cap_r2 3 1 D.i64 l2, row a_r1 cap_r1 40 9 ApiNode.d l3, box b2 37 [.v (.slice a_r1 l3.length cap_r1)], (nthF F 0)]) (fun st => st = o_1) ⟨rfl, rfl, rfl, trivial⟩ ⟨rfl, trivial⟩ ?_ ?_
  · skip
    refine g_block ?_
    refine g_loop_m [(2, _), (4, _), (5, _), (14, _), (15, _)] [(3, _)] (fun (st : (Int × (List Int) × (List ApiNode))) (hid : (Option Addr × Nat) × (Option Addr × Nat)) => match st, hid with | (x1, l4, l5), ((a_r2, cap_r2), (a_r1, cap_r1)) => [(6, .v (.slice a_r2 l4.length cap_r2)), (16, .i64 x1)]) (fun F (st : (Int × (List Int) × (List ApiNode))) (hid : (Option Addr × Nat) × (Option Addr × Nat)) => match st, hid with | (x1, l4, l5), ((a_r2, cap_r2), (a_r1, cap_r1)) => [row a_r2 cap_r2 3 1 D.i64 l4, row a_r1 cap_r1 40 9 ApiNode.d l5, box b2 37 [.v (.slice a_r1 l5.length cap_r1)], (nthF F 0)]) ((_, _), (_, _)) hj1 (fun _ => rfl) ⟨rfl, rfl, rfl, rfl, rfl, trivial⟩ ⟨rfl, trivial⟩ ⟨rfl, rfl, trivial⟩ rfl ?_
    rintro n ⟨x1, l4, l5⟩ ⟨⟨a_r2, cap_r2⟩, ⟨a_r1, cap_r1⟩⟩ hj1
    rw [m_tree_Join_l1] at hj1
    refine g_norm (L' := [(6, .v (.slice a_r2 l4.length cap_r2)), (16, .i64 x1), (2, _), (4, _), (5, _), (14, _), (15, _)]) (ms' := [row a_r2 cap_r2 3 1 D.i64 l4, row a_r1 cap_r1 40 9 ApiNode.d l5, box b2 37 [.v (.slice a_r1 l5.length cap_r1)], _]) rfl rfl ?_
    refine g_seq ?_
    refine g_region ?_
    refine go_p rfl rfl rfl (o_cmp rfl rfl rfl) ?_
    refine go_nil ?_
    refine g_seq ?_
    refine g_cond rfl (fun hc1 => ?_) (fun hc1 => ?_)
    · replace hj1 := cond_t hc1 hj1
      refine g_skip ?_
      refine g_seq ?_
      refine g_block ?_
      refine g_seq ?_
      refine g_region ?_
      obtain ⟨x2, hx1, hj1⟩ := bind_some hj1
      refine go_p rfl rfl rfl (o_indexAddr_m Try.runUnderlying49 Try.sizeOf37 rfl rfl hx1) ?_
      refine go_p rfl rfl rfl (o_load_agg Try.isAgg37 Try.sizeOf37 rfl rfl) ?_
      refine go_op rfl rfl rfl (o_alloc_own Try.zeroValue37 (cs := [.list 9 ApiNode.d []]) rfl) ?_
      rintro _ _ ⟨b3, rfl, rfl⟩
      refine go_u rfl rfl (o_store_box 0 Try.sizeOf37 rfl rfl rfl rfl rfl rfl rfl rfl (Nat.le_of_ble_eq_true rfl)) ?_
      rintro _ _ rfl
      refine go_ms (ms' := [box b3 37 [_], _, _, box b2 37 [_], box b1 37 [_]]) rfl ?_
      refine go_nil ?_
      refine g_seq ?_
      refine g_region ?_
      refine go_p rfl rfl rfl (o_fieldAddr_box fi_37_0 rfl) ?_
      refine go_p rfl rfl rfl (o_load_box 3 Try.isAgg35 rfl rfl rfl rfl) ?_
      refine go_p rfl rfl rfl (.view (peekE (i := 21) 2 rfl rfl rfl) (o_len Try.runUnderlying35 rfl)) ?_
      refine go_p rfl rfl rfl (o_assign rfl) ?_
      refine go_nil ?_
      refine g_seq ?_
      refine g_seq ?_
      refine g_region ?_
      refine go_p rfl rfl rfl (o_fieldAddr_box fi_37_0 rfl) ?_
      refine go_p rfl rfl rfl (o_load_box 0 Try.isAgg35 rfl rfl rfl rfl) ?_
      refine go_p rfl rfl rfl (o_len Try.runUnderlying35 rfl) ?_
      refine go_p rfl rfl rfl (o_move rfl) ?_
      refine go_nil ?_
      obtain ⟨o_2, hj2, hm2⟩ := bind_some hj1
      refine g_cut_m [(2, _), (4, _), (5, _), (6, _), (14, _), (15, _), (16, _)] [(0, _), (1, _), (4, _)] (fun (st : (List ApiNode)) (hid : (Option Addr × Nat)) => match st, hid with | l6, (a_r1, cap_r1) => []) (fun F (st : (List ApiNode)) (hid : (Option Addr × Nat)) => match st, hid with | l6, (a_r1, cap_r1) => [(nthF F 0), (nthF F 1), row a_r1 cap_r1 40 9 ApiNode.d l6, box b2 37 [.v (.slice a_r1 l6.length cap_r1)], (nthF F 2)]) (fun st => st = o_2) ⟨rfl, rfl, rfl, rfl, rfl, rfl, rfl, trivial⟩ ⟨rfl, rfl, rfl, trivial⟩ ?_ ?_
      · skip
        refine g_block ?_
        refine g_loop_m [(2, _), (4, _), (5, _), (6, _), (9, _), (14, _), (15, _), (16, _), (24, _), (25, _)] [(0, _), (1, _), (4, _)] (fun (st : (Int × (List ApiNode))) (hid : (Option Addr × Nat)) => match st, hid with | (x3, l7), (a_r1, cap_r1) => [(26, .i64 x3)]) (fun F (st : (Int × (List ApiNode))) (hid : (Option Addr × Nat)) => match st, hid with | (x3, l7), (a_r1, cap_r1) => [(nthF F 0), (nthF F 1), row a_r1 cap_r1 40 9 ApiNode.d l7, box b2 37 [.v (.slice a_r1 l7.length cap_r1)], (nthF F 2)]) (_, _) hj2 (fun _ => rfl) ⟨rfl, rfl, rfl, rfl, rfl, rfl, rfl, rfl, rfl, rfl, trivial⟩ ⟨rfl, rfl, rfl, trivial⟩ ⟨rfl, trivial⟩ rfl ?_
        rintro n ⟨x3, l7⟩ ⟨a_r1, cap_r1⟩ hj2
        rw [m_tree_Join_l2] at hj2
        refine g_norm (L' := [(26, .i64 x3), (2, _), (4, _), (5, _), (6, _), (9, _), (14, _), (15, _), (16, _), (24, _), (25, _)]) (ms' := [_, _, row a_r1 cap_r1 40 9 ApiNode.d l7, box b2 37 [.v (.slice a_r1 l7.length cap_r1)], _]) rfl rfl ?_
        refine g_seq ?_
        refine g_region ?_
        refine go_p rfl rfl rfl (o_cmp rfl rfl rfl) ?_
        refine go_nil ?_
        refine g_seq ?_
        refine g_cond rfl (fun hc2 => ?_) (fun hc2 => ?_)
        · replace hj2 := cond_t hc2 hj2
          refine g_skip ?_
          refine g_seq ?_
          refine g_block ?_
          refine g_seq ?_
          refine g_region ?_
          obtain ⟨x4, hx2, hj2⟩ := bind_some hj2
          refine go_p rfl rfl rfl (o_indexAddr_m Try.runUnderlying35 Try.sizeOf40 rfl rfl hx2) ?_
          refine go_p rfl rfl rfl (o_load_agg Try.isAgg40 Try.sizeOf40 rfl rfl) ?_
          refine go_op rfl rfl rfl (o_alloc_own Try.zeroValue40 (cs := [.i64 0, .i64 0, .i64 0, .i64 0, .i64 0, .str ([] : List UInt8), .str ([] : List UInt8), .list 3 ApiField.d [], .i64 0]) rfl) ?_
          rintro _ _ ⟨b4, rfl, rfl⟩
          refine go_u rfl rfl (o_store_box 0 Try.sizeOf40 rfl rfl rfl rfl rfl rfl rfl rfl (Nat.le_of_ble_eq_true rfl)) ?_
          rintro _ _ rfl
          refine go_ms (ms' := [box b4 40 [_, _, _, _, _, _, _, _, _], box b3 37 [_], _, _, box b2 37 [_], box b1 37 [_]]) rfl ?_
          refine go_nil ?_
          refine g_seq ?_
          refine g_region ?_
          refine go_p rfl rfl rfl (o_load_box_agg 0 Try.isAgg40 Try.sizeOf40 rfl rfl rfl rfl (Nat.le_of_ble_eq_true rfl)) ?_
          obtain ⟨l8, hx3, hj2⟩ := bind_some hj2
          refine go_op rfl rfl rfl (o_call (ms₁ := []) Try.call31 rfl (List.Perm.refl _) (w_tree_KidsO hx3)) ?_
          rintro _ _ ⟨_, ⟨a_r3, m_r3, cap_r3, rfl, rfl⟩, rfl⟩
          refine go_p rfl rfl rfl (o_assign rfl) ?_
          refine go_nil ?_
          refine g_seq ?_
          refine g_seq ?_
          refine g_region ?_
          refine go_p rfl rfl rfl (o_move rfl) ?_
          refine go_p rfl rfl rfl (o_len_arr 0 Try.runUnderlying46 rfl rfl) ?_
          refine go_p rfl rfl rfl (o_move rfl) ?_
          refine go_nil ?_
          obtain ⟨o_3, hj3, hm3⟩ := bind_some hj2
          refine g_cut_m [(2, _), (4, _), (5, _), (6, _), (9, _), (11, _), (12, _), (14, _), (15, _), (16, _), (24, _), (25, _), (26, _)] [(1, _), (2, _), (3, _), (4, _), (5, _), (6, _)] (fun (st : (List Int)) (hid : Unit) => match st, hid with | l9, _ => []) (fun F (st : (List Int)) (hid : Unit) => match st, hid with | l9, _ => [arr a_r3 m_r3 cap_r3 3 1 D.i64 l9, (nthF F 0), (nthF F 1), (nthF F 2), (nthF F 3), (nthF F 4), (nthF F 5)]) (fun st => st = o_3) ⟨rfl, rfl, rfl, rfl, rfl, rfl, rfl, rfl, rfl, rfl, rfl, rfl, rfl, trivial⟩ ⟨rfl, rfl, rfl, rfl, rfl, rfl, trivial⟩ ?_ ?_
          · skip
            refine g_block ?_
            refine g_loop_m [(2, _), (4, _), (5, _), (6, _), (9, _), (11, _), (12, _), (14, _), (15, _), (16, _), (24, _), (25, _), (26, _), (33, _)] [(1, _), (2, _), (3, _), (4, _), (5, _), (6, _)] (fun (st : (Int × (List Int))) (hid : Unit) => match st, hid with | (x5, l10), _ => [(34, .i64 x5)]) (fun F (st : (Int × (List Int))) (hid : Unit) => match st, hid with | (x5, l10), _ => [arr a_r3 m_r3 cap_r3 3 1 D.i64 l10, (nthF F 0), (nthF F 1), (nthF F 2), (nthF F 3), (nthF F 4), (nthF F 5)]) () hj3 (fun _ => rfl) ⟨rfl, rfl, rfl, rfl, rfl, rfl, rfl, rfl, rfl, rfl, rfl, rfl, rfl, rfl, trivial⟩ ⟨rfl, rfl, rfl, rfl, rfl, rfl, trivial⟩ ⟨rfl, trivial⟩ rfl ?_
            rintro n ⟨x5, l10⟩ ⟨⟩ hj3
            rw [m_tree_Join_l3] at hj3
            refine g_norm (L' := [(34, .i64 x5), (2, _), (4, _), (5, _), (6, _), (9, _), (11, _), (12, _), (14, _), (15, _), (16, _), (24, _), (25, _), (26, _), (33, _)]) (ms' := [arr a_r3 m_r3 cap_r3 3 1 D.i64 l10, _, _, _, _, _, _]) rfl rfl ?_
            refine g_seq ?_
            refine g_region ?_
            refine go_p rfl rfl rfl (o_cmp rfl rfl rfl) ?_
            refine go_nil ?_
            refine g_seq ?_
            refine g_cond rfl (fun hc3 => ?_) (fun hc3 => ?_)
            · replace hj3 := cond_t hc3 hj3
              refine g_skip ?_
              refine g_seq ?_
              refine g_block ?_
              refine g_seq ?_
              refine g_region ?_
              refine go_p rfl rfl rfl (o_move rfl) ?_
              refine go_p rfl rfl rfl (o_assign rfl) ?_
              refine go_nil ?_
              refine g_region ?_
              refine go_p rfl rfl rfl (o_move rfl) ?_
              refine go_p rfl rfl rfl (o_move rfl) ?_
              obtain ⟨x6, hx4, hj3⟩ := bind_some hj3
              refine go_p rfl rfl rfl (o_indexAddr_arr 0 Try.runUnderlying46 Try.sizeOf3 rfl rfl rfl hx4) ?_
              refine go_p rfl rfl rfl (o_load_arr (off := 0) 0 Try.isAgg3 rfl rfl (idx_some hx4).2 rfl rfl rfl) ?_
              refine go_p rfl rfl rfl (o_move rfl) ?_
              obtain ⟨hg5, hj3⟩ := grd_some hj3
              refine go_p rfl rfl rfl (o_add rfl rfl (i64_id hg5)) ?_
              obtain ⟨x7, hx6, hj3⟩ := bind_some hj3
              refine go_p rfl rfl rfl (o_indexAddr_arr 0 Try.runUnderlying46 Try.sizeOf3 rfl rfl rfl hx6) ?_
              refine go_u rfl rfl (o_store_arr (off := 0) (z' := (x6 + (l5.length : Int))) 0 Try.sizeOf3 rfl rfl (idx_some hx6).2 rfl rfl rfl rfl rfl rfl (Nat.le_of_ble_eq_true rfl) rfl rfl) ?_
              rintro _ _ rfl
              refine go_ms (ms' := [_, box b4 40 [_, _, _, _, _, _, _, _, _], box b3 37 [_], _, _, box b2 37 [_], box b1 37 [_]]) rfl ?_
              refine go_nil ?_
              refine g_region ?_
              obtain ⟨hg7, hj3⟩ := grd_some hj3
              refine go_p rfl rfl rfl (o_add rfl rfl (i64_id hg7)) ?_
              refine go_p rfl rfl rfl (o_move rfl) ?_
              refine go_nil ?_
              exact ⟨_, (), hj3, ⟨rfl, trivial⟩, ⟨rfl, rfl, rfl, rfl, rfl, rfl, rfl, rfl, rfl, rfl, rfl, rfl, rfl, rfl, trivial⟩, [], rfl⟩
            · replace hj3 := cond_f hc3 hj3
              refine g_exit ?_
              exact ⟨_, (), some_eq hj3, trivial, ⟨rfl, rfl, rfl, rfl, rfl, rfl, rfl, rfl, rfl, rfl, rfl, rfl, rfl, trivial⟩, [], rfl⟩
          · rintro l9 ⟨⟩ hst
            subst hst
            refine k_norm (L' := [(2, _), (4, _), (5, _), (6, _), (9, _), (11, _), (12, _), (14, _), (15, _), (16, _), (24, _), (25, _), (26, _)]) (ms' := [arr a_r3 m_r3 cap_r3 3 1 D.i64 l9, _, _, _, _, _, _]) rfl rfl ?_
            refine g_thaw 0 rfl rfl ?_
            rintro rfl
            obtain ⟨x8, hx8, hm3⟩ := bind_some hm3
            refine g_draw 6 Try_mixed (by decide +kernel) ?_
            refine gd_p rfl rfl rfl (o_fieldAddr_box fi_37_0 rfl) ?_
            refine gd_p rfl rfl rfl (o_load_box 5 Try.isAgg35 rfl rfl rfl rfl) ?_
            refine gd_p rfl rfl rfl (o_load_box_agg 1 Try.isAgg40 Try.sizeOf40 rfl rfl rfl rfl (Nat.le_of_ble_eq_true rfl)) ?_
            refine gd_p rfl rfl rfl (o_move rfl) ?_
            refine gd_p rfl rfl rfl (.view (peekE (i := 48) 0 rfl rfl rfl) (o_call0 Try.call78 rfl (w_tree_with hx8))) ?_
            refine gd_p rfl rfl rfl (o_buildSlice (xs := [_]) (f := ApiNode.d) (l := [_]) Try.runUnderlying35 Try.sizeOf40 Try.zeroValue40 rfl rfl rfl (fun _ => ⟨rfl, rfl, rfl⟩) rfl) ?_
            refine gd_nil ?_
            obtain ⟨hg9, hm3⟩ := grd_some hm3
            refine go_op rfl rfl rfl (o_append (a := _) 4 Try.underlying35 Try.type40 rfl rfl rfl rfl rfl rfl rfl (fun _ => rfl) (fun _ => rfl) hg9 (app_len hg9 rfl)) ?_
            rintro _ _ ⟨a_r1, cap_r1, rfl, rfl⟩
            refine go_ms (ms' := [_, box b4 40 [_, _, _, _, _, _, _, _, _], box b3 37 [_], _, _, box b2 37 [_], box b1 37 [_]]) rfl ?_
            refine go_p rfl rfl rfl (o_fieldAddr_box fi_37_0 rfl) ?_
            refine go_u rfl rfl (o_store_box 5 Try.sizeOf35 rfl rfl rfl rfl rfl rfl rfl rfl (Nat.le_of_ble_eq_true rfl)) ?_
            rintro _ _ rfl
            refine go_ms (ms' := [_, box b4 40 [_, _, _, _, _, _, _, _, _], box b3 37 [_], _, _, box b2 37 [_], box b1 37 [_]]) rfl ?_
            refine go_nil ?_
            refine g_region ?_
            obtain ⟨hg10, hm3⟩ := grd_some hm3
            refine go_p rfl rfl rfl (o_add rfl rfl (i64_id hg10)) ?_
            refine go_p rfl rfl rfl (o_move rfl) ?_
            refine go_nil ?_
            exact ⟨_, (_, _), hm3, ⟨rfl, trivial⟩, ⟨rfl, rfl, rfl, rfl, rfl, rfl, rfl, rfl, rfl, rfl, trivial⟩, [_, _], rfl⟩
        · replace hj2 := cond_f hc2 hj2
          refine g_exit ?_
          exact ⟨_, (_, _), some_eq hj2, trivial, ⟨rfl, rfl, rfl, rfl, rfl, rfl, rfl, trivial⟩, [], rfl⟩
      · rintro l6 ⟨a_r1, cap_r1⟩ hst
        subst hst
        refine k_norm (L' := [(2, _), (4, _), (5, _), (6, _), (14, _), (15, _), (16, _)]) (ms' := [_, _, row a_r1 cap_r1 40 9 ApiNode.d l6, box b2 37 [.v (.slice a_r1 l6.length cap_r1)], _]) rfl rfl ?_
        refine g_region ?_
        refine go_p rfl rfl rfl (o_move rfl) ?_
        refine go_p rfl rfl rfl (o_fieldAddr_box fi_37_0 rfl) ?_
        refine go_p rfl rfl rfl (o_load_box 3 Try.isAgg35 rfl rfl rfl rfl) ?_
        refine go_p rfl rfl rfl (.view (peekE (i := 56) 2 rfl rfl rfl) (o_len Try.runUnderlying35 rfl)) ?_
        obtain ⟨hg11, hm2⟩ := grd_some hm2
        refine go_p rfl rfl rfl (o_sub rfl rfl (i64_id hg11)) ?_
        refine go_p rfl rfl rfl (o_buildSlice (xs := [_]) (f := D.i64) (l := [_]) Try.runUnderlying46 Try.sizeOf3 Try.zeroValue3 rfl rfl rfl (fun _ => ⟨rfl, rfl, rfl⟩) rfl) ?_
        obtain ⟨hg12, hm2⟩ := grd_some hm2
        refine go_op rfl rfl rfl (o_append (a := _) 1 Try.underlying46 Try.type3 rfl rfl rfl rfl rfl rfl rfl (fun _ => rfl) (fun _ => rfl) hg12 (app_len hg12 rfl)) ?_
        rintro _ _ ⟨a_r2, cap_r2, rfl, rfl⟩
        refine go_ms (ms' := [box b3 37 [_], _, _, box b2 37 [_], box b1 37 [_]]) rfl ?_
        refine go_p rfl rfl rfl (o_assign rfl) ?_
        refine go_nil ?_
        refine g_region ?_
        obtain ⟨hg13, hm2⟩ := grd_some hm2
        refine go_p rfl rfl rfl (o_add rfl rfl (i64_id hg13)) ?_
        refine go_p rfl rfl rfl (o_move rfl) ?_
        refine go_nil ?_
        exact ⟨_, ((_, _), (_, _)), hm2, ⟨rfl, rfl, trivial⟩, ⟨rfl, rfl, rfl, rfl, rfl, trivial⟩, [_], rfl⟩
    · replace hj1 := cond_f hc1 hj1
      refine g_exit ?_
      exact ⟨_, ((_, _), (_, _)), some_eq hj1, ⟨rfl, trivial⟩, ⟨rfl, rfl, rfl, trivial⟩, [], rfl⟩
  · rintro ⟨l2, l3⟩ ⟨⟨a_r2, cap_r2⟩, ⟨a_r1, cap_r1⟩⟩ hst
    subst hst
    refine k_norm (L' := [(6, .v (.slice a_r2 l2.length cap_r2)), (2, _), (4, _), (5, _)]) (ms' := [row a_r2 cap_r2 3 1 D.i64 l2, row a_r1 cap_r1 40 9 ApiNode.d l3, box b2 37 [.v (.slice a_r1 l3.length cap_r1)], _]) rfl rfl ?_
    refine g_seq ?_
    obtain ⟨x9, hx14, hm1⟩ := bind_some hm1
    refine g_draw 6 Try_mixed (by decide +kernel) ?_
    refine gd_p rfl rfl rfl (o_fieldAddr_box fi_37_0 rfl) ?_
    refine gd_p rfl rfl rfl (o_load_box 2 Try.isAgg35 rfl rfl rfl rfl) ?_
    refine gd_p rfl rfl rfl (o_load_agg Try.isAgg40 Try.sizeOf40 rfl rfl) ?_
    refine gd_p rfl rfl rfl (o_move rfl) ?_
    refine gd_p rfl rfl rfl (.view (peekE (i := 65) 0 rfl rfl rfl) (o_call0 Try.call78 rfl (w_tree_with hx14))) ?_
    refine gd_p rfl rfl rfl (o_buildSlice (xs := [_]) (f := ApiNode.d) (l := [_]) Try.runUnderlying35 Try.sizeOf40 Try.zeroValue40 rfl rfl rfl (fun _ => ⟨rfl, rfl, rfl⟩) rfl) ?_
    refine gd_nil ?_
    obtain ⟨hg15, hm1⟩ := grd_some hm1
    refine go_op rfl rfl rfl (o_append (a := _) 1 Try.underlying35 Try.type40 rfl rfl rfl rfl rfl rfl rfl (fun _ => rfl) (fun _ => rfl) hg15 (app_len hg15 rfl)) ?_
    rintro _ _ ⟨a_r1, cap_r1, rfl, rfl⟩
    refine go_ms (ms' := [_, _, box b2 37 [_], box b1 37 [_]]) rfl ?_
    refine go_p rfl rfl rfl (o_fieldAddr_box fi_37_0 rfl) ?_
    refine go_u rfl rfl (o_store_box 2 Try.sizeOf35 rfl rfl rfl rfl rfl rfl rfl rfl (Nat.le_of_ble_eq_true rfl)) ?_
    rintro _ _ rfl
    refine go_ms (ms' := [_, _, box b2 37 [_], box b1 37 [_]]) rfl ?_
    refine go_nil ?_
    refine g_seq ?_
    refine g_region ?_
    refine go_p rfl rfl rfl (o_load_box_agg 2 Try.isAgg37 Try.sizeOf37 rfl rfl rfl rfl (Nat.le_of_ble_eq_true rfl)) ?_
    refine go_conv (peekAggE (i := 70) (q := 0) 1 rfl rfl rfl rfl rfl).refines ?_
    refine go_u rfl rfl (o_store_box 3 Try.sizeOf37 rfl rfl rfl rfl rfl rfl rfl rfl (Nat.le_of_ble_eq_true rfl)) ?_
    rintro _ _ rfl
    refine go_ms (ms' := [_, _, box b2 37 [_], box b1 37 [_]]) rfl ?_
    refine go_nil ?_
    refine g_ret ?_
    exact retK (ret_one' rfl (ret_cell 3 rfl rfl rfl Try.isAgg37 Try.sizeOf37 rfl) (perm_drop _)) (congrArg (fun (p : ApiExpr) => (ApiExpr.d p : D)) (some_eq hm1))
def m_syntagmaref05_with_l1 (n1 : ApiNode) (kids1 : (List Int)) : Nat → (Int × (List ApiField) × Int × Int × Int × Int × Int × (List UInt8) × (List UInt8) × Int) → Option (Int × (List ApiField) × Int × Int × Int × Int × Int × (List UInt8) × (List UInt8) × Int)
  | 0, _ => none
  | n + 1, (i1, l2, z9, z10, z11, z12, z13, z14, z15, z16) =>
    bif (decide (i1 < (n1.l.length : Int))) then
      (idx n1.l i1).bind fun x1 =>
      grd (InR (((kids1.length : Int) - (n1.l.length : Int)) + i1)) <|
      (idx kids1 (((kids1.length : Int) - (n1.l.length : Int)) + i1)).bind fun x2 =>
      grd ((l2.length + ([(⟨x1.name, x1.var, x2⟩ : ApiField)] : List _).length) * 40 ≤ 140737488355328) <|
      grd (InR (i1 + 1)) <|
      m_syntagmaref05_with_l1 n1 kids1 n ((i1 + 1), (l2 ++ [(⟨x1.name, x1.var, x2⟩ : ApiField)]), z9, z10, z11, z12, z13, z14, z15, z16)
    else
      some (((kids1.length : Int) - (n1.l.length : Int)), l2, z9, z10, z11, z12, z13, z14, z15, z16)
def m_syntagmaref05_with (n1 : ApiNode) (kids1 : (List Int)) : Option ApiNode :=
  (bif ((decide (n1.kind = 11)) || (decide (n1.kind = 14))) then
    grd (InR ((kids1.length : Int) - (n1.l.length : Int))) <|
    m_syntagmaref05_with_l1 n1 kids1 FU (0, ([] : List ApiField), n1.kind, 0, 0, 0, n1.n_, n1.name, n1.s, n1.pos)
  else
    some ((kids1.length : Int), ([] : List ApiField), n1.kind, 0, 0, 0, n1.n_, n1.name, n1.s, n1.pos) : Option (Int × (List ApiField) × Int × Int × Int × Int × Int × (List UInt8) × (List UInt8) × Int)).bind fun (at1, l1, z1, z2, z3, z4, z5, z6, z7, z8) =>
  (bif (decide (0 < at1)) then
    (idx kids1 0).bind fun x3 =>
    some (l1, z1, x3, z3, z4, z5, z6, z7, z8)
  else
    some (l1, z1, z2, z3, z4, z5, z6, z7, z8) : Option ((List ApiField) × Int × Int × Int × Int × Int × (List UInt8) × (List UInt8) × Int)).bind fun (l3, z17, z18, z19, z20, z21, z22, z23, z24) =>
  (bif (decide (1 < at1)) then
    (idx kids1 1).bind fun x4 =>
    some (l3, z17, z18, x4, z20, z21, z22, z23, z24)
  else
    some (l3, z17, z18, z19, z20, z21, z22, z23, z24) : Option ((List ApiField) × Int × Int × Int × Int × Int × (List UInt8) × (List UInt8) × Int)).bind fun (l4, z25, z26, z27, z28, z29, z30, z31, z32) =>
  bif (decide (2 < at1)) then
    (idx kids1 2).bind fun x5 =>
    some (⟨z25, z26, z27, x5, z29, z30, z31, l4, z32⟩ : ApiNode)
  else
    some (⟨z25, z26, z27, z28, z29, z30, z31, l4, z32⟩ : ApiNode)
theorem w_syntagmaref05_with {n1 : ApiNode} {kids1 : (List Int)} {r_1 : ApiNode} (hm : m_syntagmaref05_with n1 kids1 = some r_1) : Fn0 Try.prog 79 [ApiNode.d n1, .list 1 D.i64 kids1] (ApiNode.d r_1) := by
  unfold m_syntagmaref05_with at hm
  refine fn_intro Try.func79 rfl Try.ntmps79 rfl fun H0 fr w0 => ?_
  refine g_seq ?_
  refine g_region ?_
  refine go_p rfl rfl rfl (o_box rfl rfl) ?_
  refine go_op rfl rfl rfl (o_alloc_own Try.zeroValue40 (cs := [.i64 0, .i64 0, .i64 0, .i64 0, .i64 0, .str ([] : List UInt8), .str ([] : List UInt8), .list 3 ApiField.d [], .i64 0]) rfl) ?_
  rintro _ _ ⟨b1, rfl, rfl⟩
  refine go_nil ?_
  refine g_seq ?_
  refine g_region ?_
  refine go_p rfl rfl rfl (o_load_agg Try.isAgg40 Try.sizeOf40 rfl rfl) ?_
  refine go_op rfl rfl rfl (o_alloc_own Try.zeroValue40 (cs := [.i64 0, .i64 0, .i64 0, .i64 0, .i64 0, .str ([] : List UInt8), .str ([] : List UInt8), .list 3 ApiField.d [], .i64 0]) rfl) ?_
  rintro _ _ ⟨b2, rfl, rfl⟩
  refine go_u rfl rfl (o_store_box 0 Try.sizeOf40 rfl rfl rfl rfl rfl rfl rfl rfl (Nat.le_of_ble_eq_true rfl)) ?_
  rintro _ _ rfl
  refine go_ms (ms' := [box b2 40 [_, _, _, _, _, _, _, _, _], box b1 40 [_, _, _, _, _, _, _, _, _]]) rfl ?_
  refine go_nil ?_
  refine g_seq ?_
  refine g_region ?_
  refine go_p rfl rfl rfl (o_fieldAddr_box fi_40_1 rfl) ?_
  refine go_u rfl rfl (o_store_box 0 Try.sizeOf3 rfl rfl rfl rfl rfl rfl rfl rfl (Nat.le_of_ble_eq_true rfl)) ?_
  rintro _ _ rfl
  refine go_ms (ms' := [box b2 40 [_, _, _, _, _, _, _, _, _], box b1 40 [_, _, _, _, _, _, _, _, _]]) rfl ?_
  refine go_p rfl rfl rfl (o_fieldAddr_box fi_40_2 rfl) ?_
  refine go_u rfl rfl (o_store_box 0 Try.sizeOf3 rfl rfl rfl rfl rfl rfl rfl rfl (Nat.le_of_ble_eq_true rfl)) ?_
  rintro _ _ rfl
  refine go_ms (ms' := [box b2 40 [_, _, _, _, _, _, _, _, _], box b1 40 [_, _, _, _, _, _, _, _, _]]) rfl ?_
  refine go_p rfl rfl rfl (o_fieldAddr_box fi_40_3 rfl) ?_
  refine go_u rfl rfl (o_store_box 0 Try.sizeOf3 rfl rfl rfl rfl rfl rfl rfl rfl (Nat.le_of_ble_eq_true rfl)) ?_
  rintro _ _ rfl
  refine go_ms (ms' := [box b2 40 [_, _, _, _, _, _, _, _, _], box b1 40 [_, _, _, _, _, _, _, _, _]]) rfl ?_
  refine go_p rfl rfl rfl (o_fieldAddr_box fi_40_7 rfl) ?_
  refine go_u rfl rfl (o_store_box 0 Try.sizeOf38 rfl rfl rfl rfl rfl rfl rfl rfl (Nat.le_of_ble_eq_true rfl)) ?_
  rintro _ _ rfl
  refine go_conv (refines_newrow (T := 102) (sz := 3) (f := ApiField.d)) ?_
  refine go_ms (ms' := [_, box b2 40 [_, _, _, _, _, _, _, _, _], box b1 40 [_, _, _, _, _, _, _, _, _]]) rfl ?_
  refine go_nil ?_
  refine g_seq ?_
  refine g_region ?_
  refine go_p rfl rfl rfl (o_assign rfl) ?_
  refine go_nil ?_
  refine g_seq ?_
  refine g_seq ?_
  refine g_region ?_
  refine go_p rfl rfl rfl (o_fieldAddr fi_40_0 rfl rfl rfl) ?_
  refine go_p rfl rfl rfl (o_load Try.isAgg3 rfl rfl) ?_
  refine go_p rfl rfl rfl (o_cmp rfl rfl rfl) ?_
  refine go_p rfl rfl rfl (o_move rfl) ?_
  apply go_or [(1, _), (2, _), (4, _), (5, _)] 4 21 (t := 17) ⟨rfl, rfl, rfl, rfl, trivial⟩ rfl
  · intro hg_1 hk1
    refine go_wantp rfl rfl rfl hg_1 rfl rfl (o_fieldAddr fi_40_0 rfl rfl rfl) ?_
    refine go_wantp rfl rfl rfl hg_1 rfl rfl (o_load Try.isAgg3 rfl rfl) ?_
    refine go_wantp rfl rfl rfl hg_1 rfl rfl (o_cmp rfl rfl rfl) ?_
    refine go_p rfl rfl rfl (o_pickF rfl hg_1 rfl) ?_
    exact go_meet hk1 (rfl) ⟨rfl, rfl, rfl, rfl, trivial⟩
  · intro hg_1 hk1
    refine go_skip rfl rfl rfl hg_1 rfl rfl ?_
    refine go_skip rfl rfl rfl hg_1 rfl rfl ?_
    refine go_skip rfl rfl rfl hg_1 rfl rfl ?_
    refine go_p rfl rfl rfl (o_pickT rfl hg_1 rfl) ?_
    exact go_meet hk1 (rfl) ⟨rfl, rfl, rfl, rfl, trivial⟩
  refine go_nil ?_
  obtain ⟨o_1, hj1, hm1⟩ := bind_some hm
  refine g_cut_m [(1, _), (4, _), (5, _)] [(2, _)] (fun (st : (Int × (List ApiField) × Int × Int × Int × Int × Int × (List UInt8) × (List UInt8) × Int)) (hid : (Option Addr × Nat)) => match st, hid with | (at1, l1, z1, z2, z3, z4, z5, z6, z7, z8), (a_r1, cap_r1) => [(6, .i64 at1)]) (fun F (st : (Int × (List ApiField) × Int × Int × Int × Int × Int × (List UInt8) × (List UInt8) × Int)) (hid : (Option Addr × Nat)) => match st, hid with | (at1, l1, z1, z2, z3, z4, z5, z6, z7, z8), (a_r1, cap_r1) => [row a_r1 cap_r1 102 3 ApiField.d l1, box b2 40 [.i64 z1, .i64 z2, .i64 z3, .i64 z4, .i64 z5, .str z6, .str z7, .v (.slice a_r1 l1.length cap_r1), .i64 z8], (nthF F 0)]) (fun st => st = o_1) ⟨rfl, rfl, rfl, trivial⟩ ⟨rfl, trivial⟩ ?_ ?_
  · skip
    refine g_cond rfl (fun hc1 => ?_) (fun hc1 => ?_)
    · replace hj1 := cond_t hc1 hj1
      refine g_seq ?_
      refine g_region ?_
      refine go_p rfl rfl rfl (o_move rfl) ?_
      refine go_p rfl rfl rfl (o_len Try.runUnderlying46 rfl) ?_
      refine go_p rfl rfl rfl (o_fieldAddr fi_40_7 rfl rfl rfl) ?_
      refine go_p rfl rfl rfl (o_load Try.isAgg38 rfl rfl) ?_
      refine go_p rfl rfl rfl (o_len Try.runUnderlying38 rfl) ?_
      obtain ⟨hg1, hj1⟩ := grd_some hj1
      refine go_p rfl rfl rfl (o_sub rfl rfl (i64_id hg1)) ?_
      refine go_p rfl rfl rfl (o_assign rfl) ?_
      refine go_nil ?_
      refine g_seq ?_
      refine g_region ?_
      refine go_p rfl rfl rfl (o_assign rfl) ?_
      refine go_nil ?_
      refine g_block ?_
      refine g_loop_m [(1, _), (2, _), (4, _), (5, _), (6, _)] [(2, _)] (fun (st : (Int × (List ApiField) × Int × Int × Int × Int × Int × (List UInt8) × (List UInt8) × Int)) (hid : (Option Addr × Nat)) => match st, hid with | (i1, l2, z9, z10, z11, z12, z13, z14, z15, z16), (a_r1, cap_r1) => [(7, .i64 i1)]) (fun F (st : (Int × (List ApiField) × Int × Int × Int × Int × Int × (List UInt8) × (List UInt8) × Int)) (hid : (Option Addr × Nat)) => match st, hid with | (i1, l2, z9, z10, z11, z12, z13, z14, z15, z16), (a_r1, cap_r1) => [row a_r1 cap_r1 102 3 ApiField.d l2, box b2 40 [.i64 z9, .i64 z10, .i64 z11, .i64 z12, .i64 z13, .str z14, .str z15, .v (.slice a_r1 l2.length cap_r1), .i64 z16], (nthF F 0)]) (_, _) hj1 (fun _ => rfl) ⟨rfl, rfl, rfl, rfl, rfl, trivial⟩ ⟨rfl, trivial⟩ ⟨rfl, trivial⟩ rfl ?_
      rintro n ⟨i1, l2, z9, z10, z11, z12, z13, z14, z15, z16⟩ ⟨a_r1, cap_r1⟩ hj1
      rw [m_syntagmaref05_with_l1] at hj1
      refine g_norm (L' := [(7, .i64 i1), (1, _), (2, _), (4, _), (5, _), (6, _)]) (ms' := [row a_r1 cap_r1 102 3 ApiField.d l2, box b2 40 [.i64 z9, .i64 z10, .i64 z11, .i64 z12, .i64 z13, .str z14, .str z15, .v (.slice a_r1 l2.length cap_r1), .i64 z16], _]) rfl rfl ?_
      refine g_seq ?_
      refine g_seq ?_
      refine g_region ?_
      refine go_p rfl rfl rfl (o_move rfl) ?_
      refine go_p rfl rfl rfl (o_fieldAddr fi_40_7 rfl rfl rfl) ?_
      refine go_p rfl rfl rfl (o_load Try.isAgg38 rfl rfl) ?_
      refine go_p rfl rfl rfl (o_len Try.runUnderlying38 rfl) ?_
      refine go_p rfl rfl rfl (o_cmp rfl rfl rfl) ?_
      refine go_nil ?_
      refine g_cond rfl (fun hc2 => ?_) (fun hc2 => ?_)
      · replace hj1 := cond_t hc2 hj1
        refine g_skip ?_
        refine g_seq ?_
        refine g_block ?_
        refine g_seq ?_
        refine g_region ?_
        refine go_p rfl rfl rfl (o_fieldAddr fi_40_7 rfl rfl rfl) ?_
        refine go_p rfl rfl rfl (o_load Try.isAgg38 rfl rfl) ?_
        refine go_p rfl rfl rfl (o_move rfl) ?_
        obtain ⟨x1, hx2, hj1⟩ := bind_some hj1
        refine go_p rfl rfl rfl (o_indexAddr_m Try.runUnderlying38 Try.sizeOf102 rfl rfl hx2) ?_
        refine go_p rfl rfl rfl (o_load_agg Try.isAgg102 Try.sizeOf102 rfl rfl) ?_
        refine go_op rfl rfl rfl (o_alloc_own Try.zeroValue102 (cs := [.str ([] : List UInt8), .str ([] : List UInt8), .i64 0]) rfl) ?_
        rintro _ _ ⟨b3, rfl, rfl⟩
        refine go_u rfl rfl (o_store_box 0 Try.sizeOf102 rfl rfl rfl rfl rfl rfl rfl rfl (Nat.le_of_ble_eq_true rfl)) ?_
        rintro _ _ rfl
        refine go_ms (ms' := [box b3 102 [_, _, _], _, box b2 40 [_, _, _, _, _, _, _, _, _], box b1 40 [_, _, _, _, _, _, _, _, _]]) rfl ?_
        refine go_nil ?_
        refine g_seq ?_
        refine g_region ?_
        refine go_p rfl rfl rfl (o_move rfl) ?_
        refine go_p rfl rfl rfl (o_move rfl) ?_
        refine go_p rfl rfl rfl (o_move rfl) ?_
        obtain ⟨hg3, hj1⟩ := grd_some hj1
        refine go_p rfl rfl rfl (o_add rfl rfl (i64_id hg3)) ?_
        obtain ⟨x2, hx4, hj1⟩ := bind_some hj1
        refine go_p rfl rfl rfl (o_indexAddr_m Try.runUnderlying46 Try.sizeOf3 rfl rfl hx4) ?_
        refine go_p rfl rfl rfl (o_load Try.isAgg3 rfl rfl) ?_
        refine go_p rfl rfl rfl (o_fieldAddr_box fi_102_2 rfl) ?_
        refine go_u rfl rfl (o_store_box 0 Try.sizeOf3 rfl rfl rfl rfl rfl rfl rfl rfl (Nat.le_of_ble_eq_true rfl)) ?_
        rintro _ _ rfl
        refine go_ms (ms' := [box b3 102 [_, _, _], _, box b2 40 [_, _, _, _, _, _, _, _, _], box b1 40 [_, _, _, _, _, _, _, _, _]]) rfl ?_
        refine go_nil ?_
        refine g_region ?_
        refine go_p rfl rfl rfl (o_fieldAddr_box fi_40_7 rfl) ?_
        refine go_p rfl rfl rfl (o_load_box 2 Try.isAgg38 rfl rfl rfl rfl) ?_
        refine go_p rfl rfl rfl (o_load_box_agg 0 Try.isAgg102 Try.sizeOf102 rfl rfl rfl rfl (Nat.le_of_ble_eq_true rfl)) ?_
        refine go_p rfl rfl rfl (o_buildSlice (xs := [_]) (f := ApiField.d) (l := [(⟨x1.name, x1.var, x2⟩ : ApiField)]) Try.runUnderlying38 Try.sizeOf102 Try.zeroValue102 rfl rfl rfl (fun _ => ⟨rfl, rfl, rfl⟩) rfl) ?_
        obtain ⟨hg5, hj1⟩ := grd_some hj1
        refine go_op rfl rfl rfl (o_append (a := _) 1 Try.underlying38 Try.type102 rfl rfl rfl rfl rfl rfl rfl (fun _ => rfl) (fun _ => rfl) hg5 (app_len hg5 rfl)) ?_
        rintro _ _ ⟨a_r1, cap_r1, rfl, rfl⟩
        refine go_ms (ms' := [box b3 102 [_, _, _], _, box b2 40 [_, _, _, _, _, _, _, _, _], box b1 40 [_, _, _, _, _, _, _, _, _]]) rfl ?_
        refine go_p rfl rfl rfl (o_fieldAddr_box fi_40_7 rfl) ?_
        refine go_u rfl rfl (o_store_box 2 Try.sizeOf38 rfl rfl rfl rfl rfl rfl rfl rfl (Nat.le_of_ble_eq_true rfl)) ?_
        rintro _ _ rfl
        refine go_ms (ms' := [box b3 102 [_, _, _], _, box b2 40 [_, _, _, _, _, _, _, _, _], box b1 40 [_, _, _, _, _, _, _, _, _]]) rfl ?_
        refine go_nil ?_
        refine g_region ?_
        refine go_p rfl rfl rfl (o_move rfl) ?_
        obtain ⟨hg6, hj1⟩ := grd_some hj1
        refine go_p rfl rfl rfl (o_add rfl rfl (i64_id hg6)) ?_
        refine go_p rfl rfl rfl (o_assign rfl) ?_
        refine go_nil ?_
        exact ⟨_, (_, _), hj1, ⟨rfl, trivial⟩, ⟨rfl, rfl, rfl, rfl, rfl, trivial⟩, [_], rfl⟩
      · replace hj1 := cond_f hc2 hj1
        refine g_exit ?_
        exact ⟨_, (_, _), some_eq hj1, ⟨rfl, trivial⟩, ⟨rfl, rfl, rfl, trivial⟩, [], rfl⟩
    · replace hj1 := cond_f hc1 hj1
      refine g_region ?_
      refine go_p rfl rfl rfl (o_move rfl) ?_
      refine go_p rfl rfl rfl (o_len Try.runUnderlying46 rfl) ?_
      refine go_p rfl rfl rfl (o_assign rfl) ?_
      refine go_nil ?_
      exact ⟨_, (_, _), some_eq hj1, ⟨rfl, trivial⟩, ⟨rfl, rfl, rfl, trivial⟩, [], rfl⟩
  · rintro ⟨at1, l1, z1, z2, z3, z4, z5, z6, z7, z8⟩ ⟨a_r1, cap_r1⟩ hst
    subst hst
    refine k_norm (L' := [(6, .i64 at1), (1, _), (4, _), (5, _)]) (ms' := [row a_r1 cap_r1 102 3 ApiField.d l1, box b2 40 [.i64 z1, .i64 z2, .i64 z3, .i64 z4, .i64 z5, .str z6, .str z7, .v (.slice a_r1 l1.length cap_r1), .i64 z8], _]) rfl rfl ?_
    refine g_seq ?_
    refine g_seq ?_
    refine g_region ?_
    refine go_p rfl rfl rfl (o_move rfl) ?_
    refine go_p rfl rfl rfl (o_cmp rfl rfl rfl) ?_
    refine go_nil ?_
    obtain ⟨o_2, hj2, hm2⟩ := bind_some hm1
    refine g_cut_m [(1, _), (4, _), (5, _), (6, _)] [(2, _)] (fun (st : ((List ApiField) × Int × Int × Int × Int × Int × (List UInt8) × (List UInt8) × Int)) (hid : (Option Addr × Nat)) => match st, hid with | (l3, z17, z18, z19, z20, z21, z22, z23, z24), (a_r1, cap_r1) => []) (fun F (st : ((List ApiField) × Int × Int × Int × Int × Int × (List UInt8) × (List UInt8) × Int)) (hid : (Option Addr × Nat)) => match st, hid with | (l3, z17, z18, z19, z20, z21, z22, z23, z24), (a_r1, cap_r1) => [row a_r1 cap_r1 102 3 ApiField.d l3, box b2 40 [.i64 z17, .i64 z18, .i64 z19, .i64 z20, .i64 z21, .str z22, .str z23, .v (.slice a_r1 l3.length cap_r1), .i64 z24], (nthF F 0)]) (fun st => st = o_2) ⟨rfl, rfl, rfl, rfl, trivial⟩ ⟨rfl, trivial⟩ ?_ ?_
    · skip
      refine g_cond rfl (fun hc3 => ?_) (fun hc3 => ?_)
      · replace hj2 := cond_t hc3 hj2
        refine g_region ?_
        refine go_p rfl rfl rfl (o_move rfl) ?_
        obtain ⟨x3, hx7, hj2⟩ := bind_some hj2
        refine go_p rfl rfl rfl (o_indexAddr_m Try.runUnderlying46 Try.sizeOf3 rfl rfl hx7) ?_
        refine go_p rfl rfl rfl (o_load Try.isAgg3 rfl rfl) ?_
        refine go_p rfl rfl rfl (o_fieldAddr_box fi_40_1 rfl) ?_
        refine go_u rfl rfl (o_store_box 1 Try.sizeOf3 rfl rfl rfl rfl rfl rfl rfl rfl (Nat.le_of_ble_eq_true rfl)) ?_
        rintro _ _ rfl
        refine go_ms (ms' := [_, box b2 40 [_, _, _, _, _, _, _, _, _], box b1 40 [_, _, _, _, _, _, _, _, _]]) rfl ?_
        refine go_nil ?_
        exact ⟨_, (_, _), some_eq hj2, trivial, ⟨rfl, rfl, rfl, rfl, trivial⟩, [], rfl⟩
      · replace hj2 := cond_f hc3 hj2
        refine g_skip ?_
        exact ⟨_, (_, _), some_eq hj2, trivial, ⟨rfl, rfl, rfl, rfl, trivial⟩, [], rfl⟩
    · rintro ⟨l3, z17, z18, z19, z20, z21, z22, z23, z24⟩ ⟨a_r1, cap_r1⟩ hst
      subst hst
      refine k_norm (L' := [(1, _), (4, _), (5, _), (6, _)]) (ms' := [row a_r1 cap_r1 102 3 ApiField.d l3, box b2 40 [.i64 z17, .i64 z18, .i64 z19, .i64 z20, .i64 z21, .str z22, .str z23, .v (.slice a_r1 l3.length cap_r1), .i64 z24], _]) rfl rfl ?_
      refine g_seq ?_
      refine g_seq ?_
      refine g_region ?_
      refine go_p rfl rfl rfl (o_move rfl) ?_
      refine go_p rfl rfl rfl (o_cmp rfl rfl rfl) ?_
      refine go_nil ?_
      obtain ⟨o_3, hj3, hm3⟩ := bind_some hm2
      refine g_cut_m [(1, _), (4, _), (5, _), (6, _)] [(2, _)] (fun (st : ((List ApiField) × Int × Int × Int × Int × Int × (List UInt8) × (List UInt8) × Int)) (hid : (Option Addr × Nat)) => match st, hid with | (l4, z25, z26, z27, z28, z29, z30, z31, z32), (a_r1, cap_r1) => []) (fun F (st : ((List ApiField) × Int × Int × Int × Int × Int × (List UInt8) × (List UInt8) × Int)) (hid : (Option Addr × Nat)) => match st, hid with | (l4, z25, z26, z27, z28, z29, z30, z31, z32), (a_r1, cap_r1) => [row a_r1 cap_r1 102 3 ApiField.d l4, box b2 40 [.i64 z25, .i64 z26, .i64 z27, .i64 z28, .i64 z29, .str z30, .str z31, .v (.slice a_r1 l4.length cap_r1), .i64 z32], (nthF F 0)]) (fun st => st = o_3) ⟨rfl, rfl, rfl, rfl, trivial⟩ ⟨rfl, trivial⟩ ?_ ?_
      · skip
        refine g_cond rfl (fun hc4 => ?_) (fun hc4 => ?_)
        · replace hj3 := cond_t hc4 hj3
          refine g_region ?_
          refine go_p rfl rfl rfl (o_move rfl) ?_
          obtain ⟨x4, hx8, hj3⟩ := bind_some hj3
          refine go_p rfl rfl rfl (o_indexAddr_m Try.runUnderlying46 Try.sizeOf3 rfl rfl hx8) ?_
          refine go_p rfl rfl rfl (o_load Try.isAgg3 rfl rfl) ?_
          refine go_p rfl rfl rfl (o_fieldAddr_box fi_40_2 rfl) ?_
          refine go_u rfl rfl (o_store_box 1 Try.sizeOf3 rfl rfl rfl rfl rfl rfl rfl rfl (Nat.le_of_ble_eq_true rfl)) ?_
          rintro _ _ rfl
          refine go_ms (ms' := [_, box b2 40 [_, _, _, _, _, _, _, _, _], box b1 40 [_, _, _, _, _, _, _, _, _]]) rfl ?_
          refine go_nil ?_
          exact ⟨_, (_, _), some_eq hj3, trivial, ⟨rfl, rfl, rfl, rfl, trivial⟩, [], rfl⟩
        · replace hj3 := cond_f hc4 hj3
          refine g_skip ?_
          exact ⟨_, (_, _), some_eq hj3, trivial, ⟨rfl, rfl, rfl, rfl, trivial⟩, [], rfl⟩
      · rintro ⟨l4, z25, z26, z27, z28, z29, z30, z31, z32⟩ ⟨a_r1, cap_r1⟩ hst
        subst hst
        refine k_norm (L' := [(1, _), (4, _), (5, _), (6, _)]) (ms' := [row a_r1 cap_r1 102 3 ApiField.d l4, box b2 40 [.i64 z25, .i64 z26, .i64 z27, .i64 z28, .i64 z29, .str z30, .str z31, .v (.slice a_r1 l4.length cap_r1), .i64 z32], _]) rfl rfl ?_
        refine g_seq ?_
        refine g_seq ?_
        refine g_region ?_
        refine go_p rfl rfl rfl (o_move rfl) ?_
        refine go_p rfl rfl rfl (o_cmp rfl rfl rfl) ?_
        refine go_nil ?_
        refine g_cond rfl (fun hc5 => ?_) (fun hc5 => ?_)
        · replace hm3 := cond_t hc5 hm3
          refine g_region ?_
          refine go_p rfl rfl rfl (o_move rfl) ?_
          obtain ⟨x5, hx9, hm3⟩ := bind_some hm3
          refine go_p rfl rfl rfl (o_indexAddr_m Try.runUnderlying46 Try.sizeOf3 rfl rfl hx9) ?_
          refine go_p rfl rfl rfl (o_load Try.isAgg3 rfl rfl) ?_
          refine go_p rfl rfl rfl (o_fieldAddr_box fi_40_3 rfl) ?_
          refine go_u rfl rfl (o_store_box 1 Try.sizeOf3 rfl rfl rfl rfl rfl rfl rfl rfl (Nat.le_of_ble_eq_true rfl)) ?_
          rintro _ _ rfl
          refine go_ms (ms' := [_, box b2 40 [_, _, _, _, _, _, _, _, _], box b1 40 [_, _, _, _, _, _, _, _, _]]) rfl ?_
          refine go_nil ?_
          refine g_seq ?_
          refine g_region ?_
          refine go_p rfl rfl rfl (o_load_box_agg 1 Try.isAgg40 Try.sizeOf40 rfl rfl rfl rfl (Nat.le_of_ble_eq_true rfl)) ?_
          refine go_conv (peekAggE (i := 73) (q := 7) 0 rfl rfl rfl rfl rfl).refines ?_
          refine go_u rfl rfl (o_store_box 2 Try.sizeOf40 rfl rfl rfl rfl rfl rfl rfl rfl (Nat.le_of_ble_eq_true rfl)) ?_
          rintro _ _ rfl
          refine go_ms (ms' := [_, box b2 40 [_, _, _, _, _, _, _, _, _], box b1 40 [_, _, _, _, _, _, _, _, _]]) rfl ?_
          refine go_nil ?_
          refine g_ret ?_
          exact retK (ret_one' rfl (ret_cell 2 rfl rfl rfl Try.isAgg40 Try.sizeOf40 rfl) (perm_drop _)) (congrArg (fun (p : ApiNode) => (ApiNode.d p : D)) (some_eq hm3))
        · replace hm3 := cond_f hc5 hm3
          refine g_skip ?_
          refine g_seq ?_
          refine g_region ?_
          refine go_p rfl rfl rfl (o_load_box_agg 1 Try.isAgg40 Try.sizeOf40 rfl rfl rfl rfl (Nat.le_of_ble_eq_true rfl)) ?_
          refine go_conv (peekAggE (i := 73) (q := 7) 0 rfl rfl rfl rfl rfl).refines ?_
          refine go_u rfl rfl (o_store_box 2 Try.sizeOf40 rfl rfl rfl rfl rfl rfl rfl rfl (Nat.le_of_ble_eq_true rfl)) ?_
          rintro _ _ rfl
          refine go_ms (ms' := [_, box b2 40 [_, _, _, _, _, _, _, _, _], box b1 40 [_, _, _, _, _, _, _, _, _]]) rfl ?_
          refine go_nil ?_
          refine g_ret ?_
          exact retK (ret_one' rfl (ret_cell 2 rfl rfl rfl Try.isAgg40 Try.sizeOf40 rfl) (perm_drop _)) (congrArg (fun (p : ApiNode) => (ApiNode.d p : D)) (some_eq hm3))
def m_syntagmaref05_Join_l3 (l5 : (List ApiNode)) (x4 : (List Int)) : Nat → (Int × (List Int)) → Option (List Int)
  | 0, _ => none
  | n + 1, (x5, l9) =>
    bif (decide (x5 < (x4.length : Int))) then
      (idx x4 x5).bind fun x6 =>
      grd (InR (x6 + (l5.length : Int))) <|
      grd ((l9.length + ([(x6 + (l5.length : Int))] : List _).length) * 8 ≤ 140737488355328) <|
      grd (InR (x5 + 1)) <|
      m_syntagmaref05_Join_l3 l5 x4 n ((x5 + 1), (l9 ++ [(x6 + (l5.length : Int))]))
    else
      some l9
def m_syntagmaref05_Join_l2 (l1 : (List ApiExpr)) (i1 : Int) (l5 : (List ApiNode)) : Nat → (Int × (List ApiNode)) → Option (List ApiNode)
  | 0, _ => none
  | n + 1, (j1, l7) =>
    (idx l1 i1).bind fun x1 =>
    bif (decide (j1 < (x1.l.length : Int))) then
      (idx l1 i1).bind fun x2 =>
      (idx x2.l j1).bind fun x3 =>
      (m_syntagmaref05_Kids x3).bind fun x4 =>
      (m_syntagmaref05_Join_l3 l5 x4 FU (0, []) : Option (List Int)).bind fun l8 =>
      (idx l1 i1).bind fun x7 =>
      (idx x7.l j1).bind fun x8 =>
      (m_syntagmaref05_with x8 l8).bind fun x9 =>
      grd ((l7.length + ([x9] : List _).length) * 104 ≤ 140737488355328) <|
      grd (InR (j1 + 1)) <|
      m_syntagmaref05_Join_l2 l1 i1 l5 n ((j1 + 1), (l7 ++ [x9]))
    else
      some l7
def m_syntagmaref05_Join_l1 (l1 : (List ApiExpr)) : Nat → (Int × (List Int) × (List ApiNode)) → Option ((List Int) × (List ApiNode))
  | 0, _ => none
  | n + 1, (i1, l4, l5) =>
    bif (decide (i1 < (l1.length : Int))) then
      (m_syntagmaref05_Join_l2 l1 i1 l5 FU (0, l5) : Option (List ApiNode)).bind fun l6 =>
      grd (InR ((l6.length : Int) - 1)) <|
      grd ((l4.length + ([((l6.length : Int) - 1)] : List _).length) * 8 ≤ 140737488355328) <|
      grd (InR (i1 + 1)) <|
      m_syntagmaref05_Join_l1 l1 n ((i1 + 1), (l4 ++ [((l6.length : Int) - 1)]), l6)
    else
      some (l4, l5)
def m_syntagmaref05_Join (n1 : ApiNode) (l1 : (List ApiExpr)) : Option ApiExpr :=
  (m_syntagmaref05_Join_l1 l1 FU (0, [], []) : Option ((List Int) × (List ApiNode))).bind fun (l2, l3) =>
  (m_syntagmaref05_with n1 l2).bind fun x10 =>
  grd ((l3.length + ([x10] : List _).length) * 104 ≤ 140737488355328) <|
  some (⟨(l3 ++ [x10])⟩ : ApiExpr)
theorem w_syntagmaref05_Join {n1 : ApiNode} {l1 : (List ApiExpr)} {r_1 : ApiExpr} (hm : m_syntagmaref05_Join n1 l1 = some r_1) : Fn0 Try.prog 36 [ApiNode.d n1, .list 1 ApiExpr.d l1] (ApiExpr.d r_1) := by
  unfold m_syntagmaref05_Join at hm
  refine fn_intro Try.func36 rfl Try.ntmps36 rfl fun H0 fr w0 => ?_
  refine g_seq ?_
  refine g_region ?_
  refine go_p rfl rfl rfl (o_box rfl rfl) ?_
  refine go_op rfl rfl rfl (o_alloc_own Try.zeroValue37 (cs := [.list 9 ApiNode.d []]) rfl) ?_
  rintro _ _ ⟨b1, rfl, rfl⟩
  refine go_nil ?_
  refine g_seq ?_
  refine g_region ?_
  refine go_op rfl rfl rfl (o_buildSlice_row (xs := []) (f := ApiNode.d) (l := []) Try.runUnderlying35 Try.sizeOf40 Try.zeroValue40 rfl rfl rfl (fun _ => ⟨rfl, rfl, rfl⟩) rfl (by simp [maxLen])) ?_
  rintro _ _ ⟨a_r1, rfl, rfl⟩
  refine go_op rfl rfl rfl (o_buildSlice_row (xs := []) (f := D.i64) (l := []) Try.runUnderlying46 Try.sizeOf3 Try.zeroValue3 rfl rfl rfl (fun _ => ⟨rfl, rfl, rfl⟩) rfl (by simp [maxLen])) ?_
  rintro _ _ ⟨a_r2, rfl, rfl⟩
  refine go_p rfl rfl rfl (o_assign rfl) ?_
  refine go_p rfl rfl rfl (o_assign rfl) ?_
  refine go_nil ?_
  refine g_seq ?_
  refine g_seq ?_
  refine g_region ?_
  refine go_p rfl rfl rfl (o_assign rfl) ?_
  refine go_nil ?_
  obtain ⟨o_1, hj1, hm1⟩ := bind_some hm
  refine g_cut_m [(2, _), (4, _)] [(2, _)] (fun (st : ((List Int) × (List ApiNode))) (hid : (Option Addr × Nat) × (Option Addr × Nat)) => match st, hid with | (l2, l3), ((a_r2, cap_r2), (a_r1, cap_r1)) => [(5, .v (.slice a_r1 l3.length cap_r1)), (6, .v (.slice a_r2 l2.length cap_r2))]) (fun F (st : ((List Int) × (List ApiNode))) (hid : (Option Addr × Nat) × (Option Addr × Nat)) => match st, hid with | (l2, l3), ((a_r2, cap_r2), (a_r1, cap_r1)) => [row a_r2 cap_r2 3 1 D.i64 l2, row a_r1 cap_r1 40 9 ApiNode.d l3, (nthF F 0)]) (fun st => st = o_1) ⟨rfl, rfl, trivial⟩ ⟨rfl, trivial⟩ ?_ ?_
  · skip
    refine g_block ?_
    refine g_loop_m [(1, _), (2, _), (4, _)] [(2, _)] (fun (st : (Int × (List Int) × (List ApiNode))) (hid : (Option Addr × Nat) × (Option Addr × Nat)) => match st, hid with | (i1, l4, l5), ((a_r2, cap_r2), (a_r1, cap_r1)) => [(5, .v (.slice a_r1 l5.length cap_r1)), (6, .v (.slice a_r2 l4.length cap_r2)), (7, .i64 i1)]) (fun F (st : (Int × (List Int) × (List ApiNode))) (hid : (Option Addr × Nat) × (Option Addr × Nat)) => match st, hid with | (i1, l4, l5), ((a_r2, cap_r2), (a_r1, cap_r1)) => [row a_r2 cap_r2 3 1 D.i64 l4, row a_r1 cap_r1 40 9 ApiNode.d l5, (nthF F 0)]) ((_, _), (_, _)) hj1 (fun _ => rfl) ⟨rfl, rfl, rfl, trivial⟩ ⟨rfl, trivial⟩ ⟨rfl, rfl, rfl, trivial⟩ rfl ?_
    rintro n ⟨i1, l4, l5⟩ ⟨⟨a_r2, cap_r2⟩, ⟨a_r1, cap_r1⟩⟩ hj1
    rw [m_syntagmaref05_Join_l1] at hj1
    refine g_norm (L' := [(5, .v (.slice a_r1 l5.length cap_r1)), (6, .v (.slice a_r2 l4.length cap_r2)), (7, .i64 i1), (1, _), (2, _), (4, _)]) (ms' := [row a_r2 cap_r2 3 1 D.i64 l4, row a_r1 cap_r1 40 9 ApiNode.d l5, _]) rfl rfl ?_
    refine g_seq ?_
    refine g_seq ?_
    refine g_region ?_
    refine go_p rfl rfl rfl (o_move rfl) ?_
    refine go_p rfl rfl rfl (o_move rfl) ?_
    refine go_p rfl rfl rfl (o_len Try.runUnderlying49 rfl) ?_
    refine go_p rfl rfl rfl (o_cmp rfl rfl rfl) ?_
    refine go_nil ?_
    refine g_cond rfl (fun hc1 => ?_) (fun hc1 => ?_)
    · replace hj1 := cond_t hc1 hj1
      refine g_skip ?_
      refine g_seq ?_
      refine g_block ?_
      refine g_seq ?_
      refine g_region ?_
      refine go_p rfl rfl rfl (o_move rfl) ?_
      refine go_p rfl rfl rfl (.view (peekE (i := 21) 1 rfl rfl rfl) (o_len Try.runUnderlying35 rfl)) ?_
      refine go_p rfl rfl rfl (o_assign rfl) ?_
      refine go_nil ?_
      refine g_seq ?_
      refine g_seq ?_
      refine g_region ?_
      refine go_p rfl rfl rfl (o_assign rfl) ?_
      refine go_nil ?_
      obtain ⟨o_2, hj2, hm2⟩ := bind_some hj1
      refine g_cut_m [(1, _), (2, _), (4, _), (6, _), (7, _)] [(0, _), (2, _)] (fun (st : (List ApiNode)) (hid : (Option Addr × Nat)) => match st, hid with | l6, (a_r1, cap_r1) => [(5, .v (.slice a_r1 l6.length cap_r1))]) (fun F (st : (List ApiNode)) (hid : (Option Addr × Nat)) => match st, hid with | l6, (a_r1, cap_r1) => [(nthF F 0), row a_r1 cap_r1 40 9 ApiNode.d l6, (nthF F 1)]) (fun st => st = o_2) ⟨rfl, rfl, rfl, rfl, rfl, trivial⟩ ⟨rfl, rfl, trivial⟩ ?_ ?_
      · skip
        refine g_block ?_
        refine g_loop_m [(1, _), (2, _), (4, _), (6, _), (7, _), (8, _)] [(0, _), (2, _)] (fun (st : (Int × (List ApiNode))) (hid : (Option Addr × Nat)) => match st, hid with | (j1, l7), (a_r1, cap_r1) => [(5, .v (.slice a_r1 l7.length cap_r1)), (9, .i64 j1)]) (fun F (st : (Int × (List ApiNode))) (hid : (Option Addr × Nat)) => match st, hid with | (j1, l7), (a_r1, cap_r1) => [(nthF F 0), row a_r1 cap_r1 40 9 ApiNode.d l7, (nthF F 1)]) (_, _) hj2 (fun _ => rfl) ⟨rfl, rfl, rfl, rfl, rfl, rfl, trivial⟩ ⟨rfl, rfl, trivial⟩ ⟨rfl, rfl, trivial⟩ rfl ?_
        rintro n ⟨j1, l7⟩ ⟨a_r1, cap_r1⟩ hj2
        rw [m_syntagmaref05_Join_l2] at hj2
        refine g_norm (L' := [(5, .v (.slice a_r1 l7.length cap_r1)), (9, .i64 j1), (1, _), (2, _), (4, _), (6, _), (7, _), (8, _)]) (ms' := [_, row a_r1 cap_r1 40 9 ApiNode.d l7, _]) rfl rfl ?_
        refine g_seq ?_
        refine g_seq ?_
        refine g_region ?_
        refine go_p rfl rfl rfl (o_move rfl) ?_
        refine go_p rfl rfl rfl (o_move rfl) ?_
        refine go_p rfl rfl rfl (o_move rfl) ?_
        obtain ⟨x1, hx1, hj2⟩ := bind_some hj2
        refine go_p rfl rfl rfl (o_indexAddr_m Try.runUnderlying49 Try.sizeOf37 rfl rfl hx1) ?_
        refine go_p rfl rfl rfl (o_fieldAddr fi_37_0 rfl rfl rfl) ?_
        refine go_p rfl rfl rfl (o_load Try.isAgg35 rfl rfl) ?_
        refine go_p rfl rfl rfl (o_len Try.runUnderlying35 rfl) ?_
        refine go_p rfl rfl rfl (o_cmp rfl rfl rfl) ?_
        refine go_nil ?_
        refine g_cond rfl (fun hc2 => ?_) (fun hc2 => ?_)
        · replace hj2 := cond_t hc2 hj2
          refine g_skip ?_
          refine g_seq ?_
          refine g_block ?_
          refine g_seq ?_
          refine g_region ?_
          refine go_p rfl rfl rfl (o_move rfl) ?_
          refine go_p rfl rfl rfl (o_move rfl) ?_
          obtain ⟨x2, hx2, hj2⟩ := bind_some hj2
          refine go_p rfl rfl rfl (o_indexAddr_m Try.runUnderlying49 Try.sizeOf37 rfl rfl hx2) ?_
          refine go_p rfl rfl rfl (o_fieldAddr fi_37_0 rfl rfl rfl) ?_
          refine go_p rfl rfl rfl (o_load Try.isAgg35 rfl rfl) ?_
          refine go_p rfl rfl rfl (o_move rfl) ?_
          obtain ⟨x3, hx3, hj2⟩ := bind_some hj2
          refine go_p rfl rfl rfl (o_indexAddr_m Try.runUnderlying35 Try.sizeOf40 rfl rfl hx3) ?_
          refine go_p rfl rfl rfl (o_load_agg Try.isAgg40 Try.sizeOf40 rfl rfl) ?_
          obtain ⟨x4, hx4, hj2⟩ := bind_some hj2
          refine go_p rfl rfl rfl (o_call0 Try.call32 rfl (w_syntagmaref05_Kids hx4)) ?_
          refine go_op rfl rfl rfl (o_buildSlice_row (xs := []) (f := D.i64) (l := []) Try.runUnderlying46 Try.sizeOf3 Try.zeroValue3 rfl rfl rfl (fun _ => ⟨rfl, rfl, rfl⟩) rfl (by simp [maxLen])) ?_
          rintro _ _ ⟨a_r3, rfl, rfl⟩
          refine go_p rfl rfl rfl (o_assign rfl) ?_
          refine go_p rfl rfl rfl (o_assign rfl) ?_
          refine go_nil ?_
          refine g_seq ?_
          refine g_seq ?_
          refine g_region ?_
          refine go_p rfl rfl rfl (o_assign rfl) ?_
          refine go_nil ?_
          obtain ⟨o_3, hj3, hm3⟩ := bind_some hj2
          refine g_cut_m [(1, _), (2, _), (4, _), (5, _), (6, _), (7, _), (8, _), (9, _)] [(1, _), (2, _), (3, _)] (fun (st : (List Int)) (hid : (Option Addr × Nat)) => match st, hid with | l8, (a_r3, cap_r3) => [(11, .v (.slice a_r3 l8.length cap_r3))]) (fun F (st : (List Int)) (hid : (Option Addr × Nat)) => match st, hid with | l8, (a_r3, cap_r3) => [row a_r3 cap_r3 3 1 D.i64 l8, (nthF F 0), (nthF F 1), (nthF F 2)]) (fun st => st = o_3) ⟨rfl, rfl, rfl, rfl, rfl, rfl, rfl, rfl, trivial⟩ ⟨rfl, rfl, rfl, trivial⟩ ?_ ?_
          · skip
            refine g_block ?_
            refine g_loop_m [(1, _), (2, _), (4, _), (5, _), (6, _), (7, _), (8, _), (9, _), (10, _)] [(1, _), (2, _), (3, _)] (fun (st : (Int × (List Int))) (hid : (Option Addr × Nat)) => match st, hid with | (x5, l9), (a_r3, cap_r3) => [(11, .v (.slice a_r3 l9.length cap_r3)), (12, .i64 x5)]) (fun F (st : (Int × (List Int))) (hid : (Option Addr × Nat)) => match st, hid with | (x5, l9), (a_r3, cap_r3) => [row a_r3 cap_r3 3 1 D.i64 l9, (nthF F 0), (nthF F 1), (nthF F 2)]) (_, _) hj3 (fun _ => rfl) ⟨rfl, rfl, rfl, rfl, rfl, rfl, rfl, rfl, rfl, trivial⟩ ⟨rfl, rfl, rfl, trivial⟩ ⟨rfl, rfl, trivial⟩ rfl ?_
            rintro n ⟨x5, l9⟩ ⟨a_r3, cap_r3⟩ hj3
            rw [m_syntagmaref05_Join_l3] at hj3
            refine g_norm (L' := [(11, .v (.slice a_r3 l9.length cap_r3)), (12, .i64 x5), (1, _), (2, _), (4, _), (5, _), (6, _), (7, _), (8, _), (9, _), (10, _)]) (ms' := [row a_r3 cap_r3 3 1 D.i64 l9, _, _, _]) rfl rfl ?_
            refine g_seq ?_
            refine g_seq ?_
            refine g_region ?_
            refine go_p rfl rfl rfl (o_move rfl) ?_
            refine go_p rfl rfl rfl (o_move rfl) ?_
            refine go_p rfl rfl rfl (o_len Try.runUnderlying46 rfl) ?_
            refine go_p rfl rfl rfl (o_cmp rfl rfl rfl) ?_
            refine go_nil ?_
            refine g_cond rfl (fun hc3 => ?_) (fun hc3 => ?_)
            · replace hj3 := cond_t hc3 hj3
              refine g_skip ?_
              refine g_seq ?_
              refine g_block ?_
              refine g_region ?_
              refine go_p rfl rfl rfl (o_move rfl) ?_
              refine go_p rfl rfl rfl (o_move rfl) ?_
              refine go_p rfl rfl rfl (o_move rfl) ?_
              obtain ⟨x6, hx5, hj3⟩ := bind_some hj3
              refine go_p rfl rfl rfl (o_indexAddr_m Try.runUnderlying46 Try.sizeOf3 rfl rfl hx5) ?_
              refine go_p rfl rfl rfl (o_load Try.isAgg3 rfl rfl) ?_
              refine go_p rfl rfl rfl (o_move rfl) ?_
              obtain ⟨hg6, hj3⟩ := grd_some hj3
              refine go_p rfl rfl rfl (o_add rfl rfl (i64_id hg6)) ?_
              refine go_p rfl rfl rfl (o_buildSlice (xs := [_]) (f := D.i64) (l := [_]) Try.runUnderlying46 Try.sizeOf3 Try.zeroValue3 rfl rfl rfl (fun _ => ⟨rfl, rfl, rfl⟩) rfl) ?_
              obtain ⟨hg7, hj3⟩ := grd_some hj3
              refine go_op rfl rfl rfl (o_append (a := _) 0 Try.underlying46 Try.type3 rfl rfl rfl rfl rfl rfl rfl (fun _ => rfl) (fun _ => rfl) hg7 (app_len hg7 rfl)) ?_
              rintro _ _ ⟨a_r3, cap_r3, rfl, rfl⟩
              refine go_ms (ms' := [_, _, _, box b1 37 [_]]) rfl ?_
              refine go_p rfl rfl rfl (o_assign rfl) ?_
              refine go_nil ?_
              refine g_region ?_
              refine go_p rfl rfl rfl (o_move rfl) ?_
              obtain ⟨hg8, hj3⟩ := grd_some hj3
              refine go_p rfl rfl rfl (o_add rfl rfl (i64_id hg8)) ?_
              refine go_p rfl rfl rfl (o_assign rfl) ?_
              refine go_nil ?_
              exact ⟨_, (_, _), hj3, ⟨rfl, rfl, trivial⟩, ⟨rfl, rfl, rfl, rfl, rfl, rfl, rfl, rfl, rfl, trivial⟩, [], rfl⟩
            · replace hj3 := cond_f hc3 hj3
              refine g_exit ?_
              exact ⟨_, (_, _), some_eq hj3, ⟨rfl, trivial⟩, ⟨rfl, rfl, rfl, rfl, rfl, rfl, rfl, rfl, trivial⟩, [], rfl⟩
          · rintro l8 ⟨a_r3, cap_r3⟩ hst
            subst hst
            refine k_norm (L' := [(11, .v (.slice a_r3 l8.length cap_r3)), (1, _), (2, _), (4, _), (5, _), (6, _), (7, _), (8, _), (9, _)]) (ms' := [row a_r3 cap_r3 3 1 D.i64 l8, _, _, _]) rfl rfl ?_
            refine g_region ?_
            refine go_p rfl rfl rfl (o_move rfl) ?_
            refine go_p rfl rfl rfl (o_move rfl) ?_
            refine go_p rfl rfl rfl (o_move rfl) ?_
            obtain ⟨x7, hx9, hm3⟩ := bind_some hm3
            refine go_p rfl rfl rfl (o_indexAddr_m Try.runUnderlying49 Try.sizeOf37 rfl rfl hx9) ?_
            refine go_p rfl rfl rfl (o_fieldAddr fi_37_0 rfl rfl rfl) ?_
            refine go_p rfl rfl rfl (o_load Try.isAgg35 rfl rfl) ?_
            refine go_p rfl rfl rfl (o_move rfl) ?_
            obtain ⟨x8, hx10, hm3⟩ := bind_some hm3
            refine go_p rfl rfl rfl (o_indexAddr_m Try.runUnderlying35 Try.sizeOf40 rfl rfl hx10) ?_
            refine go_p rfl rfl rfl (o_load_agg Try.isAgg40 Try.sizeOf40 rfl rfl) ?_
            refine go_p rfl rfl rfl (o_move rfl) ?_
            obtain ⟨x9, hx11, hm3⟩ := bind_some hm3
            refine go_p rfl rfl rfl (.view (peekE (i := 67) 0 rfl rfl rfl) (o_call0 Try.call79 rfl (w_syntagmaref05_with hx11))) ?_
            refine go_p rfl rfl rfl (o_buildSlice (xs := [_]) (f := ApiNode.d) (l := [_]) Try.runUnderlying35 Try.sizeOf40 Try.zeroValue40 rfl rfl rfl (fun _ => ⟨rfl, rfl, rfl⟩) rfl) ?_
            obtain ⟨hg12, hm3⟩ := grd_some hm3
            refine go_op rfl rfl rfl (o_append (a := _) 2 Try.underlying35 Try.type40 rfl rfl rfl rfl rfl rfl rfl (fun _ => rfl) (fun _ => rfl) hg12 (app_len hg12 rfl)) ?_
            rintro _ _ ⟨a_r1, cap_r1, rfl, rfl⟩
            refine go_ms (ms' := [_, _, _, box b1 37 [_]]) rfl ?_
            refine go_p rfl rfl rfl (o_assign rfl) ?_
            refine go_nil ?_
            refine g_region ?_
            refine go_p rfl rfl rfl (o_move rfl) ?_
            obtain ⟨hg13, hm3⟩ := grd_some hm3
            refine go_p rfl rfl rfl (o_add rfl rfl (i64_id hg13)) ?_
            refine go_p rfl rfl rfl (o_assign rfl) ?_
            refine go_nil ?_
            exact ⟨_, (_, _), hm3, ⟨rfl, rfl, trivial⟩, ⟨rfl, rfl, rfl, rfl, rfl, rfl, trivial⟩, [_], rfl⟩
        · replace hj2 := cond_f hc2 hj2
          refine g_exit ?_
          exact ⟨_, (_, _), some_eq hj2, ⟨rfl, trivial⟩, ⟨rfl, rfl, rfl, rfl, rfl, trivial⟩, [], rfl⟩
      · rintro l6 ⟨a_r1, cap_r1⟩ hst
        subst hst
        refine k_norm (L' := [(5, .v (.slice a_r1 l6.length cap_r1)), (1, _), (2, _), (4, _), (6, _), (7, _)]) (ms' := [_, row a_r1 cap_r1 40 9 ApiNode.d l6, _]) rfl rfl ?_
        refine g_region ?_
        refine go_p rfl rfl rfl (o_move rfl) ?_
        refine go_p rfl rfl rfl (o_move rfl) ?_
        refine go_p rfl rfl rfl (.view (peekE (i := 72) 1 rfl rfl rfl) (o_len Try.runUnderlying35 rfl)) ?_
        obtain ⟨hg14, hm2⟩ := grd_some hm2
        refine go_p rfl rfl rfl (o_sub rfl rfl (i64_id hg14)) ?_
        refine go_p rfl rfl rfl (o_buildSlice (xs := [_]) (f := D.i64) (l := [_]) Try.runUnderlying46 Try.sizeOf3 Try.zeroValue3 rfl rfl rfl (fun _ => ⟨rfl, rfl, rfl⟩) rfl) ?_
        obtain ⟨hg15, hm2⟩ := grd_some hm2
        refine go_op rfl rfl rfl (o_append (a := _) 0 Try.underlying46 Try.type3 rfl rfl rfl rfl rfl rfl rfl (fun _ => rfl) (fun _ => rfl) hg15 (app_len hg15 rfl)) ?_
        rintro _ _ ⟨a_r2, cap_r2, rfl, rfl⟩
        refine go_ms (ms' := [_, _, box b1 37 [_]]) rfl ?_
        refine go_p rfl rfl rfl (o_assign rfl) ?_
        refine go_nil ?_
        refine g_region ?_
        refine go_p rfl rfl rfl (o_move rfl) ?_
        obtain ⟨hg16, hm2⟩ := grd_some hm2
        refine go_p rfl rfl rfl (o_add rfl rfl (i64_id hg16)) ?_
        refine go_p rfl rfl rfl (o_assign rfl) ?_
        refine go_nil ?_
        exact ⟨_, ((_, _), (_, _)), hm2, ⟨rfl, rfl, rfl, trivial⟩, ⟨rfl, rfl, rfl, trivial⟩, [], rfl⟩
    · replace hj1 := cond_f hc1 hj1
      refine g_exit ?_
      exact ⟨_, ((_, _), (_, _)), some_eq hj1, ⟨rfl, rfl, trivial⟩, ⟨rfl, rfl, trivial⟩, [], rfl⟩
  · rintro ⟨l2, l3⟩ ⟨⟨a_r2, cap_r2⟩, ⟨a_r1, cap_r1⟩⟩ hst
    subst hst
    refine k_norm (L' := [(5, .v (.slice a_r1 l3.length cap_r1)), (6, .v (.slice a_r2 l2.length cap_r2)), (2, _), (4, _)]) (ms' := [row a_r2 cap_r2 3 1 D.i64 l2, row a_r1 cap_r1 40 9 ApiNode.d l3, _]) rfl rfl ?_
    refine g_seq ?_
    refine g_region ?_
    refine go_p rfl rfl rfl (o_move rfl) ?_
    refine go_p rfl rfl rfl (o_load_agg Try.isAgg40 Try.sizeOf40 rfl rfl) ?_
    refine go_p rfl rfl rfl (o_move rfl) ?_
    obtain ⟨x10, hx17, hm1⟩ := bind_some hm1
    refine go_p rfl rfl rfl (.view (peekE (i := 79) 0 rfl rfl rfl) (o_call0 Try.call79 rfl (w_syntagmaref05_with hx17))) ?_
    refine go_p rfl rfl rfl (o_buildSlice (xs := [_]) (f := ApiNode.d) (l := [_]) Try.runUnderlying35 Try.sizeOf40 Try.zeroValue40 rfl rfl rfl (fun _ => ⟨rfl, rfl, rfl⟩) rfl) ?_
    obtain ⟨hg18, hm1⟩ := grd_some hm1
    refine go_op rfl rfl rfl (o_append (a := _) 1 Try.underlying35 Try.type40 rfl rfl rfl rfl rfl rfl rfl (fun _ => rfl) (fun _ => rfl) hg18 (app_len hg18 rfl)) ?_
    rintro _ _ ⟨a_r1, cap_r1, rfl, rfl⟩
    refine go_ms (ms' := [_, _, box b1 37 [_]]) rfl ?_
    refine go_p rfl rfl rfl (.view (peekE (i := 82) 1 rfl rfl rfl) (o_build (zs := [.list 9 ApiNode.d []]) Try.runUnderlying37 Try.zeroValue37 (pl_37 _ Try.runUnderlying37) rfl rfl rfl rfl)) ?_
    refine go_u rfl rfl (o_store_box 2 Try.sizeOf37 rfl rfl rfl rfl rfl rfl rfl rfl (Nat.le_of_ble_eq_true rfl)) ?_
    rintro _ _ rfl
    refine go_ms (ms' := [_, _, box b1 37 [_]]) rfl ?_
    refine go_nil ?_
    refine g_ret ?_
    exact retK (ret_one' rfl (ret_cell 2 rfl rfl rfl Try.isAgg37 Try.sizeOf37 rfl) (perm_drop _)) (congrArg (fun (p : ApiExpr) => (ApiExpr.d p : D)) (some_eq hm1))
def m_tree_Sub (e1 : ApiExpr) (i1 : Int) : Option (ApiExpr × Int) :=
  (m_tree_May e1).bind fun x1 =>
  bif (!decide (x1 = 0)) then
    some ((⟨([] : List ApiNode)⟩ : ApiExpr), x1)
  else
    bif ((decide (i1 < 0)) || (decide ((e1.l.length : Int) ≤ i1))) then
      some ((⟨([] : List ApiNode)⟩ : ApiExpr), 3)
    else
      (m_tree_sub e1 i1).bind fun x2 =>
      some ((⟨x2.l⟩ : ApiExpr), 0)
theorem w_tree_Sub {e1 : ApiExpr} {i1 : Int} {r_1 : ApiExpr} {r_2 : Int} (hm : m_tree_Sub e1 i1 = some (r_1, r_2)) : Fn0 Try.prog 38 [ApiExpr.d e1, .i64 i1] (.tup [ApiExpr.d r_1, .i64 r_2]) := by
  unfold m_tree_Sub at hm
  refine fn_intro Try.func38 rfl Try.ntmps38 rfl fun H0 fr w0 => ?_
  refine g_seq ?_
  refine g_region ?_
  refine go_p rfl rfl rfl (o_box rfl rfl) ?_
  refine go_op rfl rfl rfl (o_alloc_own Try.zeroValue37 (cs := [.list 9 ApiNode.d []]) rfl) ?_
  rintro _ _ ⟨b1, rfl, rfl⟩
  refine go_p rfl rfl rfl (o_assign rfl) ?_
  refine go_nil ?_
  refine g_seq ?_
  refine g_seq ?_
  refine g_region ?_
  refine go_p rfl rfl rfl (o_load_agg Try.isAgg37 Try.sizeOf37 rfl rfl) ?_
  obtain ⟨x1, hx1, hm⟩ := bind_some hm
  refine go_p rfl rfl rfl (o_call0 Try.call28 rfl (w_tree_May hx1)) ?_
  refine go_p rfl rfl rfl (o_assign rfl) ?_
  refine go_nil ?_
  refine g_seq ?_
  refine g_region ?_
  refine go_p rfl rfl rfl (o_move rfl) ?_
  refine go_p rfl rfl rfl (o_cmp rfl rfl rfl) ?_
  refine go_nil ?_
  refine g_cond rfl (fun hc1 => ?_) (fun hc1 => ?_)
  · replace hm := cond_t hc1 hm
    refine g_seq ?_
    refine g_region ?_
    refine go_p rfl rfl rfl (o_build (zs := [.list 9 ApiNode.d []]) Try.runUnderlying37 Try.zeroValue37 (pl_37 _ Try.runUnderlying37) rfl rfl rfl rfl) ?_
    refine go_p rfl rfl rfl (o_move rfl) ?_
    refine go_u rfl rfl (o_store_box 0 Try.sizeOf37 rfl rfl rfl rfl rfl rfl rfl rfl (Nat.le_of_ble_eq_true rfl)) ?_
    rintro _ _ rfl
    refine go_ms (ms' := [box b1 37 [_]]) rfl ?_
    refine go_p rfl rfl rfl (o_assign rfl) ?_
    refine go_nil ?_
    refine g_ret ?_
    exact retK (ret_many (ds := [_, _]) rfl (by decide) ⟨ret_cell 0 rfl rfl rfl Try.isAgg37 Try.sizeOf37 rfl, ⟨ret_tmp rfl, rfl⟩⟩ (perm_drop _)) (congrArg (fun (p : (ApiExpr × Int)) => D.tup [ApiExpr.d p.1, .i64 p.2]) (some_eq hm))
  · replace hm := cond_f hc1 hm
    refine g_skip ?_
    refine g_seq ?_
    refine g_seq ?_
    refine g_region ?_
    refine go_p rfl rfl rfl (o_move rfl) ?_
    refine go_p rfl rfl rfl (o_cmp rfl rfl rfl) ?_
    refine go_p rfl rfl rfl (o_move rfl) ?_
    apply go_or [(1, _), (2, _), (4, _)] 6 21 (t := 15) ⟨rfl, rfl, rfl, trivial⟩ rfl
    · intro hg_1 hk1
      refine go_wantp rfl rfl rfl hg_1 rfl rfl (o_move rfl) ?_
      refine go_wantp rfl rfl rfl hg_1 rfl rfl (o_fieldAddr fi_37_0 rfl rfl rfl) ?_
      refine go_wantp rfl rfl rfl hg_1 rfl rfl (o_load Try.isAgg35 rfl rfl) ?_
      refine go_wantp rfl rfl rfl hg_1 rfl rfl (o_len Try.runUnderlying35 rfl) ?_
      refine go_wantp rfl rfl rfl hg_1 rfl rfl (o_cmp rfl rfl rfl) ?_
      refine go_p rfl rfl rfl (o_pickF rfl hg_1 rfl) ?_
      exact go_meet hk1 (rfl) ⟨rfl, rfl, rfl, trivial⟩
    · intro hg_1 hk1
      refine go_skip rfl rfl rfl hg_1 rfl rfl ?_
      refine go_skip rfl rfl rfl hg_1 rfl rfl ?_
      refine go_skip rfl rfl rfl hg_1 rfl rfl ?_
      refine go_skip rfl rfl rfl hg_1 rfl rfl ?_
      refine go_skip rfl rfl rfl hg_1 rfl rfl ?_
      refine go_p rfl rfl rfl (o_pickT rfl hg_1 rfl) ?_
      exact go_meet hk1 (rfl) ⟨rfl, rfl, rfl, trivial⟩
    refine go_nil ?_
    refine g_cond rfl (fun hc2 => ?_) (fun hc2 => ?_)
    · replace hm := cond_t hc2 hm
      refine g_seq ?_
      refine g_region ?_
      refine go_p rfl rfl rfl (o_build (zs := [.list 9 ApiNode.d []]) Try.runUnderlying37 Try.zeroValue37 (pl_37 _ Try.runUnderlying37) rfl rfl rfl rfl) ?_
      refine go_u rfl rfl (o_store_box 0 Try.sizeOf37 rfl rfl rfl rfl rfl rfl rfl rfl (Nat.le_of_ble_eq_true rfl)) ?_
      rintro _ _ rfl
      refine go_ms (ms' := [box b1 37 [_]]) rfl ?_
      refine go_p rfl rfl rfl (o_assign rfl) ?_
      refine go_nil ?_
      refine g_ret ?_
      exact retK (ret_many (ds := [_, _]) rfl (by decide) ⟨ret_cell 0 rfl rfl rfl Try.isAgg37 Try.sizeOf37 rfl, ⟨ret_tmp rfl, rfl⟩⟩ (perm_drop _)) (congrArg (fun (p : (ApiExpr × Int)) => D.tup [ApiExpr.d p.1, .i64 p.2]) (some_eq hm))
    · replace hm := cond_f hc2 hm
      refine g_skip ?_
      refine g_seq ?_
      refine g_region ?_
      refine go_p rfl rfl rfl (o_load_agg Try.isAgg37 Try.sizeOf37 rfl rfl) ?_
      refine go_p rfl rfl rfl (o_move rfl) ?_
      obtain ⟨x2, hx2, hm⟩ := bind_some hm
      refine go_p rfl rfl rfl (o_call0 Try.call80 rfl (w_tree_sub hx2)) ?_
      refine go_u rfl rfl (o_store_box 0 Try.sizeOf37 rfl rfl rfl rfl rfl rfl rfl rfl (Nat.le_of_ble_eq_true rfl)) ?_
      rintro _ _ rfl
      refine go_ms (ms' := [box b1 37 [_]]) rfl ?_
      refine go_p rfl rfl rfl (o_assign rfl) ?_
      refine go_nil ?_
      refine g_ret ?_
      exact retK (ret_many (ds := [_, _]) rfl (by decide) ⟨ret_cell 0 rfl rfl rfl Try.isAgg37 Try.sizeOf37 rfl, ⟨ret_tmp rfl, rfl⟩⟩ (perm_drop _)) (congrArg (fun (p : (ApiExpr × Int)) => D.tup [ApiExpr.d p.1, .i64 p.2]) (some_eq hm))
def m_syntagmaref05_copyOf_l1 (self : ApiExpr → Int → (List ApiNode) → Option (List ApiNode)) (e1 : ApiExpr) (x2 : (List Int)) : Nat → (Int × (List Int) × (List ApiNode)) → Option ((List Int) × (List ApiNode))
  | 0, _ => none
  | n + 1, (j1, l3, l4) =>
    bif (decide (j1 < (x2.length : Int))) then
      (idx x2 j1).bind fun x3 =>
      (self e1 x3 l4).bind fun l5 =>
      grd (InR ((l5.length : Int) - 1)) <|
      grd ((l3.length + ([((l5.length : Int) - 1)] : List _).length) * 8 ≤ 140737488355328) <|
      grd (InR (j1 + 1)) <|
      m_syntagmaref05_copyOf_l1 self e1 x2 n ((j1 + 1), (l3 ++ [((l5.length : Int) - 1)]), l5)
    else
      some (l3, l4)
def m_syntagmaref05_copyOfF (self : ApiExpr → Int → (List ApiNode) → Option (List ApiNode)) (e1 : ApiExpr) (i1 : Int) (out1 : (List ApiNode))  : Option (List ApiNode) :=
  (idx e1.l i1).bind fun x1 =>
  (m_syntagmaref05_Kids x1).bind fun x2 =>
  (m_syntagmaref05_copyOf_l1 self e1 x2 FU (0, [], out1) : Option ((List Int) × (List ApiNode))).bind fun (l1, l2) =>
  (idx e1.l i1).bind fun x4 =>
  (m_syntagmaref05_with x4 l1).bind fun x5 =>
  grd ((l2.length + ([x5] : List _).length) * 104 ≤ 140737488355328) <|
  some (l2 ++ [x5])
def m_syntagmaref05_copyOf  : Nat → ApiExpr → Int → (List ApiNode) → Option (List ApiNode)
  | 0 => fun _ _ _ => none
  | n + 1 => fun e1 i1 out1 => m_syntagmaref05_copyOfF (m_syntagmaref05_copyOf n) e1 i1 out1
theorem wF_syntagmaref05_copyOf  (self : ApiExpr → Int → (List ApiNode) → Option (List ApiNode)) (hself : ∀ {e1 : ApiExpr} {i1 : Int} {out1 : (List ApiNode)} {s_1 : (List ApiNode)} {a_q2 : Option Addr} {cap_q2 : Nat}, self e1 i1 out1 = some s_1 → Go.V.Fn Try.prog 83 [ApiExpr.d e1, .i64 i1, .v (.slice a_q2 out1.length cap_q2)] [row a_q2 cap_q2 40 9 ApiNode.d out1] (fun d ms' => ∃ a_s_1 cap_s_1, d = .v (.slice a_s_1 s_1.length cap_s_1) ∧ ms' = [row a_s_1 cap_s_1 40 9 ApiNode.d s_1])) {e1 : ApiExpr} {i1 : Int} {out1 : (List ApiNode)} {s_1 : (List ApiNode)} {a_q2 : Option Addr} {cap_q2 : Nat} (hm : m_syntagmaref05_copyOfF self e1 i1 out1 = some s_1) : Go.V.Fn Try.prog 83 [ApiExpr.d e1, .i64 i1, .v (.slice a_q2 out1.length cap_q2)] [row a_q2 cap_q2 40 9 ApiNode.d out1] (fun d ms' => ∃ a_s_1 cap_s_1, d = .v (.slice a_s_1 s_1.length cap_s_1) ∧ ms' = [row a_s_1 cap_s_1 40 9 ApiNode.d s_1]) := by
  unfold m_syntagmaref05_copyOfF at hm
  refine fn_intro Try.func83 rfl Try.ntmps83 rfl fun H0 fr w0 => ?_
  refine g_seq ?_
  refine g_region ?_
  refine go_p rfl rfl rfl (o_box rfl rfl) ?_
  refine go_p rfl rfl rfl (o_assign rfl) ?_
  refine go_conv (nilE (i := 6) (sz := 9) (f := ApiNode.d) rfl).refines ?_
  refine go_nil ?_
  refine g_seq ?_
  refine g_region ?_
  refine go_p rfl rfl rfl (o_fieldAddr fi_37_0 rfl rfl rfl) ?_
  refine go_p rfl rfl rfl (o_load Try.isAgg35 rfl rfl) ?_
  refine go_p rfl rfl rfl (o_move rfl) ?_
  obtain ⟨x1, hx1, hm⟩ := bind_some hm
  refine go_p rfl rfl rfl (o_indexAddr_m Try.runUnderlying35 Try.sizeOf40 rfl rfl hx1) ?_
  refine go_p rfl rfl rfl (o_load_agg Try.isAgg40 Try.sizeOf40 rfl rfl) ?_
  obtain ⟨x2, hx2, hm⟩ := bind_some hm
  refine go_p rfl rfl rfl (o_call0 Try.call32 rfl (w_syntagmaref05_Kids hx2)) ?_
  refine go_op rfl rfl rfl (o_buildSlice_row (xs := []) (f := D.i64) (l := []) Try.runUnderlying46 Try.sizeOf3 Try.zeroValue3 rfl rfl rfl (fun _ => ⟨rfl, rfl, rfl⟩) rfl (by simp [maxLen])) ?_
  rintro _ _ ⟨a_r1, rfl, rfl⟩
  refine go_p rfl rfl rfl (o_assign rfl) ?_
  refine go_p rfl rfl rfl (o_assign rfl) ?_
  refine go_nil ?_
  refine g_seq ?_
  refine g_seq ?_
  refine g_region ?_
  refine go_p rfl rfl rfl (o_assign rfl) ?_
  refine go_nil ?_
  obtain ⟨o_1, hj1, hm1⟩ := bind_some hm
  refine g_cut_m [(1, _), (3, _)] [] (fun (st : ((List Int) × (List ApiNode))) (hid : (Option Addr × Nat) × (Option Addr × Nat)) => match st, hid with | (l1, l2), ((a_r1, cap_r1), (a_q2, cap_q2)) => [(2, .v (.slice a_q2 l2.length cap_q2)), (8, .v (.slice a_r1 l1.length cap_r1))]) (fun F (st : ((List Int) × (List ApiNode))) (hid : (Option Addr × Nat) × (Option Addr × Nat)) => match st, hid with | (l1, l2), ((a_r1, cap_r1), (a_q2, cap_q2)) => [row a_r1 cap_r1 3 1 D.i64 l1, row a_q2 cap_q2 40 9 ApiNode.d l2]) (fun st => st = o_1) ⟨rfl, rfl, trivial⟩ trivial ?_ ?_
  · skip
    refine g_block ?_
    refine g_loop_m [(1, _), (3, _), (7, _)] [] (fun (st : (Int × (List Int) × (List ApiNode))) (hid : (Option Addr × Nat) × (Option Addr × Nat)) => match st, hid with | (j1, l3, l4), ((a_r1, cap_r1), (a_q2, cap_q2)) => [(2, .v (.slice a_q2 l4.length cap_q2)), (8, .v (.slice a_r1 l3.length cap_r1)), (9, .i64 j1)]) (fun F (st : (Int × (List Int) × (List ApiNode))) (hid : (Option Addr × Nat) × (Option Addr × Nat)) => match st, hid with | (j1, l3, l4), ((a_r1, cap_r1), (a_q2, cap_q2)) => [row a_r1 cap_r1 3 1 D.i64 l3, row a_q2 cap_q2 40 9 ApiNode.d l4]) ((_, _), (_, _)) hj1 (fun _ => rfl) ⟨rfl, rfl, rfl, trivial⟩ trivial ⟨rfl, rfl, rfl, trivial⟩ rfl ?_
    rintro n ⟨j1, l3, l4⟩ ⟨⟨a_r1, cap_r1⟩, ⟨a_q2, cap_q2⟩⟩ hj1
    rw [m_syntagmaref05_copyOf_l1] at hj1
    refine g_norm (L' := [(2, .v (.slice a_q2 l4.length cap_q2)), (8, .v (.slice a_r1 l3.length cap_r1)), (9, .i64 j1), (1, _), (3, _), (7, _)]) (ms' := [row a_r1 cap_r1 3 1 D.i64 l3, row a_q2 cap_q2 40 9 ApiNode.d l4]) rfl rfl ?_
    refine g_seq ?_
    refine g_seq ?_
    refine g_region ?_
    refine go_p rfl rfl rfl (o_move rfl) ?_
    refine go_p rfl rfl rfl (o_move rfl) ?_
    refine go_p rfl rfl rfl (o_len Try.runUnderlying46 rfl) ?_
    refine go_p rfl rfl rfl (o_cmp rfl rfl rfl) ?_
    refine go_nil ?_
    refine g_cond rfl (fun hc1 => ?_) (fun hc1 => ?_)
    · replace hj1 := cond_t hc1 hj1
      refine g_skip ?_
      refine g_seq ?_
      refine g_block ?_
      refine g_seq ?_
      obtain ⟨x3, hx3, hj1⟩ := bind_some hj1
      refine g_draw 6 Try_mixed (by decide +kernel) ?_
      refine gd_p rfl rfl rfl (o_load_agg Try.isAgg37 Try.sizeOf37 rfl rfl) ?_
      refine gd_p rfl rfl rfl (o_move rfl) ?_
      refine gd_p rfl rfl rfl (o_move rfl) ?_
      refine gd_p rfl rfl rfl (o_indexAddr_m Try.runUnderlying46 Try.sizeOf3 rfl rfl hx3) ?_
      refine gd_p rfl rfl rfl (o_load Try.isAgg3 rfl rfl) ?_
      refine gd_p rfl rfl rfl (o_move rfl) ?_
      refine gd_nil ?_
      obtain ⟨l5, hx4, hj1⟩ := bind_some hj1
      refine go_op rfl rfl rfl (o_call_own [1] Try.call83 rfl rfl (getL_c rfl getL_n) (hself hx4) (by rintro _ _ ⟨_, _, rfl, rfl⟩; rfl)) ?_
      rintro _ _ ⟨_, ⟨a_q2, cap_q2, rfl, rfl⟩, rfl⟩
      refine go_ms (ms' := [_, _]) rfl ?_
      refine go_p rfl rfl rfl (o_assign rfl) ?_
      refine go_nil ?_
      refine g_region ?_
      refine go_p rfl rfl rfl (o_move rfl) ?_
      refine go_p rfl rfl rfl (o_move rfl) ?_
      refine go_p rfl rfl rfl (.view (peekE (i := 31) 1 rfl rfl rfl) (o_len Try.runUnderlying35 rfl)) ?_
      obtain ⟨hg5, hj1⟩ := grd_some hj1
      refine go_p rfl rfl rfl (o_sub rfl rfl (i64_id hg5)) ?_
      refine go_p rfl rfl rfl (o_buildSlice (xs := [_]) (f := D.i64) (l := [_]) Try.runUnderlying46 Try.sizeOf3 Try.zeroValue3 rfl rfl rfl (fun _ => ⟨rfl, rfl, rfl⟩) rfl) ?_
      obtain ⟨hg6, hj1⟩ := grd_some hj1
      refine go_op rfl rfl rfl (o_append (a := _) 0 Try.underlying46 Try.type3 rfl rfl rfl rfl rfl rfl rfl (fun _ => rfl) (fun _ => rfl) hg6 (app_len hg6 rfl)) ?_
      rintro _ _ ⟨a_r1, cap_r1, rfl, rfl⟩
      refine go_ms (ms' := [_, _]) rfl ?_
      refine go_p rfl rfl rfl (o_assign rfl) ?_
      refine go_nil ?_
      refine g_region ?_
      refine go_p rfl rfl rfl (o_move rfl) ?_
      obtain ⟨hg7, hj1⟩ := grd_some hj1
      refine go_p rfl rfl rfl (o_add rfl rfl (i64_id hg7)) ?_
      refine go_p rfl rfl rfl (o_assign rfl) ?_
      refine go_nil ?_
      exact ⟨_, ((_, _), (_, _)), hj1, ⟨rfl, rfl, rfl, trivial⟩, ⟨rfl, rfl, rfl, trivial⟩, [], rfl⟩
    · replace hj1 := cond_f hc1 hj1
      refine g_exit ?_
      exact ⟨_, ((_, _), (_, _)), some_eq hj1, ⟨rfl, rfl, trivial⟩, ⟨rfl, rfl, trivial⟩, [], rfl⟩
  · rintro ⟨l1, l2⟩ ⟨⟨a_r1, cap_r1⟩, ⟨a_q2, cap_q2⟩⟩ hst
    subst hst
    refine k_norm (L' := [(2, .v (.slice a_q2 l2.length cap_q2)), (8, .v (.slice a_r1 l1.length cap_r1)), (1, _), (3, _)]) (ms' := [row a_r1 cap_r1 3 1 D.i64 l1, row a_q2 cap_q2 40 9 ApiNode.d l2]) rfl rfl ?_
    refine g_seq ?_
    refine g_region ?_
    refine go_p rfl rfl rfl (o_move rfl) ?_
    refine go_p rfl rfl rfl (o_fieldAddr fi_37_0 rfl rfl rfl) ?_
    refine go_p rfl rfl rfl (o_load Try.isAgg35 rfl rfl) ?_
    refine go_p rfl rfl rfl (o_move rfl) ?_
    obtain ⟨x4, hx8, hm1⟩ := bind_some hm1
    refine go_p rfl rfl rfl (o_indexAddr_m Try.runUnderlying35 Try.sizeOf40 rfl rfl hx8) ?_
    refine go_p rfl rfl rfl (o_load_agg Try.isAgg40 Try.sizeOf40 rfl rfl) ?_
    refine go_p rfl rfl rfl (o_move rfl) ?_
    obtain ⟨x5, hx9, hm1⟩ := bind_some hm1
    refine go_p rfl rfl rfl (.view (peekE (i := 42) 0 rfl rfl rfl) (o_call0 Try.call79 rfl (w_syntagmaref05_with hx9))) ?_
    refine go_p rfl rfl rfl (o_buildSlice (xs := [_]) (f := ApiNode.d) (l := [_]) Try.runUnderlying35 Try.sizeOf40 Try.zeroValue40 rfl rfl rfl (fun _ => ⟨rfl, rfl, rfl⟩) rfl) ?_
    obtain ⟨hg10, hm1⟩ := grd_some hm1
    refine go_op rfl rfl rfl (o_append (a := _) 1 Try.underlying35 Try.type40 rfl rfl rfl rfl rfl rfl rfl (fun _ => rfl) (fun _ => rfl) hg10 (app_len hg10 rfl)) ?_
    rintro _ _ ⟨a_q2, cap_q2, rfl, rfl⟩
    refine go_ms (ms' := [_, _]) rfl ?_
    refine go_p rfl rfl rfl (o_assign rfl) ?_
    refine go_nil ?_
    refine g_ret ?_
    obtain rfl := some_eq hm1
    exact retK (ret_one' rfl (ret_tmp rfl) (permA 1 rfl permN)) ⟨_, _, rfl, rfl⟩
theorem wn_syntagmaref05_copyOf  : ∀ (n : Nat) {e1 : ApiExpr} {i1 : Int} {out1 : (List ApiNode)} {s_1 : (List ApiNode)} {a_q2 : Option Addr} {cap_q2 : Nat}, m_syntagmaref05_copyOf n e1 i1 out1 = some s_1 → Go.V.Fn Try.prog 83 [ApiExpr.d e1, .i64 i1, .v (.slice a_q2 out1.length cap_q2)] [row a_q2 cap_q2 40 9 ApiNode.d out1] (fun d ms' => ∃ a_s_1 cap_s_1, d = .v (.slice a_s_1 s_1.length cap_s_1) ∧ ms' = [row a_s_1 cap_s_1 40 9 ApiNode.d s_1])
  | 0 => by intros; rename_i h; cases h
  | n + 1 => by intros; rename_i h; exact wF_syntagmaref05_copyOf (m_syntagmaref05_copyOf n) (fun h => wn_syntagmaref05_copyOf n h) h
theorem w_syntagmaref05_copyOf  {e1 : ApiExpr} {i1 : Int} {out1 : (List ApiNode)} {s_1 : (List ApiNode)} {a_q2 : Option Addr} {cap_q2 : Nat} (hm : m_syntagmaref05_copyOf FU e1 i1 out1 = some s_1) : Go.V.Fn Try.prog 83 [ApiExpr.d e1, .i64 i1, .v (.slice a_q2 out1.length cap_q2)] [row a_q2 cap_q2 40 9 ApiNode.d out1] (fun d ms' => ∃ a_s_1 cap_s_1, d = .v (.slice a_s_1 s_1.length cap_s_1) ∧ ms' = [row a_s_1 cap_s_1 40 9 ApiNode.d s_1]) := wn_syntagmaref05_copyOf FU hm
def m_syntagmaref05_Sub (e1 : ApiExpr) (i1 : Int) : Option ApiExpr :=
  (m_syntagmaref05_copyOf FU e1 i1 ([] : List ApiNode)).bind fun l1 =>
  some (⟨l1⟩ : ApiExpr)
theorem w_syntagmaref05_Sub {e1 : ApiExpr} {i1 : Int} {r_1 : ApiExpr} (hm : m_syntagmaref05_Sub e1 i1 = some r_1) : Fn0 Try.prog 43 [ApiExpr.d e1, .i64 i1] (ApiExpr.d r_1) := by
  unfold m_syntagmaref05_Sub at hm
  refine fn_intro Try.func43 rfl Try.ntmps43 rfl fun H0 fr w0 => ?_
  refine g_seq ?_
  refine g_region ?_
  refine go_p rfl rfl rfl (o_box rfl rfl) ?_
  refine go_op rfl rfl rfl (o_alloc_own Try.zeroValue37 (cs := [.list 9 ApiNode.d []]) rfl) ?_
  rintro _ _ ⟨b1, rfl, rfl⟩
  refine go_nil ?_
  refine g_seq ?_
  refine g_region ?_
  refine go_p rfl rfl rfl (o_load_agg Try.isAgg37 Try.sizeOf37 rfl rfl) ?_
  refine go_p rfl rfl rfl (o_move rfl) ?_
  refine go_conv (refines_newrow (T := 40) (sz := 9) (f := ApiNode.d)) ?_
  obtain ⟨l1, hx1, hm⟩ := bind_some hm
  refine go_op rfl rfl rfl (o_call_own [0] Try.call83 rfl rfl (getL_c rfl getL_n) (w_syntagmaref05_copyOf hx1) (by rintro _ _ ⟨_, _, rfl, rfl⟩; rfl)) ?_
  rintro _ _ ⟨_, ⟨a_r1, cap_r1, rfl, rfl⟩, rfl⟩
  refine go_ms (ms' := [_, box b1 37 [_]]) rfl ?_
  refine go_p rfl rfl rfl (.view (peekE (i := 7) 0 rfl rfl rfl) (o_build (zs := [.list 9 ApiNode.d []]) Try.runUnderlying37 Try.zeroValue37 (pl_37 _ Try.runUnderlying37) rfl rfl rfl rfl)) ?_
  refine go_u rfl rfl (o_store_box 1 Try.sizeOf37 rfl rfl rfl rfl rfl rfl rfl rfl (Nat.le_of_ble_eq_true rfl)) ?_
  rintro _ _ rfl
  refine go_ms (ms' := [_, box b1 37 [_]]) rfl ?_
  refine go_nil ?_
  refine g_ret ?_
  exact retK (ret_one' rfl (ret_cell 1 rfl rfl rfl Try.isAgg37 Try.sizeOf37 rfl) (perm_drop _)) (congrArg (fun (p : ApiExpr) => (ApiExpr.d p : D)) (some_eq hm))
def m_syntagmaref05_Norm (e1 : ApiExpr) : Option ApiExpr :=
  grd (InR ((e1.l.length : Int) - 1)) <|
  (m_syntagmaref05_Sub e1 ((e1.l.length : Int) - 1)).bind fun x1 =>
  some (⟨x1.l⟩ : ApiExpr)
def m_scope_Closed_r1  : List Int → Unit → Option (Out (Int × Int) Unit)
  | [], _ =>
    some (Out.go (()))
  | x2 :: rr, _ =>
    some (Out.ret (x2, 10))
def m_scope_Closed (e1 : ApiExpr) : Option (Int × Int) :=
  (m_tree_May e1).bind fun x1 =>
  bif (!decide (x1 = 0)) then
    some (0, x1)
  else
    (((m_free e1).bind fun xs1 =>
    m_scope_Closed_r1 xs1 () : Option (Out (Int × Int) Unit))).bind (fun oo => oo.on (fun r1 => some r1) (fun _ =>
    some (0, 0)))
theorem w_scope_Closed {e1 : ApiExpr} {r_1 : Int} {r_2 : Int} (hm : m_scope_Closed e1 = some (r_1, r_2)) : Fn0 Try.prog 46 [ApiExpr.d e1] (.tup [.i64 r_1, .i64 r_2]) := by
  unfold m_scope_Closed at hm
  refine fn_intro Try.func46 rfl Try.ntmps46 rfl fun H0 fr w0 => ?_
  refine g_seq ?_
  refine g_region ?_
  refine go_p rfl rfl rfl (o_box rfl rfl) ?_
  refine go_op rfl rfl rfl (o_alloc_own Try.zeroValue3 (cs := [.i64 0]) rfl) ?_
  rintro _ _ ⟨b1, rfl, rfl⟩
  refine go_op rfl rfl rfl (o_alloc_own Try.zeroValue24 (cs := [.i64 0]) rfl) ?_
  rintro _ _ ⟨b2, rfl, rfl⟩
  refine go_nil ?_
  refine g_seq ?_
  refine g_seq ?_
  refine g_region ?_
  refine go_p rfl rfl rfl (o_load_agg Try.isAgg37 Try.sizeOf37 rfl rfl) ?_
  obtain ⟨x1, hx1, hm⟩ := bind_some hm
  refine go_p rfl rfl rfl (o_call0 Try.call28 rfl (w_tree_May hx1)) ?_
  refine go_p rfl rfl rfl (o_assign rfl) ?_
  refine go_nil ?_
  refine g_seq ?_
  refine g_region ?_
  refine go_p rfl rfl rfl (o_move rfl) ?_
  refine go_p rfl rfl rfl (o_cmp rfl rfl rfl) ?_
  refine go_nil ?_
  refine g_cond rfl (fun hc1 => ?_) (fun hc1 => ?_)
  · replace hm := cond_t hc1 hm
    refine g_seq ?_
    refine g_region ?_
    refine go_p rfl rfl rfl (o_move rfl) ?_
    refine go_u rfl rfl (o_store_box 1 Try.sizeOf3 rfl rfl rfl rfl rfl rfl rfl rfl (Nat.le_of_ble_eq_true rfl)) ?_
    rintro _ _ rfl
    refine go_ms (ms' := [box b2 24 [_], box b1 3 [_]]) rfl ?_
    refine go_u rfl rfl (o_store_box 0 Try.sizeOf24 rfl rfl rfl rfl rfl rfl rfl rfl (Nat.le_of_ble_eq_true rfl)) ?_
    rintro _ _ rfl
    refine go_ms (ms' := [box b2 24 [_], box b1 3 [_]]) rfl ?_
    refine go_nil ?_
    refine g_ret ?_
    exact retK (ret_many (ds := [_, _]) rfl (by decide) ⟨ret_cell1 1 rfl rfl rfl Try.isAgg3 rfl, ⟨ret_cell1 0 rfl rfl rfl Try.isAgg24 rfl, rfl⟩⟩ (perm_drop _)) (congrArg (fun (p : (Int × Int)) => D.tup [.i64 p.1, .i64 p.2]) (some_eq hm))
  · replace hm := cond_f hc1 hm
    refine g_skip ?_
    refine g_seq ?_
    refine g_seq ?_
    refine g_region ?_
    refine go_p rfl rfl rfl (o_load_agg Try.isAgg37 Try.sizeOf37 rfl rfl) ?_
    refine go_p rfl rfl rfl (o_call0 Try.call84 rfl w_free) ?_
    refine go_nil ?_
    obtain ⟨o_1, hj1, hm1⟩ := bind_some hm
    refine g_cut_m [(2, _), (3, _)] [(0, _), (1, _)] (fun (st : Unit) (hid : Unit) => match st, hid with | _, _ => []) (fun F (st : Unit) (hid : Unit) => match st, hid with | _, _ => [(nthF F 0), (nthF F 1)]) (fun st => Out.go (st) = o_1) ⟨rfl, rfl, trivial⟩ ⟨rfl, rfl, trivial⟩ ?_ ?_
    · skip
      refine g_block ?_
      obtain ⟨xs1, hx2, hj1⟩ := bind_some hj1
      refine g_range_m (fun (p : Int) => [.i64 p]) [(0, _), (1, _)] (fun F (st : Unit) (hid : Unit) => match st, hid with | _, _ => [(nthF F 0), (nthF F 1)]) () hj1 ⟨rfl, rfl, trivial⟩ rfl rfl Try.call118 (it_free hx2) (fun _ => rfl) rfl ?_ ?_
      · rintro H0r frr ror w0r hrr x2 rr _ _ hj1
        rw [m_scope_Closed_r1] at hj1
        refine g_norm (ms' := [_, _]) rfl rfl ?_
        refine g_region ?_
        refine go_p rfl rfl rfl (o_assign rfl) ?_
        refine go_nil ?_
        intro H0r frr ror w0r hrr
        refine g_block ?_
        refine g_seq ?_
        refine g_region ?_
        refine go_p rfl rfl rfl (o_move rfl) ?_
        refine go_u rfl rfl (o_store_box 1 Try.sizeOf3 rfl rfl rfl rfl rfl rfl rfl rfl (Nat.le_of_ble_eq_true rfl)) ?_
        rintro _ _ rfl
        refine go_ms (ms' := [box b2 24 [_], box b1 3 [_]]) rfl ?_
        refine go_u rfl rfl (o_store_box 0 Try.sizeOf24 rfl rfl rfl rfl rfl rfl rfl rfl (Nat.le_of_ble_eq_true rfl)) ?_
        rintro _ _ rfl
        refine go_ms (ms' := [box b2 24 [_], box b1 3 [_]]) rfl ?_
        refine go_nil ?_
        refine g_ret ?_
        obtain rfl := some_eq hj1
        replace hm1 := on_ret hm1
        exact retK (ret_many (ds := [_, _]) rfl (by decide) ⟨ret_cell1 1 rfl rfl rfl Try.isAgg3 rfl, ⟨ret_cell1 0 rfl rfl rfl Try.isAgg24 rfl, rfl⟩⟩ (perm_drop _)) (congrArg (fun (p : (Int × Int)) => D.tup [.i64 p.1, .i64 p.2]) (some_eq hm1))
      · rintro _ _ hj1
        rw [m_scope_Closed_r1] at hj1
        refine k_norm (ms' := [_, _]) rfl rfl ?_
        exact ⟨_, (), some_eq hj1, trivial, ⟨rfl, rfl, trivial⟩, [], rfl⟩
    · rintro _ _ hst
      subst hst
      replace hm1 := on_go hm1
      refine k_norm (L' := [(2, _), (3, _)]) (ms' := [_, _]) rfl rfl ?_
      refine g_seq ?_
      refine g_region ?_
      refine go_u rfl rfl (o_store_box 1 Try.sizeOf3 rfl rfl rfl rfl rfl rfl rfl rfl (Nat.le_of_ble_eq_true rfl)) ?_
      rintro _ _ rfl
      refine go_ms (ms' := [box b2 24 [_], box b1 3 [_]]) rfl ?_
      refine go_u rfl rfl (o_store_box 0 Try.sizeOf24 rfl rfl rfl rfl rfl rfl rfl rfl (Nat.le_of_ble_eq_true rfl)) ?_
      rintro _ _ rfl
      refine go_ms (ms' := [box b2 24 [_], box b1 3 [_]]) rfl ?_
      refine go_nil ?_
      refine g_ret ?_
      exact retK (ret_many (ds := [_, _]) rfl (by decide) ⟨ret_cell1 1 rfl rfl rfl Try.isAgg3 rfl, ⟨ret_cell1 0 rfl rfl rfl Try.isAgg24 rfl, rfl⟩⟩ (perm_drop _)) (congrArg (fun (p : (Int × Int)) => D.tup [.i64 p.1, .i64 p.2]) (some_eq hm1))
def ScopeBinder.eqv (x y : ScopeBinder) : Bool := ((x.node == y.node) && ((x.branch == y.branch) && true))
structure Syntagmaref06Binder where
  node : Int
  branch : Int
def Syntagmaref06Binder.d (x : Syntagmaref06Binder) : D := .agg [.i64 x.node, .i64 x.branch]
def m_subst_made (e1 : ApiExpr) : Option (ApiExpr × Int) :=
  (m_tree_May e1).bind fun x1 =>
  bif (!decide (x1 = 0)) then
    some ((⟨([] : List ApiNode)⟩ : ApiExpr), x1)
  else
    some ((⟨e1.l⟩ : ApiExpr), 0)
theorem w_subst_made {e1 : ApiExpr} {r_1 : ApiExpr} {r_2 : Int} (hm : m_subst_made e1 = some (r_1, r_2)) : Fn0 Try.prog 92 [ApiExpr.d e1] (.tup [ApiExpr.d r_1, .i64 r_2]) := by
  unfold m_subst_made at hm
  refine fn_intro Try.func92 rfl Try.ntmps92 rfl fun H0 fr w0 => ?_
  refine g_seq ?_
  refine g_region ?_
  refine go_p rfl rfl rfl (o_box rfl rfl) ?_
  refine go_op rfl rfl rfl (o_alloc_own Try.zeroValue37 (cs := [.list 9 ApiNode.d []]) rfl) ?_
  rintro _ _ ⟨b1, rfl, rfl⟩
  refine go_p rfl rfl rfl (o_assign rfl) ?_
  refine go_nil ?_
  refine g_seq ?_
  refine g_seq ?_
  refine g_region ?_
  refine go_p rfl rfl rfl (o_load_agg Try.isAgg37 Try.sizeOf37 rfl rfl) ?_
  obtain ⟨x1, hx1, hm⟩ := bind_some hm
  refine go_p rfl rfl rfl (o_call0 Try.call28 rfl (w_tree_May hx1)) ?_
  refine go_p rfl rfl rfl (o_assign rfl) ?_
  refine go_nil ?_
  refine g_seq ?_
  refine g_region ?_
  refine go_p rfl rfl rfl (o_move rfl) ?_
  refine go_p rfl rfl rfl (o_cmp rfl rfl rfl) ?_
  refine go_nil ?_
  refine g_cond rfl (fun hc1 => ?_) (fun hc1 => ?_)
  · replace hm := cond_t hc1 hm
    refine g_seq ?_
    refine g_region ?_
    refine go_p rfl rfl rfl (o_build (zs := [.list 9 ApiNode.d []]) Try.runUnderlying37 Try.zeroValue37 (pl_37 _ Try.runUnderlying37) rfl rfl rfl rfl) ?_
    refine go_p rfl rfl rfl (o_move rfl) ?_
    refine go_u rfl rfl (o_store_box 0 Try.sizeOf37 rfl rfl rfl rfl rfl rfl rfl rfl (Nat.le_of_ble_eq_true rfl)) ?_
    rintro _ _ rfl
    refine go_ms (ms' := [box b1 37 [_]]) rfl ?_
    refine go_p rfl rfl rfl (o_assign rfl) ?_
    refine go_nil ?_
    refine g_ret ?_
    exact retK (ret_many (ds := [_, _]) rfl (by decide) ⟨ret_cell 0 rfl rfl rfl Try.isAgg37 Try.sizeOf37 rfl, ⟨ret_tmp rfl, rfl⟩⟩ (perm_drop _)) (congrArg (fun (p : (ApiExpr × Int)) => D.tup [ApiExpr.d p.1, .i64 p.2]) (some_eq hm))
  · replace hm := cond_f hc1 hm
    refine g_skip ?_
    refine g_seq ?_
    refine g_region ?_
    refine go_p rfl rfl rfl (o_load_agg Try.isAgg37 Try.sizeOf37 rfl rfl) ?_
    refine go_u rfl rfl (o_store_box 0 Try.sizeOf37 rfl rfl rfl rfl rfl rfl rfl rfl (Nat.le_of_ble_eq_true rfl)) ?_
    rintro _ _ rfl
    refine go_ms (ms' := [box b1 37 [_]]) rfl ?_
    refine go_p rfl rfl rfl (o_assign rfl) ?_
    refine go_nil ?_
    refine g_ret ?_
    exact retK (ret_many (ds := [_, _]) rfl (by decide) ⟨ret_cell 0 rfl rfl rfl Try.isAgg37 Try.sizeOf37 rfl, ⟨ret_tmp rfl, rfl⟩⟩ (perm_drop _)) (congrArg (fun (p : (ApiExpr × Int)) => D.tup [ApiExpr.d p.1, .i64 p.2]) (some_eq hm))
def m_subst_sub (e1 : ApiExpr) (i1 : Int) : Option ApiExpr :=
  (m_tree_Sub e1 i1).bind fun (x1, x2) =>
  some (⟨x1.l⟩ : ApiExpr)
theorem w_subst_sub {e1 : ApiExpr} {i1 : Int} {r_1 : ApiExpr} (hm : m_subst_sub e1 i1 = some r_1) : Fn0 Try.prog 99 [ApiExpr.d e1, .i64 i1] (ApiExpr.d r_1) := by
  unfold m_subst_sub at hm
  refine fn_intro Try.func99 rfl Try.ntmps99 rfl fun H0 fr w0 => ?_
  refine g_seq ?_
  refine g_region ?_
  refine go_p rfl rfl rfl (o_box rfl rfl) ?_
  refine go_op rfl rfl rfl (o_alloc_own Try.zeroValue37 (cs := [.list 9 ApiNode.d []]) rfl) ?_
  rintro _ _ ⟨b1, rfl, rfl⟩
  refine go_nil ?_
  refine g_seq ?_
  refine g_region ?_
  refine go_p rfl rfl rfl (o_load_agg Try.isAgg37 Try.sizeOf37 rfl rfl) ?_
  refine go_p rfl rfl rfl (o_move rfl) ?_
  obtain ⟨⟨x1, x2⟩, hx1, hm⟩ := bind_some hm
  refine go_p rfl rfl rfl (o_call0 Try.call38 rfl (w_tree_Sub hx1)) ?_
  refine go_p rfl rfl rfl (o_move rfl) ?_
  refine go_p rfl rfl rfl (o_extract rfl rfl) ?_
  refine go_p rfl rfl rfl (o_extract rfl rfl) ?_
  refine go_op rfl rfl rfl (o_alloc_own Try.zeroValue37 (cs := [.list 9 ApiNode.d []]) rfl) ?_
  rintro _ _ ⟨b2, rfl, rfl⟩
  refine go_u rfl rfl (o_store_box 0 Try.sizeOf37 rfl rfl rfl rfl rfl rfl rfl rfl (Nat.le_of_ble_eq_true rfl)) ?_
  rintro _ _ rfl
  refine go_ms (ms' := [box b2 37 [_], box b1 37 [_]]) rfl ?_
  refine go_p rfl rfl rfl (o_assign rfl) ?_
  refine go_nil ?_
  refine g_seq ?_
  refine g_region ?_
  refine go_p rfl rfl rfl (o_load_box_agg 0 Try.isAgg37 Try.sizeOf37 rfl rfl rfl rfl (Nat.le_of_ble_eq_true rfl)) ?_
  refine go_u rfl rfl (o_store_box 1 Try.sizeOf37 rfl rfl rfl rfl rfl rfl rfl rfl (Nat.le_of_ble_eq_true rfl)) ?_
  rintro _ _ rfl
  refine go_ms (ms' := [box b2 37 [_], box b1 37 [_]]) rfl ?_
  refine go_nil ?_
  refine g_ret ?_
  exact retK (ret_one' rfl (ret_cell 1 rfl rfl rfl Try.isAgg37 Try.sizeOf37 rfl) (perm_drop _)) (congrArg (fun (p : ApiExpr) => (ApiExpr.d p : D)) (some_eq hm))
def m_subst_hides (n1 : ApiNode) (k1 : Int) (x1 : (List UInt8)) : Option Bool :=
  (bif (decide (n1.kind = 5)) then
    some (decide (n1.kind = 5))
  else
    some (decide (n1.kind = 8)) : Option Bool).bind fun x2 =>
  bif x2 then
    some (decide ((n1.name : List UInt8) = x1))
  else
    bif (decide (n1.kind = 7)) then
      some ((decide ((n1.name : List UInt8) = x1)) && (decide (k1 = 1)))
    else
      bif (decide (n1.kind = 14)) then
        (bif (decide (0 < k1)) then (grd (InR (k1 - 1)) <|
        (idx n1.l (k1 - 1)).bind fun x3 =>
        some (decide ((x3.var : List UInt8) = x1))) else (some false)).bind fun p1 =>
        some p1
      else
        some false
theorem w_subst_hides {n1 : ApiNode} {k1 : Int} {x1 : (List UInt8)} {r_1 : Bool} (hm : m_subst_hides n1 k1 x1 = some r_1) : Fn0 Try.prog 128 [ApiNode.d n1, .i64 k1, .str x1] (.bool r_1) := by
  unfold m_subst_hides at hm
  refine fn_intro Try.func128 rfl Try.ntmps128 rfl fun H0 fr w0 => ?_
  refine g_seq ?_
  refine g_region ?_
  refine go_p rfl rfl rfl (o_box rfl rfl) ?_
  refine go_p rfl rfl rfl (o_assign rfl) ?_
  refine go_nil ?_
  refine g_seq ?_
  refine g_seq ?_
  refine g_region ?_
  refine go_p rfl rfl rfl (o_fieldAddr fi_40_0 rfl rfl rfl) ?_
  refine go_p rfl rfl rfl (o_load Try.isAgg3 rfl rfl) ?_
  refine go_nil ?_
  refine g_block ?_
  refine g_seq ?_
  refine g_seq ?_
  refine g_region ?_
  refine go_p rfl rfl rfl (o_cmp rfl rfl rfl) ?_
  refine go_p rfl rfl rfl (o_assign rfl) ?_
  refine go_nil ?_
  obtain ⟨o_1, hj1, hm1⟩ := bind_some hm
  refine g_cut_m [(1, _), (2, _), (3, _), (8, _)] [] (fun (st : Bool) (hid : Unit) => match st, hid with | x2, _ => [(9, .bool x2)]) (fun F (st : Bool) (hid : Unit) => match st, hid with | x2, _ => []) (fun st => st = o_1) ⟨rfl, rfl, rfl, rfl, trivial⟩ trivial ?_ ?_
  · skip
    refine g_cond rfl (fun hc1 => ?_) (fun hc1 => ?_)
    · replace hj1 := cond_t hc1 hj1
      refine g_skip ?_
      exact ⟨_, (), some_eq hj1, ⟨rfl, trivial⟩, ⟨rfl, rfl, rfl, rfl, trivial⟩, [], rfl⟩
    · replace hj1 := cond_f hc1 hj1
      refine g_region ?_
      refine go_p rfl rfl rfl (o_cmp rfl rfl rfl) ?_
      refine go_p rfl rfl rfl (o_assign rfl) ?_
      refine go_nil ?_
      exact ⟨_, (), some_eq hj1, ⟨rfl, trivial⟩, ⟨rfl, rfl, rfl, rfl, trivial⟩, [], rfl⟩
  · rintro x2 _ hst
    subst hst
    refine k_norm (L' := [(9, .bool x2), (1, _), (2, _), (3, _), (8, _)]) (ms' := []) rfl rfl ?_
    refine g_cond rfl (fun hc2 => ?_) (fun hc2 => ?_)
    · replace hm1 := cond_t hc2 hm1
      refine g_seq ?_
      refine g_region ?_
      refine go_p rfl rfl rfl (o_fieldAddr fi_40_5 rfl rfl rfl) ?_
      refine go_p rfl rfl rfl (o_load Try.isAgg9 rfl rfl) ?_
      refine go_p rfl rfl rfl (o_move rfl) ?_
      refine go_p rfl rfl rfl (o_cmps rfl rfl rfl) ?_
      refine go_p rfl rfl rfl (o_assign rfl) ?_
      refine go_nil ?_
      refine g_ret ?_
      exact retK (ret_one' rfl (ret_tmp rfl) (perm_drop _)) (congrArg (fun (p : Bool) => (.bool p : D)) (some_eq hm1))
    · replace hm1 := cond_f hc2 hm1
      refine g_seq ?_
      refine g_region ?_
      refine go_p rfl rfl rfl (o_cmp rfl rfl rfl) ?_
      refine go_p rfl rfl rfl (o_assign rfl) ?_
      refine go_nil ?_
      refine g_cond rfl (fun hc3 => ?_) (fun hc3 => ?_)
      · replace hm1 := cond_t hc3 hm1
        refine g_seq ?_
        refine g_region ?_
        refine go_p rfl rfl rfl (o_fieldAddr fi_40_5 rfl rfl rfl) ?_
        refine go_p rfl rfl rfl (o_load Try.isAgg9 rfl rfl) ?_
        refine go_p rfl rfl rfl (o_move rfl) ?_
        refine go_p rfl rfl rfl (o_cmps rfl rfl rfl) ?_
        refine go_p rfl rfl rfl (o_move rfl) ?_
        apply go_and [] 3 25 (t := 22) trivial rfl
        · intro hg_1 hk1
          refine go_wantp rfl rfl rfl hg_1 rfl rfl (o_move rfl) ?_
          refine go_wantp rfl rfl rfl hg_1 rfl rfl (o_cmp rfl rfl rfl) ?_
          refine go_p rfl rfl rfl (o_pickT rfl hg_1 rfl) ?_
          exact go_meet hk1 (rfl) trivial
        · intro hg_1 hk1
          refine go_skip rfl rfl rfl hg_1 rfl rfl ?_
          refine go_skip rfl rfl rfl hg_1 rfl rfl ?_
          refine go_p rfl rfl rfl (o_pickF rfl hg_1 rfl) ?_
          exact go_meet hk1 (rfl) trivial
        refine go_p rfl rfl rfl (o_assign rfl) ?_
        refine go_nil ?_
        refine g_ret ?_
        exact retK (ret_one' rfl (ret_tmp rfl) (perm_drop _)) (congrArg (fun (p : Bool) => (.bool p : D)) (some_eq hm1))
      · replace hm1 := cond_f hc3 hm1
        refine g_seq ?_
        refine g_region ?_
        refine go_p rfl rfl rfl (o_cmp rfl rfl rfl) ?_
        refine go_p rfl rfl rfl (o_assign rfl) ?_
        refine go_nil ?_
        refine g_cond rfl (fun hc4 => ?_) (fun hc4 => ?_)
        · replace hm1 := cond_t hc4 hm1
          refine g_seq ?_
          refine g_region ?_
          refine go_p rfl rfl rfl (o_move rfl) ?_
          refine go_p rfl rfl rfl (o_cmp rfl rfl rfl) ?_
          refine go_p rfl rfl rfl (o_move rfl) ?_
          obtain ⟨p1, hp_2, hm1⟩ := bind_some hm1
          refine go_two [] 10 40 p1 (t := 30) trivial rfl (fun hg_2 hk2 => ?_) (fun hg_2 hk2 => ?_) ?_
          · replace hp_2 := cond_t hg_2 hp_2
            refine go_wantp rfl rfl rfl hg_2 rfl rfl (o_fieldAddr fi_40_7 rfl rfl rfl) ?_
            refine go_wantp rfl rfl rfl hg_2 rfl rfl (o_load Try.isAgg38 rfl rfl) ?_
            refine go_wantp rfl rfl rfl hg_2 rfl rfl (o_move rfl) ?_
            obtain ⟨hg1, hp_2⟩ := grd_some hp_2
            refine go_wantp rfl rfl rfl hg_2 rfl rfl (o_sub rfl rfl (i64_id hg1)) ?_
            obtain ⟨x3, hx2, hp_2⟩ := bind_some hp_2
            refine go_wantp rfl rfl rfl hg_2 rfl rfl (o_indexAddr_m Try.runUnderlying38 Try.sizeOf102 rfl rfl hx2) ?_
            refine go_wantp rfl rfl rfl hg_2 rfl rfl (o_fieldAddr fi_102_1 rfl rfl rfl) ?_
            refine go_wantp rfl rfl rfl hg_2 rfl rfl (o_load Try.isAgg9 rfl rfl) ?_
            refine go_wantp rfl rfl rfl hg_2 rfl rfl (o_move rfl) ?_
            refine go_wantp rfl rfl rfl hg_2 rfl rfl (o_cmps rfl rfl rfl) ?_
            refine go_p rfl rfl rfl (o_pickT rfl hg_2 rfl) ?_
            exact go_meet hk2 (congrArg (fun b => some (D.bool b)) (some_eq hp_2)) trivial
          · replace hp_2 := cond_f hg_2 hp_2
            refine go_skip rfl rfl rfl hg_2 rfl rfl ?_
            refine go_skip rfl rfl rfl hg_2 rfl rfl ?_
            refine go_skip rfl rfl rfl hg_2 rfl rfl ?_
            refine go_skip rfl rfl rfl hg_2 rfl rfl ?_
            refine go_skip rfl rfl rfl hg_2 rfl rfl ?_
            refine go_skip rfl rfl rfl hg_2 rfl rfl ?_
            refine go_skip rfl rfl rfl hg_2 rfl rfl ?_
            refine go_skip rfl rfl rfl hg_2 rfl rfl ?_
            refine go_skip rfl rfl rfl hg_2 rfl rfl ?_
            refine go_p rfl rfl rfl (o_pickF rfl hg_2 rfl) ?_
            exact go_meet hk2 (congrArg (fun b => some (D.bool b)) (some_eq hp_2)) trivial
          refine go_p rfl rfl rfl (o_assign rfl) ?_
          refine go_nil ?_
          refine g_ret ?_
          exact retK (ret_one' rfl (ret_tmp rfl) (perm_drop _)) (congrArg (fun (p : Bool) => (.bool p : D)) (some_eq hm1))
        · replace hm1 := cond_f hc4 hm1
          refine g_skip ?_
          refine g_seq ?_
          refine g_region ?_
          refine go_p rfl rfl rfl (o_assign rfl) ?_
          refine go_nil ?_
          refine g_ret ?_
          exact retK (ret_one' rfl (ret_tmp rfl) (perm_drop _)) (congrArg (fun (p : Bool) => (.bool p : D)) (some_eq hm1))
def m_subst_put_1_l1 (self : Int → Option ApiExpr) (c1 : ApiExpr) (c2 : (List UInt8)) (x1 : ApiNode) (x2 : (List Int)) : Nat → (Int × (List ApiExpr)) → Option (List ApiExpr)
  | 0, _ => none
  | n + 1, (x3, l2) =>
    bif (decide (x3 < (x2.length : Int))) then
      (idx x2 x3).bind fun x4 =>
      (m_subst_hides (⟨x1.kind, x1.a, x1.b, x1.c, x1.n_, x1.name, x1.s, x1.l, x1.pos⟩ : ApiNode) x3 c2).bind fun x5 =>
      bif x5 then
        (m_subst_sub c1 x4).bind fun x6 =>
        grd ((l2.length + ([x6] : List _).length) * 24 ≤ 140737488355328) <|
        grd (InR (x3 + 1)) <|
        m_subst_put_1_l1 self c1 c2 x1 x2 n ((x3 + 1), (l2 ++ [x6]))
      else
        (self x4).bind fun x7 =>
        grd ((l2.length + ([x7] : List _).length) * 24 ≤ 140737488355328) <|
        grd (InR (x3 + 1)) <|
        m_subst_put_1_l1 self c1 c2 x1 x2 n ((x3 + 1), (l2 ++ [x7]))
    else
      some l2
def m_subst_put_1F (self : Int → Option ApiExpr) (i1 : Int) (c1 : ApiExpr) (c2 : (List UInt8)) (c3 : ApiExpr) : Option ApiExpr :=
  (idx c1.l i1).bind fun x1 =>
  bif ((decide (x1.kind = 4)) && (decide ((x1.name : List UInt8) = c2))) then
    some (⟨c3.l⟩ : ApiExpr)
  else
    (m_tree_Kids (⟨x1.kind, x1.a, x1.b, x1.c, x1.n_, x1.name, x1.s, x1.l, x1.pos⟩ : ApiNode)).bind fun x2 =>
    (m_subst_put_1_l1 self c1 c2 x1 x2 FU (0, []) : Option (List ApiExpr)).bind fun l1 =>
    (m_tree_Join (⟨x1.kind, x1.a, x1.b, x1.c, x1.n_, x1.name, x1.s, x1.l, x1.pos⟩ : ApiNode) l1).bind fun x8 =>
    some (⟨x8.l⟩ : ApiExpr)
def m_subst_put_1 (c1 : ApiExpr) (c2 : (List UInt8)) (c3 : ApiExpr) : Nat → Int → Option ApiExpr
  | 0 => fun _ => none
  | n + 1 => fun i1 => m_subst_put_1F (m_subst_put_1 c1 c2 c3 n) i1 c1 c2 c3
end Go.Proofs.Ytnnjgbcojdnhhaa
