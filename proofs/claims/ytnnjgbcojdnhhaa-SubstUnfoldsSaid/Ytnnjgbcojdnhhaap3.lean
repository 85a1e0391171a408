/- Part 3 of the proof: a program logic, what the functions compute, and what these answer; no condition. -/
import Derived.Test.Ytnnjgbcojdnhhaap2
import Derived.Test.YtnnjgbcojdnhhaaProg
set_option linter.unusedVariables false
set_option linter.unusedSimpArgs false
set_option maxRecDepth 100000
set_option maxHeartbeats 2000000
namespace Go.Proofs.Ytnnjgbcojdnhhaa
open Go.V
theorem Try_mixed : Try.prog.follows .mixedOrders = true := by kernel_rfl
structure ApiField where
  name : (List UInt8)
  var : (List UInt8)
  at_ : Int
def ApiField.d (x : ApiField) : D := .agg [.str x.name, .str x.var, .i64 x.at_]
structure ApiNode where
  kind : Int
  a : Int
  b : Int
  c : Int
  n_ : Int
  name : (List UInt8)
  s : (List UInt8)
  l : (List ApiField)
  pos : Int
def ApiNode.d (x : ApiNode) : D := .agg [.i64 x.kind, .i64 x.a, .i64 x.b, .i64 x.c, .i64 x.n_, .str x.name, .str x.s, .list 3 ApiField.d x.l, .i64 x.pos]
structure ApiExpr where
  l : (List ApiNode)
def ApiExpr.d (x : ApiExpr) : D := .agg [.list 9 ApiNode.d x.l]
theorem w_Clone_75 {l : List Int} (hl : l.length * 8 ≤ 140737488355328) :
    Go.V.Fn Try.prog 75 [.list 1 D.i64 l] [] (fun d ms' => ∃ a cap, d = .v (.slice a l.length cap) ∧ ms' = [arr a l.length cap 3 1 D.i64 l]) := by
  refine fn_intro Try.func75 rfl Try.ntmps75 rfl fun H0 fr w0 => ?_
  refine g_seq ?_
  refine g_region ?_
  refine go_p rfl rfl rfl (o_assign rfl) ?_
  refine go_nil ?_
  refine g_seq ?_
  refine g_seq ?_
  refine g_region ?_
  refine go_p rfl rfl rfl (o_move rfl) ?_
  refine go_op rfl rfl rfl (o_eqnil_slice Try.underlying46 rfl rfl) ?_
  rintro _ _ ⟨b, rfl, rfl, hb⟩
  refine go_nil ?_
  refine g_cond rfl (fun hc1 => ?_) (fun hc1 => ?_)
  · -- 1T
    skip
    obtain rfl := hb hc1
    refine g_conv (refines_newarr (T := 3) (sz := 1) (f := D.i64)) ?_
    refine g_seq ?_
    refine g_region ?_
    refine go_p rfl rfl rfl (o_assign rfl) ?_
    refine go_nil ?_
    refine g_ret ?_
    exact retK (ret_one' rfl (ret_tmp rfl) (perm_none _)) (⟨none, 0, rfl, rfl⟩) -- ret1 1T.
  · -- 1F
    skip
    refine g_skip ?_
    refine g_seq ?_
    refine g_region ?_
    refine go_op rfl rfl rfl (o_buildSlice_row (xs := []) (f := D.i64) (l := []) Try.runUnderlying46 Try.sizeOf3 Try.zeroValue3 rfl rfl rfl (fun _ => ⟨rfl, rfl, rfl⟩) rfl (by simp [maxLen])) ?_
    rintro _ _ ⟨a1, rfl, rfl⟩
    refine go_p rfl rfl rfl (o_move rfl) ?_
    refine go_op rfl rfl rfl (o_append_arr (a := _) 0 Try.underlying46 Try.type3 rfl rfl rfl rfl rfl rfl rfl rfl hl (app_len hl rfl)) ?_
    rintro _ _ ⟨a2, cap2, rfl, rfl⟩
    refine go_p rfl rfl rfl (o_assign rfl) ?_
    refine go_nil ?_
    refine g_ret ?_
    exact retK (ret_one' rfl (ret_tmp rfl) (perm_none _)) (⟨_, _, rfl, rfl⟩) -- ret2 1F.
theorem w_Clone_115 {l : List ApiField} (hl : l.length * 40 ≤ 140737488355328) :
    Go.V.Fn Try.prog 115 [.list 3 ApiField.d l] [] (fun d ms' => ∃ a cap, d = .v (.slice a l.length cap) ∧ ms' = [arr a l.length cap 102 3 ApiField.d l]) := by
  refine fn_intro Try.func115 rfl Try.ntmps115 rfl fun H0 fr w0 => ?_
  refine g_seq ?_
  refine g_region ?_
  refine go_p rfl rfl rfl (o_assign rfl) ?_
  refine go_nil ?_
  refine g_seq ?_
  refine g_seq ?_
  refine g_region ?_
  refine go_p rfl rfl rfl (o_move rfl) ?_
  refine go_op rfl rfl rfl (o_eqnil_slice Try.underlying38 rfl rfl) ?_
  rintro _ _ ⟨b, rfl, rfl, hb⟩
  refine go_nil ?_
  refine g_cond rfl (fun hc1 => ?_) (fun hc1 => ?_)
  · -- 1T
    skip
    obtain rfl := hb hc1
    refine g_conv (refines_newarr (T := 102) (sz := 3) (f := ApiField.d)) ?_
    refine g_seq ?_
    refine g_region ?_
    refine go_p rfl rfl rfl (o_assign rfl) ?_
    refine go_nil ?_
    refine g_ret ?_
    exact retK (ret_one' rfl (ret_tmp rfl) (perm_none _)) (⟨none, 0, rfl, rfl⟩) -- ret1 1T.
  · -- 1F
    skip
    refine g_skip ?_
    refine g_seq ?_
    refine g_region ?_
    refine go_op rfl rfl rfl (o_buildSlice_row (xs := []) (f := ApiField.d) (l := []) Try.runUnderlying38 Try.sizeOf102 Try.zeroValue102 rfl rfl rfl (fun _ => ⟨rfl, rfl, rfl⟩) rfl (by simp [maxLen])) ?_
    rintro _ _ ⟨a1, rfl, rfl⟩
    refine go_p rfl rfl rfl (o_move rfl) ?_
    refine go_op rfl rfl rfl (o_append_arr (a := _) 0 Try.underlying38 Try.type102 rfl rfl rfl rfl rfl rfl rfl rfl hl (app_len hl rfl)) ?_
    rintro _ _ ⟨a2, cap2, rfl, rfl⟩
    refine go_p rfl rfl rfl (o_assign rfl) ?_
    refine go_nil ?_
    refine g_ret ?_
    exact retK (ret_one' rfl (ret_tmp rfl) (perm_none _)) (⟨_, _, rfl, rfl⟩) -- ret2 1F.
def m_name_small (c1 : UInt8) : Option Bool :=
  some (((decide (97 ≤ (c1.toNat : Int))) && (decide ((c1.toNat : Int) ≤ 122))) || (decide ((c1.toNat : Int) = 95)))
theorem w_name_small {c1 : UInt8} {r_1 : Bool} (hm : m_name_small c1 = some r_1) : Fn0 Try.prog 125 [.u8 c1] (.bool r_1) := by
  unfold m_name_small at hm
  refine fn_intro Try.func125 rfl Try.ntmps125 rfl fun H0 fr w0 => ?_
  refine g_seq ?_
  refine g_region ?_
  refine go_p rfl rfl rfl (o_assign rfl) ?_
  refine go_nil ?_
  refine g_seq ?_
  refine g_region ?_
  refine go_p rfl rfl rfl (o_move rfl) ?_
  refine go_p rfl rfl rfl (o_cmp rfl rfl rfl) ?_
  refine go_p rfl rfl rfl (o_move rfl) ?_
  apply go_and [(0, _)] 3 8 (t := 5) ⟨rfl, trivial⟩ rfl
  · intro hg_1 hk1
    refine go_wantp rfl rfl rfl hg_1 rfl rfl (o_move rfl) ?_
    refine go_wantp rfl rfl rfl hg_1 rfl rfl (o_cmp rfl rfl rfl) ?_
    refine go_p rfl rfl rfl (o_pickT rfl hg_1 rfl) ?_
    exact go_meet hk1 (rfl) ⟨rfl, trivial⟩
  · intro hg_1 hk1
    refine go_skip rfl rfl rfl hg_1 rfl rfl ?_
    refine go_skip rfl rfl rfl hg_1 rfl rfl ?_
    refine go_p rfl rfl rfl (o_pickF rfl hg_1 rfl) ?_
    exact go_meet hk1 (rfl) ⟨rfl, trivial⟩
  refine go_p rfl rfl rfl (o_move rfl) ?_
  apply go_or [] 3 12 (t := 9) trivial rfl
  · intro hg_2 hk2
    refine go_wantp rfl rfl rfl hg_2 rfl rfl (o_move rfl) ?_
    refine go_wantp rfl rfl rfl hg_2 rfl rfl (o_cmp rfl rfl rfl) ?_
    refine go_p rfl rfl rfl (o_pickF rfl hg_2 rfl) ?_
    exact go_meet hk2 (rfl) trivial
  · intro hg_2 hk2
    refine go_skip rfl rfl rfl hg_2 rfl rfl ?_
    refine go_skip rfl rfl rfl hg_2 rfl rfl ?_
    refine go_p rfl rfl rfl (o_pickT rfl hg_2 rfl) ?_
    exact go_meet hk2 (rfl) trivial
  refine go_p rfl rfl rfl (o_assign rfl) ?_
  refine go_nil ?_
  refine g_ret ?_
  exact retK (ret_one' rfl (ret_tmp rfl) (perm_drop _)) (congrArg (fun (p : Bool) => (.bool p : D)) (some_eq hm))
def m_name_great (c1 : UInt8) : Option Bool :=
  some ((decide (65 ≤ (c1.toNat : Int))) && (decide ((c1.toNat : Int) ≤ 90)))
theorem w_name_great {c1 : UInt8} {r_1 : Bool} (hm : m_name_great c1 = some r_1) : Fn0 Try.prog 153 [.u8 c1] (.bool r_1) := by
  unfold m_name_great at hm
  refine fn_intro Try.func153 rfl Try.ntmps153 rfl fun H0 fr w0 => ?_
  refine g_seq ?_
  refine g_region ?_
  refine go_p rfl rfl rfl (o_assign rfl) ?_
  refine go_nil ?_
  refine g_seq ?_
  refine g_region ?_
  refine go_p rfl rfl rfl (o_move rfl) ?_
  refine go_p rfl rfl rfl (o_cmp rfl rfl rfl) ?_
  refine go_p rfl rfl rfl (o_move rfl) ?_
  apply go_and [] 3 8 (t := 5) trivial rfl
  · intro hg_1 hk1
    refine go_wantp rfl rfl rfl hg_1 rfl rfl (o_move rfl) ?_
    refine go_wantp rfl rfl rfl hg_1 rfl rfl (o_cmp rfl rfl rfl) ?_
    refine go_p rfl rfl rfl (o_pickT rfl hg_1 rfl) ?_
    exact go_meet hk1 (rfl) trivial
  · intro hg_1 hk1
    refine go_skip rfl rfl rfl hg_1 rfl rfl ?_
    refine go_skip rfl rfl rfl hg_1 rfl rfl ?_
    refine go_p rfl rfl rfl (o_pickF rfl hg_1 rfl) ?_
    exact go_meet hk1 (rfl) trivial
  refine go_p rfl rfl rfl (o_assign rfl) ?_
  refine go_nil ?_
  refine g_ret ?_
  exact retK (ret_one' rfl (ret_tmp rfl) (perm_drop _)) (congrArg (fun (p : Bool) => (.bool p : D)) (some_eq hm))
def m_name_more (c1 : UInt8) : Option Bool :=
  (m_name_small c1).bind fun x1 =>
  (bif x1 then (some true) else ((m_name_great c1).bind fun x2 =>
  some x2)).bind fun p1 =>
  some (p1 || ((decide (48 ≤ (c1.toNat : Int))) && (decide ((c1.toNat : Int) ≤ 57))))
theorem w_name_more {c1 : UInt8} {r_1 : Bool} (hm : m_name_more c1 = some r_1) : Fn0 Try.prog 154 [.u8 c1] (.bool r_1) := by
  unfold m_name_more at hm
  refine fn_intro Try.func154 rfl Try.ntmps154 rfl fun H0 fr w0 => ?_
  refine g_seq ?_
  refine g_region ?_
  refine go_p rfl rfl rfl (o_assign rfl) ?_
  refine go_nil ?_
  refine g_seq ?_
  refine g_region ?_
  refine go_p rfl rfl rfl (o_move rfl) ?_
  obtain ⟨x1, hx1, hm⟩ := bind_some hm
  refine go_p rfl rfl rfl (o_call0 Try.call125 rfl (w_name_small hx1)) ?_
  refine go_p rfl rfl rfl (o_move rfl) ?_
  obtain ⟨p1, hp_1, hm⟩ := bind_some hm
  refine go_two [(0, _)] 3 8 p1 (t := 5) ⟨rfl, trivial⟩ rfl (fun hg_1 hk1 => ?_) (fun hg_1 hk1 => ?_) ?_
  · replace hp_1 := cond_t hg_1 hp_1
    refine go_skip rfl rfl rfl hg_1 rfl rfl ?_
    refine go_skip rfl rfl rfl hg_1 rfl rfl ?_
    refine go_p rfl rfl rfl (o_pickT rfl hg_1 rfl) ?_
    exact go_meet hk1 (congrArg (fun b => some (D.bool b)) (some_eq hp_1)) ⟨rfl, trivial⟩
  · replace hp_1 := cond_f hg_1 hp_1
    refine go_wantp rfl rfl rfl hg_1 rfl rfl (o_move rfl) ?_
    obtain ⟨x2, hx2, hp_1⟩ := bind_some hp_1
    refine go_wantp rfl rfl rfl hg_1 rfl rfl (o_call0 Try.call153 rfl (w_name_great hx2)) ?_
    refine go_p rfl rfl rfl (o_pickF rfl hg_1 rfl) ?_
    exact go_meet hk1 (congrArg (fun b => some (D.bool b)) (some_eq hp_1)) ⟨rfl, trivial⟩
  refine go_p rfl rfl rfl (o_move rfl) ?_
  apply go_or [] 7 16 (t := 9) trivial rfl
  · intro hg_2 hk2
    refine go_wantp rfl rfl rfl hg_2 rfl rfl (o_move rfl) ?_
    refine go_wantp rfl rfl rfl hg_2 rfl rfl (o_cmp rfl rfl rfl) ?_
    refine go_wantp rfl rfl rfl hg_2 rfl rfl (o_move rfl) ?_
    apply go_and [(9, _)] 3 15 (t := 12) ⟨rfl, trivial⟩ rfl
    · intro hg_3 hk3
      refine go_wantp rfl rfl rfl hg_3 rfl rfl (o_move rfl) ?_
      refine go_wantp rfl rfl rfl hg_3 rfl rfl (o_cmp rfl rfl rfl) ?_
      refine go_wantp rfl rfl rfl hg_2 rfl rfl (o_pickT rfl hg_3 rfl) ?_
      exact go_meet hk3 (rfl) ⟨rfl, trivial⟩
    · intro hg_3 hk3
      refine go_skip rfl rfl rfl hg_3 rfl rfl ?_
      refine go_skip rfl rfl rfl hg_3 rfl rfl ?_
      refine go_wantp rfl rfl rfl hg_2 rfl rfl (o_pickF rfl hg_3 rfl) ?_
      exact go_meet hk3 (rfl) ⟨rfl, trivial⟩
    refine go_p rfl rfl rfl (o_pickF rfl hg_2 rfl) ?_
    exact go_meet hk2 (rfl) trivial
  · intro hg_2 hk2
    refine go_skip rfl rfl rfl hg_2 rfl rfl ?_
    refine go_skip rfl rfl rfl hg_2 rfl rfl ?_
    refine go_skip rfl rfl rfl hg_2 rfl rfl ?_
    refine go_skipu rfl rfl rfl rfl rfl ?_
    refine go_skipu rfl rfl rfl rfl rfl ?_
    refine go_skip rfl rfl rfl hg_2 rfl rfl ?_
    refine go_p rfl rfl rfl (o_pickT rfl hg_2 rfl) ?_
    exact go_meet hk2 (rfl) trivial
  refine go_p rfl rfl rfl (o_assign rfl) ?_
  refine go_nil ?_
  refine g_ret ?_
  exact retK (ret_one' rfl (ret_tmp rfl) (perm_drop _)) (congrArg (fun (p : Bool) => (.bool p : D)) (some_eq hm))
def m_name_Word_l1 (s1 : (List UInt8)) : Nat → Int → Option Int
  | 0, _ => none
  | n + 1, n2 =>
    (bif (decide (n2 < (s1.length : Int))) then ((idx s1 n2).bind fun c3 =>
    (m_name_more c3).bind fun x3 =>
    some x3) else (some false)).bind fun p3 =>
    bif p3 then
      grd (InR (n2 + 1)) <|
      m_name_Word_l1 s1 n (n2 + 1)
    else
      some n2
def m_name_Word (s1 : (List UInt8)) : Option Int :=
  (bif (decide ((s1 : List UInt8) = ([] : List UInt8))) then (some true) else ((idx s1 0).bind fun c1 =>
  (m_name_small c1).bind fun x1 =>
  (bif (!x1) then ((idx s1 0).bind fun c2 =>
  (m_name_great c2).bind fun x2 =>
  some (!x2)) else (some false)).bind fun p2 =>
  some p2)).bind fun p1 =>
  bif p1 then
    some 0
  else
    (m_name_Word_l1 s1 FU 1 : Option Int).bind fun n1 =>
    some n1
theorem w_name_Word {s1 : (List UInt8)} {r_1 : Int} (hm : m_name_Word s1 = some r_1) : Fn0 Try.prog 135 [.str s1] (.i64 r_1) := by
  unfold m_name_Word at hm
  refine fn_intro Try.func135 rfl Try.ntmps135 rfl fun H0 fr w0 => ?_
  refine g_seq ?_
  refine g_region ?_
  refine go_p rfl rfl rfl (o_assign rfl) ?_
  refine go_nil ?_
  refine g_seq ?_
  refine g_seq ?_
  refine g_region ?_
  refine go_p rfl rfl rfl (o_move rfl) ?_
  refine go_p rfl rfl rfl (o_cmps rfl rfl rfl) ?_
  refine go_p rfl rfl rfl (o_move rfl) ?_
  obtain ⟨p1, hp_1, hm⟩ := bind_some hm
  refine go_two [(0, _)] 11 17 p1 (t := 6) ⟨rfl, trivial⟩ rfl (fun hg_1 hk1 => ?_) (fun hg_1 hk1 => ?_) ?_
  · replace hp_1 := cond_t hg_1 hp_1
    refine go_skip rfl rfl rfl hg_1 rfl rfl ?_
    refine go_skip rfl rfl rfl hg_1 rfl rfl ?_
    refine go_skip rfl rfl rfl hg_1 rfl rfl ?_
    refine go_skip rfl rfl rfl hg_1 rfl rfl ?_
    refine go_skip rfl rfl rfl hg_1 rfl rfl ?_
    refine go_skipu rfl rfl rfl rfl rfl ?_
    refine go_skipu rfl rfl rfl rfl rfl ?_
    refine go_skipu rfl rfl rfl rfl rfl ?_
    refine go_skipu rfl rfl rfl rfl rfl ?_
    refine go_skip rfl rfl rfl hg_1 rfl rfl ?_
    refine go_p rfl rfl rfl (o_pickT rfl hg_1 rfl) ?_
    exact go_meet hk1 (congrArg (fun b => some (D.bool b)) (some_eq hp_1)) ⟨rfl, trivial⟩
  · replace hp_1 := cond_f hg_1 hp_1
    refine go_wantp rfl rfl rfl hg_1 rfl rfl (o_move rfl) ?_
    obtain ⟨c1, hx1, hp_1⟩ := bind_some hp_1
    refine go_wantp rfl rfl rfl hg_1 rfl rfl (o_index_m Try.runUnderlying9 rfl rfl hx1) ?_
    obtain ⟨x1, hx2, hp_1⟩ := bind_some hp_1
    refine go_wantp rfl rfl rfl hg_1 rfl rfl (o_call0 Try.call125 rfl (w_name_small hx2)) ?_
    refine go_wantp rfl rfl rfl hg_1 rfl rfl (o_not rfl) ?_
    refine go_wantp rfl rfl rfl hg_1 rfl rfl (o_move rfl) ?_
    obtain ⟨p2, hp_2, hp_1⟩ := bind_some hp_1
    refine go_two [(0, _), (6, _)] 5 16 p2 (t := 11) ⟨rfl, rfl, trivial⟩ rfl (fun hg_2 hk2 => ?_) (fun hg_2 hk2 => ?_) ?_
    · replace hp_2 := cond_t hg_2 hp_2
      refine go_wantp rfl rfl rfl hg_2 rfl rfl (o_move rfl) ?_
      obtain ⟨c2, hx3, hp_2⟩ := bind_some hp_2
      refine go_wantp rfl rfl rfl hg_2 rfl rfl (o_index_m Try.runUnderlying9 rfl rfl hx3) ?_
      obtain ⟨x2, hx4, hp_2⟩ := bind_some hp_2
      refine go_wantp rfl rfl rfl hg_2 rfl rfl (o_call0 Try.call153 rfl (w_name_great hx4)) ?_
      refine go_wantp rfl rfl rfl hg_2 rfl rfl (o_not rfl) ?_
      refine go_wantp rfl rfl rfl hg_1 rfl rfl (o_pickT rfl hg_2 rfl) ?_
      exact go_meet hk2 (congrArg (fun b => some (D.bool b)) (some_eq hp_2)) ⟨rfl, rfl, trivial⟩
    · replace hp_2 := cond_f hg_2 hp_2
      refine go_skip rfl rfl rfl hg_2 rfl rfl ?_
      refine go_skip rfl rfl rfl hg_2 rfl rfl ?_
      refine go_skip rfl rfl rfl hg_2 rfl rfl ?_
      refine go_skip rfl rfl rfl hg_2 rfl rfl ?_
      refine go_wantp rfl rfl rfl hg_1 rfl rfl (o_pickF rfl hg_2 rfl) ?_
      exact go_meet hk2 (congrArg (fun b => some (D.bool b)) (some_eq hp_2)) ⟨rfl, rfl, trivial⟩
    refine go_p rfl rfl rfl (o_pickF rfl hg_1 rfl) ?_
    exact go_meet hk1 (congrArg (fun b => some (D.bool b)) (some_eq hp_1)) ⟨rfl, trivial⟩
  refine go_nil ?_
  refine g_cond rfl (fun hc1 => ?_) (fun hc1 => ?_)
  · replace hm := cond_t hc1 hm
    refine g_seq ?_
    refine g_region ?_
    refine go_p rfl rfl rfl (o_assign rfl) ?_
    refine go_nil ?_
    refine g_ret ?_
    exact retK (ret_one' rfl (ret_tmp rfl) (perm_drop _)) (congrArg (fun (p : Int) => (.i64 p : D)) (some_eq hm))
  · replace hm := cond_f hc1 hm
    refine g_skip ?_
    refine g_seq ?_
    refine g_region ?_
    refine go_p rfl rfl rfl (o_assign rfl) ?_
    refine go_nil ?_
    refine g_seq ?_
    obtain ⟨o_1, hj1, hm1⟩ := bind_some hm
    refine g_cut_m [] [] (fun (st : Int) (hid : Unit) => match st, hid with | n1, _ => [(3, .i64 n1)]) (fun F (st : Int) (hid : Unit) => match st, hid with | n1, _ => []) (fun st => st = o_1) trivial trivial ?_ ?_
    · skip
      refine g_block ?_
      refine g_loop_m [(0, _)] [] (fun (st : Int) (hid : Unit) => match st, hid with | n2, _ => [(3, .i64 n2)]) (fun F (st : Int) (hid : Unit) => match st, hid with | n2, _ => []) () hj1 (fun _ => rfl) ⟨rfl, trivial⟩ trivial ⟨rfl, trivial⟩ rfl ?_
      rintro n n2 _ hj1
      rw [m_name_Word_l1] at hj1
      refine g_norm (L' := [(3, .i64 n2), (0, _)]) (ms' := []) rfl rfl ?_
      refine g_seq ?_
      refine g_seq ?_
      refine g_region ?_
      refine go_p rfl rfl rfl (o_move rfl) ?_
      refine go_p rfl rfl rfl (o_move rfl) ?_
      refine go_p rfl rfl rfl (o_len_str Try.runUnderlying9 rfl) ?_
      refine go_p rfl rfl rfl (o_cmp rfl rfl rfl) ?_
      refine go_p rfl rfl rfl (o_move rfl) ?_
      obtain ⟨p3, hp_3, hj1⟩ := bind_some hj1
      refine go_two [(0, _), (3, _)] 5 27 p3 (t := 22) ⟨rfl, rfl, trivial⟩ rfl (fun hg_3 hk3 => ?_) (fun hg_3 hk3 => ?_) ?_
      · replace hp_3 := cond_t hg_3 hp_3
        refine go_wantp rfl rfl rfl hg_3 rfl rfl (o_move rfl) ?_
        refine go_wantp rfl rfl rfl hg_3 rfl rfl (o_move rfl) ?_
        obtain ⟨c3, hx5, hp_3⟩ := bind_some hp_3
        refine go_wantp rfl rfl rfl hg_3 rfl rfl (o_index_m Try.runUnderlying9 rfl rfl hx5) ?_
        obtain ⟨x3, hx6, hp_3⟩ := bind_some hp_3
        refine go_wantp rfl rfl rfl hg_3 rfl rfl (o_call0 Try.call154 rfl (w_name_more hx6)) ?_
        refine go_p rfl rfl rfl (o_pickT rfl hg_3 rfl) ?_
        exact go_meet hk3 (congrArg (fun b => some (D.bool b)) (some_eq hp_3)) ⟨rfl, rfl, trivial⟩
      · replace hp_3 := cond_f hg_3 hp_3
        refine go_skip rfl rfl rfl hg_3 rfl rfl ?_
        refine go_skip rfl rfl rfl hg_3 rfl rfl ?_
        refine go_skip rfl rfl rfl hg_3 rfl rfl ?_
        refine go_skip rfl rfl rfl hg_3 rfl rfl ?_
        refine go_p rfl rfl rfl (o_pickF rfl hg_3 rfl) ?_
        exact go_meet hk3 (congrArg (fun b => some (D.bool b)) (some_eq hp_3)) ⟨rfl, rfl, trivial⟩
      refine go_nil ?_
      refine g_cond rfl (fun hc2 => ?_) (fun hc2 => ?_)
      · replace hj1 := cond_t hc2 hj1
        refine g_skip ?_
        refine g_block ?_
        refine g_region ?_
        refine go_p rfl rfl rfl (o_move rfl) ?_
        obtain ⟨hg7, hj1⟩ := grd_some hj1
        refine go_p rfl rfl rfl (o_add rfl rfl (i64_id hg7)) ?_
        refine go_p rfl rfl rfl (o_assign rfl) ?_
        refine go_nil ?_
        exact ⟨_, (), hj1, ⟨rfl, trivial⟩, ⟨rfl, trivial⟩, [], rfl⟩
      · replace hj1 := cond_f hc2 hj1
        refine g_exit ?_
        exact ⟨_, (), some_eq hj1, ⟨rfl, trivial⟩, trivial, [], rfl⟩
    · rintro n1 _ hst
      subst hst
      refine k_norm (L' := [(3, .i64 n1)]) (ms' := []) rfl rfl ?_
      refine g_seq ?_
      refine g_region ?_
      refine go_p rfl rfl rfl (o_move rfl) ?_
      refine go_p rfl rfl rfl (o_assign rfl) ?_
      refine go_nil ?_
      refine g_ret ?_
      exact retK (ret_one' rfl (ret_tmp rfl) (perm_drop _)) (congrArg (fun (p : Int) => (.i64 p : D)) (some_eq hm1))
def m_name_whole (s1 : (List UInt8)) : Option Bool :=
  (bif ((!decide ((s1 : List UInt8) = ([] : List UInt8))) && (decide ((s1.length : Int) ≤ 20))) then ((m_name_Word s1).bind fun x1 =>
  some (decide (x1 = (s1.length : Int)))) else (some false)).bind fun p1 =>
  some p1
theorem w_name_whole {s1 : (List UInt8)} {r_1 : Bool} (hm : m_name_whole s1 = some r_1) : Fn0 Try.prog 124 [.str s1] (.bool r_1) := by
  unfold m_name_whole at hm
  refine fn_intro Try.func124 rfl Try.ntmps124 rfl fun H0 fr w0 => ?_
  refine g_seq ?_
  refine g_region ?_
  refine go_p rfl rfl rfl (o_assign rfl) ?_
  refine go_nil ?_
  refine g_seq ?_
  refine g_region ?_
  refine go_p rfl rfl rfl (o_move rfl) ?_
  refine go_p rfl rfl rfl (o_cmps rfl rfl rfl) ?_
  refine go_p rfl rfl rfl (o_move rfl) ?_
  apply go_and [(0, _)] 4 9 (t := 5) ⟨rfl, trivial⟩ rfl
  · intro hg_1 hk1
    refine go_wantp rfl rfl rfl hg_1 rfl rfl (o_move rfl) ?_
    refine go_wantp rfl rfl rfl hg_1 rfl rfl (o_len_str Try.runUnderlying9 rfl) ?_
    refine go_wantp rfl rfl rfl hg_1 rfl rfl (o_cmp rfl rfl rfl) ?_
    refine go_p rfl rfl rfl (o_pickT rfl hg_1 rfl) ?_
    exact go_meet hk1 (rfl) ⟨rfl, trivial⟩
  · intro hg_1 hk1
    refine go_skip rfl rfl rfl hg_1 rfl rfl ?_
    refine go_skip rfl rfl rfl hg_1 rfl rfl ?_
    refine go_skip rfl rfl rfl hg_1 rfl rfl ?_
    refine go_p rfl rfl rfl (o_pickF rfl hg_1 rfl) ?_
    exact go_meet hk1 (rfl) ⟨rfl, trivial⟩
  refine go_p rfl rfl rfl (o_move rfl) ?_
  obtain ⟨p1, hp_2, hm⟩ := bind_some hm
  refine go_two [] 6 16 p1 (t := 10) trivial rfl (fun hg_2 hk2 => ?_) (fun hg_2 hk2 => ?_) ?_
  · replace hp_2 := cond_t hg_2 hp_2
    refine go_wantp rfl rfl rfl hg_2 rfl rfl (o_move rfl) ?_
    obtain ⟨x1, hx1, hp_2⟩ := bind_some hp_2
    refine go_wantp rfl rfl rfl hg_2 rfl rfl (o_call0 Try.call135 rfl (w_name_Word hx1)) ?_
    refine go_wantp rfl rfl rfl hg_2 rfl rfl (o_move rfl) ?_
    refine go_wantp rfl rfl rfl hg_2 rfl rfl (o_len_str Try.runUnderlying9 rfl) ?_
    refine go_wantp rfl rfl rfl hg_2 rfl rfl (o_cmp rfl rfl rfl) ?_
    refine go_p rfl rfl rfl (o_pickT rfl hg_2 rfl) ?_
    exact go_meet hk2 (congrArg (fun b => some (D.bool b)) (some_eq hp_2)) trivial
  · replace hp_2 := cond_f hg_2 hp_2
    refine go_skip rfl rfl rfl hg_2 rfl rfl ?_
    refine go_skip rfl rfl rfl hg_2 rfl rfl ?_
    refine go_skip rfl rfl rfl hg_2 rfl rfl ?_
    refine go_skip rfl rfl rfl hg_2 rfl rfl ?_
    refine go_skip rfl rfl rfl hg_2 rfl rfl ?_
    refine go_p rfl rfl rfl (o_pickF rfl hg_2 rfl) ?_
    exact go_meet hk2 (congrArg (fun b => some (D.bool b)) (some_eq hp_2)) trivial
  refine go_p rfl rfl rfl (o_assign rfl) ?_
  refine go_nil ?_
  refine g_ret ?_
  exact retK (ret_one' rfl (ret_tmp rfl) (perm_drop _)) (congrArg (fun (p : Bool) => (.bool p : D)) (some_eq hm))
def m_slices_Index_string_string_l1 (s1 : (List (List UInt8))) (v1 : (List UInt8)) : Nat → Int → Option (Out Int Unit)
  | 0, _ => none
  | n + 1, x1 =>
    bif (decide (x1 < (s1.length : Int))) then
      (idx s1 x1).bind fun x2 =>
      bif (decide ((v1 : List UInt8) = x2)) then
        some (Out.ret x1)
      else
        grd (InR (x1 + 1)) <|
        m_slices_Index_string_string_l1 s1 v1 n (x1 + 1)
    else
      some (Out.go (()))
def m_slices_Index_string_string (s1 : (List (List UInt8))) (v1 : (List UInt8)) : Option Int :=
  ((m_slices_Index_string_string_l1 s1 v1 FU 0 : Option (Out Int Unit))).bind (fun oo => oo.on (fun r1 => some r1) (fun _ =>
  some (-1)))
theorem w_slices_Index_string_string {s1 : (List (List UInt8))} {v1 : (List UInt8)} {r_1 : Int} (hm : m_slices_Index_string_string s1 v1 = some r_1) : Fn0 Try.prog 119 [.list 1 D.str s1, .str v1] (.i64 r_1) := by
  unfold m_slices_Index_string_string at hm
  refine fn_intro Try.func119 rfl Try.ntmps119 rfl fun H0 fr w0 => ?_
  refine g_seq ?_
  refine g_region ?_
  refine go_p rfl rfl rfl (o_assign rfl) ?_
  refine go_nil ?_
  refine g_seq ?_
  refine g_seq ?_
  refine g_region ?_
  refine go_p rfl rfl rfl (o_move rfl) ?_
  refine go_p rfl rfl rfl (o_len Try.runUnderlying62 rfl) ?_
  refine go_p rfl rfl rfl (o_move rfl) ?_
  refine go_nil ?_
  obtain ⟨o_1, hj1, hm1⟩ := bind_some hm
  refine g_cut_m [] [] (fun (st : Unit) (hid : Unit) => match st, hid with | _, _ => []) (fun F (st : Unit) (hid : Unit) => match st, hid with | _, _ => []) (fun st => Out.go (st) = o_1) trivial trivial ?_ ?_
  · skip
    refine g_block ?_
    refine g_loop_m [(0, _), (1, _), (7, _)] [] (fun (st : Int) (hid : Unit) => match st, hid with | x1, _ => [(8, .i64 x1)]) (fun F (st : Int) (hid : Unit) => match st, hid with | x1, _ => []) () hj1 (fun _ => rfl) ⟨rfl, rfl, rfl, trivial⟩ trivial ⟨rfl, trivial⟩ rfl ?_
    rintro n x1 _ hj1
    rw [m_slices_Index_string_string_l1] at hj1
    refine g_norm (L' := [(8, .i64 x1), (0, _), (1, _), (7, _)]) (ms' := []) rfl rfl ?_
    refine g_seq ?_
    refine g_region ?_
    refine go_p rfl rfl rfl (o_cmp rfl rfl rfl) ?_
    refine go_nil ?_
    refine g_seq ?_
    refine g_cond rfl (fun hc1 => ?_) (fun hc1 => ?_)
    · replace hj1 := cond_t hc1 hj1
      refine g_skip ?_
      refine g_seq ?_
      refine g_block ?_
      refine g_seq ?_
      refine g_region ?_
      refine go_p rfl rfl rfl (o_move rfl) ?_
      refine go_p rfl rfl rfl (o_assign rfl) ?_
      refine go_nil ?_
      refine g_seq ?_
      refine g_region ?_
      refine go_p rfl rfl rfl (o_move rfl) ?_
      refine go_p rfl rfl rfl (o_move rfl) ?_
      refine go_p rfl rfl rfl (o_move rfl) ?_
      obtain ⟨x2, hx1, hj1⟩ := bind_some hj1
      refine go_p rfl rfl rfl (o_indexAddr_m Try.runUnderlying62 Try.sizeOf9 rfl rfl hx1) ?_
      refine go_p rfl rfl rfl (o_load Try.isAgg9 rfl rfl) ?_
      refine go_p rfl rfl rfl (o_cmps rfl rfl rfl) ?_
      refine go_nil ?_
      refine g_cond rfl (fun hc2 => ?_) (fun hc2 => ?_)
      · replace hj1 := cond_t hc2 hj1
        refine g_seq ?_
        refine g_region ?_
        refine go_p rfl rfl rfl (o_move rfl) ?_
        refine go_p rfl rfl rfl (o_assign rfl) ?_
        refine go_nil ?_
        refine g_ret ?_
        obtain rfl := some_eq hj1
        replace hm1 := on_ret hm1
        exact retK (ret_one' rfl (ret_tmp rfl) (perm_drop _)) (congrArg (fun (p : Int) => (.i64 p : D)) (some_eq hm1))
      · replace hj1 := cond_f hc2 hj1
        refine g_skip ?_
        refine g_region ?_
        obtain ⟨hg2, hj1⟩ := grd_some hj1
        refine go_p rfl rfl rfl (o_add rfl rfl (i64_id hg2)) ?_
        refine go_p rfl rfl rfl (o_move rfl) ?_
        refine go_nil ?_
        exact ⟨_, (), hj1, ⟨rfl, trivial⟩, ⟨rfl, rfl, rfl, trivial⟩, [], rfl⟩
    · replace hj1 := cond_f hc1 hj1
      refine g_exit ?_
      exact ⟨_, (), some_eq hj1, trivial, trivial, [], rfl⟩
  · rintro _ _ hst
    subst hst
    replace hm1 := on_go hm1
    refine k_norm (L' := []) (ms' := []) rfl rfl ?_
    refine g_seq ?_
    refine g_region ?_
    refine go_p rfl rfl rfl (o_assign rfl) ?_
    refine go_nil ?_
    refine g_ret ?_
    exact retK (ret_one' rfl (ret_tmp rfl) (perm_drop _)) (congrArg (fun (p : Int) => (.i64 p : D)) (some_eq hm1))
def m_slices_Contains_string_string (s1 : (List (List UInt8))) (v1 : (List UInt8)) : Option Bool :=
  (m_slices_Index_string_string s1 v1).bind fun x1 =>
  some (decide (0 ≤ x1))
theorem w_slices_Contains_string_string {s1 : (List (List UInt8))} {v1 : (List UInt8)} {r_1 : Bool} (hm : m_slices_Contains_string_string s1 v1 = some r_1) : Fn0 Try.prog 85 [.list 1 D.str s1, .str v1] (.bool r_1) := by
  unfold m_slices_Contains_string_string at hm
  refine fn_intro Try.func85 rfl Try.ntmps85 rfl fun H0 fr w0 => ?_
  refine g_seq ?_
  refine g_region ?_
  refine go_p rfl rfl rfl (o_assign rfl) ?_
  refine go_nil ?_
  refine g_seq ?_
  refine g_region ?_
  refine go_p rfl rfl rfl (o_move rfl) ?_
  refine go_p rfl rfl rfl (o_move rfl) ?_
  obtain ⟨x1, hx1, hm⟩ := bind_some hm
  refine go_p rfl rfl rfl (o_call0 Try.call119 rfl (w_slices_Index_string_string hx1)) ?_
  refine go_p rfl rfl rfl (o_cmp rfl rfl rfl) ?_
  refine go_p rfl rfl rfl (o_assign rfl) ?_
  refine go_nil ?_
  refine g_ret ?_
  exact retK (ret_one' rfl (ret_tmp rfl) (perm_drop _)) (congrArg (fun (p : Bool) => (.bool p : D)) (some_eq hm))
def m_name_Keywords  : Option (List (List UInt8)) :=
  some [([102, 117, 110] : List UInt8), ([108, 101, 116] : List UInt8), ([114, 101, 99] : List UInt8), ([105, 110] : List UInt8), ([105, 102] : List UInt8), ([116, 104, 101, 110] : List UInt8), ([101, 108, 115, 101] : List UInt8), ([99, 97, 115, 101] : List UInt8), ([111, 102] : List UInt8), ([101, 110, 100] : List UInt8), ([116, 114, 117, 101] : List UInt8), ([102, 97, 108, 115, 101] : List UInt8), ([99, 104, 101, 99, 107] : List UInt8), ([97, 115, 107] : List UInt8), ([116, 111, 112] : List UInt8), ([98, 111, 116] : List UInt8), ([105, 110, 116] : List UInt8), ([98, 111, 111, 108] : List UInt8), ([115, 116, 114, 105, 110, 103] : List UInt8), ([109, 117] : List UInt8)]
theorem w_name_Keywords  {r_1 : (List (List UInt8))} (hm : m_name_Keywords = some r_1) : Fn0 Try.prog 150 [] (.list 1 D.str r_1) := by
  unfold m_name_Keywords at hm
  refine fn_intro Try.func150 rfl Try.ntmps150 rfl fun H0 fr w0 => ?_
  refine g_seq ?_
  refine g_region ?_
  refine go_p rfl rfl rfl (o_assign rfl) ?_
  refine go_conv (nilE (i := 0) (sz := 1) (f := D.str) rfl).refines ?_
  refine go_nil ?_
  refine g_seq ?_
  refine g_region ?_
  refine go_p rfl rfl rfl (o_buildSlice (xs := [_, _, _, _, _, _, _, _, _, _, _, _, _, _, _, _, _, _, _, _]) (f := D.str) (l := [_, _, _, _, _, _, _, _, _, _, _, _, _, _, _, _, _, _, _, _]) Try.runUnderlying62 Try.sizeOf9 Try.zeroValue9 rfl rfl rfl (fun _ => ⟨rfl, rfl, rfl⟩) rfl) ?_
  refine go_p rfl rfl rfl (o_assign rfl) ?_
  refine go_nil ?_
  refine g_ret ?_
  exact retK (ret_one' rfl (ret_tmp rfl) (perm_drop _)) (congrArg (fun (p : (List (List UInt8))) => (.list 1 D.str p : D)) (some_eq hm))
def m_name_Keyword (s1 : (List UInt8)) : Option Bool :=
  (m_name_Keywords).bind fun x1 =>
  (m_slices_Contains_string_string x1 s1).bind fun x2 =>
  some x2
theorem w_name_Keyword {s1 : (List UInt8)} {r_1 : Bool} (hm : m_name_Keyword s1 = some r_1) : Fn0 Try.prog 126 [.str s1] (.bool r_1) := by
  unfold m_name_Keyword at hm
  refine fn_intro Try.func126 rfl Try.ntmps126 rfl fun H0 fr w0 => ?_
  refine g_seq ?_
  refine g_region ?_
  refine go_p rfl rfl rfl (o_assign rfl) ?_
  refine go_nil ?_
  refine g_seq ?_
  refine g_region ?_
  obtain ⟨x1, hx1, hm⟩ := bind_some hm
  refine go_p rfl rfl rfl (o_call0 Try.call150 rfl (w_name_Keywords hx1)) ?_
  refine go_p rfl rfl rfl (o_move rfl) ?_
  obtain ⟨x2, hx2, hm⟩ := bind_some hm
  refine go_p rfl rfl rfl (o_call0 Try.call85 rfl (w_slices_Contains_string_string hx2)) ?_
  refine go_p rfl rfl rfl (o_assign rfl) ?_
  refine go_nil ?_
  refine g_ret ?_
  exact retK (ret_one' rfl (ret_tmp rfl) (perm_drop _)) (congrArg (fun (p : Bool) => (.bool p : D)) (some_eq hm))
def m_name_Name (s1 : (List UInt8)) : Option Bool :=
  (m_name_whole s1).bind fun x1 =>
  (bif x1 then ((idx s1 0).bind fun c1 =>
  (m_name_small c1).bind fun x2 =>
  some x2) else (some false)).bind fun p1 =>
  (bif p1 then ((m_name_Keyword s1).bind fun x3 =>
  some (!x3)) else (some false)).bind fun p2 =>
  some p2
theorem w_name_Name {s1 : (List UInt8)} {r_1 : Bool} (hm : m_name_Name s1 = some r_1) : Fn0 Try.prog 91 [.str s1] (.bool r_1) := by
  unfold m_name_Name at hm
  refine fn_intro Try.func91 rfl Try.ntmps91 rfl fun H0 fr w0 => ?_
  refine g_seq ?_
  refine g_region ?_
  refine go_p rfl rfl rfl (o_assign rfl) ?_
  refine go_nil ?_
  refine g_seq ?_
  refine g_region ?_
  refine go_p rfl rfl rfl (o_move rfl) ?_
  obtain ⟨x1, hx1, hm⟩ := bind_some hm
  refine go_p rfl rfl rfl (o_call0 Try.call124 rfl (w_name_whole hx1)) ?_
  refine go_p rfl rfl rfl (o_move rfl) ?_
  obtain ⟨p1, hp_1, hm⟩ := bind_some hm
  refine go_two [(0, _)] 4 9 p1 (t := 5) ⟨rfl, trivial⟩ rfl (fun hg_1 hk1 => ?_) (fun hg_1 hk1 => ?_) ?_
  · replace hp_1 := cond_t hg_1 hp_1
    refine go_wantp rfl rfl rfl hg_1 rfl rfl (o_move rfl) ?_
    obtain ⟨c1, hx2, hp_1⟩ := bind_some hp_1
    refine go_wantp rfl rfl rfl hg_1 rfl rfl (o_index_m Try.runUnderlying9 rfl rfl hx2) ?_
    obtain ⟨x2, hx3, hp_1⟩ := bind_some hp_1
    refine go_wantp rfl rfl rfl hg_1 rfl rfl (o_call0 Try.call125 rfl (w_name_small hx3)) ?_
    refine go_p rfl rfl rfl (o_pickT rfl hg_1 rfl) ?_
    exact go_meet hk1 (congrArg (fun b => some (D.bool b)) (some_eq hp_1)) ⟨rfl, trivial⟩
  · replace hp_1 := cond_f hg_1 hp_1
    refine go_skip rfl rfl rfl hg_1 rfl rfl ?_
    refine go_skip rfl rfl rfl hg_1 rfl rfl ?_
    refine go_skip rfl rfl rfl hg_1 rfl rfl ?_
    refine go_p rfl rfl rfl (o_pickF rfl hg_1 rfl) ?_
    exact go_meet hk1 (congrArg (fun b => some (D.bool b)) (some_eq hp_1)) ⟨rfl, trivial⟩
  refine go_p rfl rfl rfl (o_move rfl) ?_
  obtain ⟨p2, hp_2, hm⟩ := bind_some hm
  refine go_two [] 4 14 p2 (t := 10) trivial rfl (fun hg_2 hk2 => ?_) (fun hg_2 hk2 => ?_) ?_
  · replace hp_2 := cond_t hg_2 hp_2
    refine go_wantp rfl rfl rfl hg_2 rfl rfl (o_move rfl) ?_
    obtain ⟨x3, hx4, hp_2⟩ := bind_some hp_2
    refine go_wantp rfl rfl rfl hg_2 rfl rfl (o_call0 Try.call126 rfl (w_name_Keyword hx4)) ?_
    refine go_wantp rfl rfl rfl hg_2 rfl rfl (o_not rfl) ?_
    refine go_p rfl rfl rfl (o_pickT rfl hg_2 rfl) ?_
    exact go_meet hk2 (congrArg (fun b => some (D.bool b)) (some_eq hp_2)) trivial
  · replace hp_2 := cond_f hg_2 hp_2
    refine go_skip rfl rfl rfl hg_2 rfl rfl ?_
    refine go_skip rfl rfl rfl hg_2 rfl rfl ?_
    refine go_skip rfl rfl rfl hg_2 rfl rfl ?_
    refine go_p rfl rfl rfl (o_pickF rfl hg_2 rfl) ?_
    exact go_meet hk2 (congrArg (fun b => some (D.bool b)) (some_eq hp_2)) trivial
  refine go_p rfl rfl rfl (o_assign rfl) ?_
  refine go_nil ?_
  refine g_ret ?_
  exact retK (ret_one' rfl (ret_tmp rfl) (perm_drop _)) (congrArg (fun (p : Bool) => (.bool p : D)) (some_eq hm))
def m_name_Tag (s1 : (List UInt8)) : Option Bool :=
  (m_name_whole s1).bind fun x1 =>
  (bif x1 then ((idx s1 0).bind fun c1 =>
  (m_name_great c1).bind fun x2 =>
  some x2) else (some false)).bind fun p1 =>
  some p1
theorem w_name_Tag {s1 : (List UInt8)} {r_1 : Bool} (hm : m_name_Tag s1 = some r_1) : Fn0 Try.prog 144 [.str s1] (.bool r_1) := by
  unfold m_name_Tag at hm
  refine fn_intro Try.func144 rfl Try.ntmps144 rfl fun H0 fr w0 => ?_
  refine g_seq ?_
  refine g_region ?_
  refine go_p rfl rfl rfl (o_assign rfl) ?_
  refine go_nil ?_
  refine g_seq ?_
  refine g_region ?_
  refine go_p rfl rfl rfl (o_move rfl) ?_
  obtain ⟨x1, hx1, hm⟩ := bind_some hm
  refine go_p rfl rfl rfl (o_call0 Try.call124 rfl (w_name_whole hx1)) ?_
  refine go_p rfl rfl rfl (o_move rfl) ?_
  obtain ⟨p1, hp_1, hm⟩ := bind_some hm
  refine go_two [] 4 9 p1 (t := 5) trivial rfl (fun hg_1 hk1 => ?_) (fun hg_1 hk1 => ?_) ?_
  · replace hp_1 := cond_t hg_1 hp_1
    refine go_wantp rfl rfl rfl hg_1 rfl rfl (o_move rfl) ?_
    obtain ⟨c1, hx2, hp_1⟩ := bind_some hp_1
    refine go_wantp rfl rfl rfl hg_1 rfl rfl (o_index_m Try.runUnderlying9 rfl rfl hx2) ?_
    obtain ⟨x2, hx3, hp_1⟩ := bind_some hp_1
    refine go_wantp rfl rfl rfl hg_1 rfl rfl (o_call0 Try.call153 rfl (w_name_great hx3)) ?_
    refine go_p rfl rfl rfl (o_pickT rfl hg_1 rfl) ?_
    exact go_meet hk1 (congrArg (fun b => some (D.bool b)) (some_eq hp_1)) trivial
  · replace hp_1 := cond_f hg_1 hp_1
    refine go_skip rfl rfl rfl hg_1 rfl rfl ?_
    refine go_skip rfl rfl rfl hg_1 rfl rfl ?_
    refine go_skip rfl rfl rfl hg_1 rfl rfl ?_
    refine go_p rfl rfl rfl (o_pickF rfl hg_1 rfl) ?_
    exact go_meet hk1 (congrArg (fun b => some (D.bool b)) (some_eq hp_1)) trivial
  refine go_p rfl rfl rfl (o_assign rfl) ?_
  refine go_nil ?_
  refine g_ret ?_
  exact retK (ret_one' rfl (ret_tmp rfl) (perm_drop _)) (congrArg (fun (p : Bool) => (.bool p : D)) (some_eq hm))
theorem fi_40_0 : FieldIs Try.prog 40 0 0 1 false := ⟨⟨_, _, Try.runUnderlying40, rfl, rfl, Try.sizeOf3, by decide, Try.isAgg3⟩⟩
theorem fi_40_5 : FieldIs Try.prog 40 5 5 1 false := ⟨⟨_, _, Try.runUnderlying40, rfl, rfl, Try.sizeOf9, by decide, Try.isAgg9⟩⟩
def m_tree_named (n1 : ApiNode) : Option Bool :=
  (bif (decide (n1.kind = 4)) then
    some (decide (n1.kind = 4))
  else
    bif (decide (n1.kind = 5)) then
      some (decide (n1.kind = 5))
    else
      bif (decide (n1.kind = 7)) then
        some (decide (n1.kind = 7))
      else
        bif (decide (n1.kind = 8)) then
          some (decide (n1.kind = 8))
        else
          some (decide (n1.kind = 12)) : Option Bool).bind fun x1 =>
  bif x1 then
    (m_name_Name n1.name).bind fun x2 =>
    some x2
  else
    bif (decide (n1.kind = 13)) then
      (m_name_Tag n1.name).bind fun x3 =>
      some x3
    else
      some (decide ((n1.name : List UInt8) = ([] : List UInt8)))
theorem w_tree_named {n1 : ApiNode} {r_1 : Bool} (hm : m_tree_named n1 = some r_1) : Fn0 Try.prog 110 [ApiNode.d n1] (.bool r_1) := by
  unfold m_tree_named at hm
  refine fn_intro Try.func110 rfl Try.ntmps110 rfl fun H0 fr w0 => ?_
  refine g_seq ?_
  refine g_region ?_
  refine go_p rfl rfl rfl (o_box rfl rfl) ?_
  refine go_p rfl rfl rfl (o_assign rfl) ?_
  refine go_nil ?_
  refine g_seq ?_
  refine g_seq ?_
  refine g_region ?_
  refine go_p rfl rfl rfl (o_fieldAddr fi_40_0 rfl rfl rfl) ?_
  refine go_p rfl rfl rfl (o_load Try.isAgg3 rfl rfl) ?_
  refine go_nil ?_
  refine g_block ?_
  refine g_seq ?_
  refine g_seq ?_
  refine g_region ?_
  refine go_p rfl rfl rfl (o_cmp rfl rfl rfl) ?_
  refine go_p rfl rfl rfl (o_assign rfl) ?_
  refine go_nil ?_
  obtain ⟨o_1, hj1, hm1⟩ := bind_some hm
  refine g_cut_m [(1, _), (4, _)] [] (fun (st : Bool) (hid : Unit) => match st, hid with | x1, _ => [(5, .bool x1)]) (fun F (st : Bool) (hid : Unit) => match st, hid with | x1, _ => []) (fun st => st = o_1) ⟨rfl, rfl, trivial⟩ trivial ?_ ?_
  · skip
    refine g_cond rfl (fun hc1 => ?_) (fun hc1 => ?_)
    · replace hj1 := cond_t hc1 hj1
      refine g_skip ?_
      exact ⟨_, (), some_eq hj1, ⟨rfl, trivial⟩, ⟨rfl, rfl, trivial⟩, [], rfl⟩
    · replace hj1 := cond_f hc1 hj1
      refine g_seq ?_
      refine g_region ?_
      refine go_p rfl rfl rfl (o_cmp rfl rfl rfl) ?_
      refine go_p rfl rfl rfl (o_assign rfl) ?_
      refine go_nil ?_
      refine g_cond rfl (fun hc2 => ?_) (fun hc2 => ?_)
      · replace hj1 := cond_t hc2 hj1
        refine g_skip ?_
        exact ⟨_, (), some_eq hj1, ⟨rfl, trivial⟩, ⟨rfl, rfl, trivial⟩, [], rfl⟩
      · replace hj1 := cond_f hc2 hj1
        refine g_seq ?_
        refine g_region ?_
        refine go_p rfl rfl rfl (o_cmp rfl rfl rfl) ?_
        refine go_p rfl rfl rfl (o_assign rfl) ?_
        refine go_nil ?_
        refine g_cond rfl (fun hc3 => ?_) (fun hc3 => ?_)
        · replace hj1 := cond_t hc3 hj1
          refine g_skip ?_
          exact ⟨_, (), some_eq hj1, ⟨rfl, trivial⟩, ⟨rfl, rfl, trivial⟩, [], rfl⟩
        · replace hj1 := cond_f hc3 hj1
          refine g_seq ?_
          refine g_region ?_
          refine go_p rfl rfl rfl (o_cmp rfl rfl rfl) ?_
          refine go_p rfl rfl rfl (o_assign rfl) ?_
          refine go_nil ?_
          refine g_cond rfl (fun hc4 => ?_) (fun hc4 => ?_)
          · replace hj1 := cond_t hc4 hj1
            refine g_skip ?_
            exact ⟨_, (), some_eq hj1, ⟨rfl, trivial⟩, ⟨rfl, rfl, trivial⟩, [], rfl⟩
          · replace hj1 := cond_f hc4 hj1
            refine g_region ?_
            refine go_p rfl rfl rfl (o_cmp rfl rfl rfl) ?_
            refine go_p rfl rfl rfl (o_assign rfl) ?_
            refine go_nil ?_
            exact ⟨_, (), some_eq hj1, ⟨rfl, trivial⟩, ⟨rfl, rfl, trivial⟩, [], rfl⟩
  · rintro x1 _ hst
    subst hst
    refine k_norm (L' := [(5, .bool x1), (1, _), (4, _)]) (ms' := []) rfl rfl ?_
    refine g_cond rfl (fun hc5 => ?_) (fun hc5 => ?_)
    · replace hm1 := cond_t hc5 hm1
      refine g_seq ?_
      refine g_region ?_
      refine go_p rfl rfl rfl (o_fieldAddr fi_40_5 rfl rfl rfl) ?_
      refine go_p rfl rfl rfl (o_load Try.isAgg9 rfl rfl) ?_
      obtain ⟨x2, hx1, hm1⟩ := bind_some hm1
      refine go_p rfl rfl rfl (o_call0 Try.call91 rfl (w_name_Name hx1)) ?_
      refine go_p rfl rfl rfl (o_assign rfl) ?_
      refine go_nil ?_
      refine g_ret ?_
      exact retK (ret_one' rfl (ret_tmp rfl) (perm_drop _)) (congrArg (fun (p : Bool) => (.bool p : D)) (some_eq hm1))
    · replace hm1 := cond_f hc5 hm1
      refine g_seq ?_
      refine g_region ?_
      refine go_p rfl rfl rfl (o_cmp rfl rfl rfl) ?_
      refine go_p rfl rfl rfl (o_assign rfl) ?_
      refine go_nil ?_
      refine g_cond rfl (fun hc6 => ?_) (fun hc6 => ?_)
      · replace hm1 := cond_t hc6 hm1
        refine g_seq ?_
        refine g_region ?_
        refine go_p rfl rfl rfl (o_fieldAddr fi_40_5 rfl rfl rfl) ?_
        refine go_p rfl rfl rfl (o_load Try.isAgg9 rfl rfl) ?_
        obtain ⟨x3, hx2, hm1⟩ := bind_some hm1
        refine go_p rfl rfl rfl (o_call0 Try.call144 rfl (w_name_Tag hx2)) ?_
        refine go_p rfl rfl rfl (o_assign rfl) ?_
        refine go_nil ?_
        refine g_ret ?_
        exact retK (ret_one' rfl (ret_tmp rfl) (perm_drop _)) (congrArg (fun (p : Bool) => (.bool p : D)) (some_eq hm1))
      · replace hm1 := cond_f hc6 hm1
        refine g_skip ?_
        refine g_seq ?_
        refine g_region ?_
        refine go_p rfl rfl rfl (o_fieldAddr fi_40_5 rfl rfl rfl) ?_
        refine go_p rfl rfl rfl (o_load Try.isAgg9 rfl rfl) ?_
        refine go_p rfl rfl rfl (o_cmps rfl rfl rfl) ?_
        refine go_p rfl rfl rfl (o_assign rfl) ?_
        refine go_nil ?_
        refine g_ret ?_
        exact retK (ret_one' rfl (ret_tmp rfl) (perm_drop _)) (congrArg (fun (p : Bool) => (.bool p : D)) (some_eq hm1))
theorem fi_40_6 : FieldIs Try.prog 40 6 6 1 false := ⟨⟨_, _, Try.runUnderlying40, rfl, rfl, Try.sizeOf9, by decide, Try.isAgg9⟩⟩
theorem fi_40_4 : FieldIs Try.prog 40 4 4 1 false := ⟨⟨_, _, Try.runUnderlying40, rfl, rfl, Try.sizeOf2, by decide, Try.isAgg2⟩⟩
def m_tree_counted (n1 : ApiNode) : Option Bool :=
  bif (decide (n1.kind = 1)) then
    some (decide ((n1.s : List UInt8) = ([] : List UInt8)))
  else
    bif (decide (n1.kind = 2)) then
      some (((decide (n1.n_ = 0)) || (decide (n1.n_ = 1))) && (decide ((n1.s : List UInt8) = ([] : List UInt8))))
    else
      bif (decide (n1.kind = 10)) then
        some (((decide (1 ≤ n1.n_)) && (decide (n1.n_ ≤ 7))) && (decide ((n1.s : List UInt8) = ([] : List UInt8))))
      else
        bif (decide (n1.kind = 3)) then
          some ((decide (n1.n_ = 0)) && (decide ((n1.s.length : Int) ≤ 200)))
        else
          some ((decide (n1.n_ = 0)) && (decide ((n1.s : List UInt8) = ([] : List UInt8))))
theorem w_tree_counted {n1 : ApiNode} {r_1 : Bool} (hm : m_tree_counted n1 = some r_1) : Fn0 Try.prog 111 [ApiNode.d n1] (.bool r_1) := by
  unfold m_tree_counted at hm
  refine fn_intro Try.func111 rfl Try.ntmps111 rfl fun H0 fr w0 => ?_
  refine g_seq ?_
  refine g_region ?_
  refine go_p rfl rfl rfl (o_box rfl rfl) ?_
  refine go_p rfl rfl rfl (o_assign rfl) ?_
  refine go_nil ?_
  refine g_seq ?_
  refine g_seq ?_
  refine g_region ?_
  refine go_p rfl rfl rfl (o_fieldAddr fi_40_0 rfl rfl rfl) ?_
  refine go_p rfl rfl rfl (o_load Try.isAgg3 rfl rfl) ?_
  refine go_nil ?_
  refine g_block ?_
  refine g_seq ?_
  refine g_region ?_
  refine go_p rfl rfl rfl (o_cmp rfl rfl rfl) ?_
  refine go_p rfl rfl rfl (o_assign rfl) ?_
  refine go_nil ?_
  refine g_cond rfl (fun hc1 => ?_) (fun hc1 => ?_)
  · replace hm := cond_t hc1 hm
    refine g_seq ?_
    refine g_region ?_
    refine go_p rfl rfl rfl (o_fieldAddr fi_40_6 rfl rfl rfl) ?_
    refine go_p rfl rfl rfl (o_load Try.isAgg9 rfl rfl) ?_
    refine go_p rfl rfl rfl (o_cmps rfl rfl rfl) ?_
    refine go_p rfl rfl rfl (o_assign rfl) ?_
    refine go_nil ?_
    refine g_ret ?_
    exact retK (ret_one' rfl (ret_tmp rfl) (perm_drop _)) (congrArg (fun (p : Bool) => (.bool p : D)) (some_eq hm))
  · replace hm := cond_f hc1 hm
    refine g_seq ?_
    refine g_region ?_
    refine go_p rfl rfl rfl (o_cmp rfl rfl rfl) ?_
    refine go_p rfl rfl rfl (o_assign rfl) ?_
    refine go_nil ?_
    refine g_cond rfl (fun hc2 => ?_) (fun hc2 => ?_)
    · replace hm := cond_t hc2 hm
      refine g_seq ?_
      refine g_region ?_
      refine go_p rfl rfl rfl (o_fieldAddr fi_40_4 rfl rfl rfl) ?_
      refine go_p rfl rfl rfl (o_load Try.isAgg2 rfl rfl) ?_
      refine go_p rfl rfl rfl (o_cmp rfl rfl rfl) ?_
      refine go_p rfl rfl rfl (o_move rfl) ?_
      apply go_or [(1, _)] 4 19 (t := 15) ⟨rfl, trivial⟩ rfl
      · intro hg_1 hk1
        refine go_wantp rfl rfl rfl hg_1 rfl rfl (o_fieldAddr fi_40_4 rfl rfl rfl) ?_
        refine go_wantp rfl rfl rfl hg_1 rfl rfl (o_load Try.isAgg2 rfl rfl) ?_
        refine go_wantp rfl rfl rfl hg_1 rfl rfl (o_cmp rfl rfl rfl) ?_
        refine go_p rfl rfl rfl (o_pickF rfl hg_1 rfl) ?_
        exact go_meet hk1 (rfl) ⟨rfl, trivial⟩
      · intro hg_1 hk1
        refine go_skip rfl rfl rfl hg_1 rfl rfl ?_
        refine go_skip rfl rfl rfl hg_1 rfl rfl ?_
        refine go_skip rfl rfl rfl hg_1 rfl rfl ?_
        refine go_p rfl rfl rfl (o_pickT rfl hg_1 rfl) ?_
        exact go_meet hk1 (rfl) ⟨rfl, trivial⟩
      refine go_p rfl rfl rfl (o_move rfl) ?_
      apply go_and [] 4 24 (t := 20) trivial rfl
      · intro hg_2 hk2
        refine go_wantp rfl rfl rfl hg_2 rfl rfl (o_fieldAddr fi_40_6 rfl rfl rfl) ?_
        refine go_wantp rfl rfl rfl hg_2 rfl rfl (o_load Try.isAgg9 rfl rfl) ?_
        refine go_wantp rfl rfl rfl hg_2 rfl rfl (o_cmps rfl rfl rfl) ?_
        refine go_p rfl rfl rfl (o_pickT rfl hg_2 rfl) ?_
        exact go_meet hk2 (rfl) trivial
      · intro hg_2 hk2
        refine go_skip rfl rfl rfl hg_2 rfl rfl ?_
        refine go_skip rfl rfl rfl hg_2 rfl rfl ?_
        refine go_skip rfl rfl rfl hg_2 rfl rfl ?_
        refine go_p rfl rfl rfl (o_pickF rfl hg_2 rfl) ?_
        exact go_meet hk2 (rfl) trivial
      refine go_p rfl rfl rfl (o_assign rfl) ?_
      refine go_nil ?_
      refine g_ret ?_
      exact retK (ret_one' rfl (ret_tmp rfl) (perm_drop _)) (congrArg (fun (p : Bool) => (.bool p : D)) (some_eq hm))
    · replace hm := cond_f hc2 hm
      refine g_seq ?_
      refine g_region ?_
      refine go_p rfl rfl rfl (o_cmp rfl rfl rfl) ?_
      refine go_p rfl rfl rfl (o_assign rfl) ?_
      refine go_nil ?_
      refine g_cond rfl (fun hc3 => ?_) (fun hc3 => ?_)
      · replace hm := cond_t hc3 hm
        refine g_seq ?_
        refine g_region ?_
        refine go_p rfl rfl rfl (o_fieldAddr fi_40_4 rfl rfl rfl) ?_
        refine go_p rfl rfl rfl (o_load Try.isAgg2 rfl rfl) ?_
        refine go_p rfl rfl rfl (o_cmp rfl rfl rfl) ?_
        refine go_p rfl rfl rfl (o_move rfl) ?_
        apply go_and [(1, _)] 4 34 (t := 30) ⟨rfl, trivial⟩ rfl
        · intro hg_3 hk3
          refine go_wantp rfl rfl rfl hg_3 rfl rfl (o_fieldAddr fi_40_4 rfl rfl rfl) ?_
          refine go_wantp rfl rfl rfl hg_3 rfl rfl (o_load Try.isAgg2 rfl rfl) ?_
          refine go_wantp rfl rfl rfl hg_3 rfl rfl (o_cmp rfl rfl rfl) ?_
          refine go_p rfl rfl rfl (o_pickT rfl hg_3 rfl) ?_
          exact go_meet hk3 (rfl) ⟨rfl, trivial⟩
        · intro hg_3 hk3
          refine go_skip rfl rfl rfl hg_3 rfl rfl ?_
          refine go_skip rfl rfl rfl hg_3 rfl rfl ?_
          refine go_skip rfl rfl rfl hg_3 rfl rfl ?_
          refine go_p rfl rfl rfl (o_pickF rfl hg_3 rfl) ?_
          exact go_meet hk3 (rfl) ⟨rfl, trivial⟩
        refine go_p rfl rfl rfl (o_move rfl) ?_
        apply go_and [] 4 39 (t := 35) trivial rfl
        · intro hg_4 hk4
          refine go_wantp rfl rfl rfl hg_4 rfl rfl (o_fieldAddr fi_40_6 rfl rfl rfl) ?_
          refine go_wantp rfl rfl rfl hg_4 rfl rfl (o_load Try.isAgg9 rfl rfl) ?_
          refine go_wantp rfl rfl rfl hg_4 rfl rfl (o_cmps rfl rfl rfl) ?_
          refine go_p rfl rfl rfl (o_pickT rfl hg_4 rfl) ?_
          exact go_meet hk4 (rfl) trivial
        · intro hg_4 hk4
          refine go_skip rfl rfl rfl hg_4 rfl rfl ?_
          refine go_skip rfl rfl rfl hg_4 rfl rfl ?_
          refine go_skip rfl rfl rfl hg_4 rfl rfl ?_
          refine go_p rfl rfl rfl (o_pickF rfl hg_4 rfl) ?_
          exact go_meet hk4 (rfl) trivial
        refine go_p rfl rfl rfl (o_assign rfl) ?_
        refine go_nil ?_
        refine g_ret ?_
        exact retK (ret_one' rfl (ret_tmp rfl) (perm_drop _)) (congrArg (fun (p : Bool) => (.bool p : D)) (some_eq hm))
      · replace hm := cond_f hc3 hm
        refine g_seq ?_
        refine g_region ?_
        refine go_p rfl rfl rfl (o_cmp rfl rfl rfl) ?_
        refine go_p rfl rfl rfl (o_assign rfl) ?_
        refine go_nil ?_
        refine g_cond rfl (fun hc4 => ?_) (fun hc4 => ?_)
        · replace hm := cond_t hc4 hm
          refine g_seq ?_
          refine g_region ?_
          refine go_p rfl rfl rfl (o_fieldAddr fi_40_4 rfl rfl rfl) ?_
          refine go_p rfl rfl rfl (o_load Try.isAgg2 rfl rfl) ?_
          refine go_p rfl rfl rfl (o_cmp rfl rfl rfl) ?_
          refine go_p rfl rfl rfl (o_move rfl) ?_
          apply go_and [] 5 50 (t := 45) trivial rfl
          · intro hg_5 hk5
            refine go_wantp rfl rfl rfl hg_5 rfl rfl (o_fieldAddr fi_40_6 rfl rfl rfl) ?_
            refine go_wantp rfl rfl rfl hg_5 rfl rfl (o_load Try.isAgg9 rfl rfl) ?_
            refine go_wantp rfl rfl rfl hg_5 rfl rfl (o_len_str Try.runUnderlying9 rfl) ?_
            refine go_wantp rfl rfl rfl hg_5 rfl rfl (o_cmp rfl rfl rfl) ?_
            refine go_p rfl rfl rfl (o_pickT rfl hg_5 rfl) ?_
            exact go_meet hk5 (rfl) trivial
          · intro hg_5 hk5
            refine go_skip rfl rfl rfl hg_5 rfl rfl ?_
            refine go_skip rfl rfl rfl hg_5 rfl rfl ?_
            refine go_skip rfl rfl rfl hg_5 rfl rfl ?_
            refine go_skip rfl rfl rfl hg_5 rfl rfl ?_
            refine go_p rfl rfl rfl (o_pickF rfl hg_5 rfl) ?_
            exact go_meet hk5 (rfl) trivial
          refine go_p rfl rfl rfl (o_assign rfl) ?_
          refine go_nil ?_
          refine g_ret ?_
          exact retK (ret_one' rfl (ret_tmp rfl) (perm_drop _)) (congrArg (fun (p : Bool) => (.bool p : D)) (some_eq hm))
        · replace hm := cond_f hc4 hm
          refine g_skip ?_
          refine g_seq ?_
          refine g_region ?_
          refine go_p rfl rfl rfl (o_fieldAddr fi_40_4 rfl rfl rfl) ?_
          refine go_p rfl rfl rfl (o_load Try.isAgg2 rfl rfl) ?_
          refine go_p rfl rfl rfl (o_cmp rfl rfl rfl) ?_
          refine go_p rfl rfl rfl (o_move rfl) ?_
          apply go_and [] 4 58 (t := 54) trivial rfl
          · intro hg_6 hk6
            refine go_wantp rfl rfl rfl hg_6 rfl rfl (o_fieldAddr fi_40_6 rfl rfl rfl) ?_
            refine go_wantp rfl rfl rfl hg_6 rfl rfl (o_load Try.isAgg9 rfl rfl) ?_
            refine go_wantp rfl rfl rfl hg_6 rfl rfl (o_cmps rfl rfl rfl) ?_
            refine go_p rfl rfl rfl (o_pickT rfl hg_6 rfl) ?_
            exact go_meet hk6 (rfl) trivial
          · intro hg_6 hk6
            refine go_skip rfl rfl rfl hg_6 rfl rfl ?_
            refine go_skip rfl rfl rfl hg_6 rfl rfl ?_
            refine go_skip rfl rfl rfl hg_6 rfl rfl ?_
            refine go_p rfl rfl rfl (o_pickF rfl hg_6 rfl) ?_
            exact go_meet hk6 (rfl) trivial
          refine go_p rfl rfl rfl (o_assign rfl) ?_
          refine go_nil ?_
          refine g_ret ?_
          exact retK (ret_one' rfl (ret_tmp rfl) (perm_drop _)) (congrArg (fun (p : Bool) => (.bool p : D)) (some_eq hm))
theorem pl_98 : ∀ fs, (∀ w, (underlying 98).run Try.prog w = .ok (.struct fs) w) → placesOf Try.prog fs [(0, 1), (1, 1)] := by
  intro fs h w
  have := (h w).symm.trans (Try.runUnderlying98 w)
  simp only [Result.ok.injEq, TypeDesc.struct.injEq, and_true] at this
  subst this
  simp [Try.sizeOf3, Try.sizeOf4, Sem.run]
structure TreeShape where
  kids : Int
  parts : Bool
def TreeShape.d (x : TreeShape) : D := .agg [.i64 x.kids, .bool x.parts]
def m_tree_shapeOf (kind1 : Int) : Option TreeShape :=
  (bif (decide (kind1 = 5)) then
    some (decide (kind1 = 5))
  else
    bif (decide (kind1 = 12)) then
      some (decide (kind1 = 12))
    else
      some (decide (kind1 = 13)) : Option Bool).bind fun x1 =>
  bif x1 then
    some (⟨1, false⟩ : TreeShape)
  else
    (bif (decide (kind1 = 6)) then
      some (decide (kind1 = 6))
    else
      bif (decide (kind1 = 7)) then
        some (decide (kind1 = 7))
      else
        bif (decide (kind1 = 8)) then
          some (decide (kind1 = 8))
        else
          some (decide (kind1 = 10)) : Option Bool).bind fun x2 =>
    bif x2 then
      some (⟨2, false⟩ : TreeShape)
    else
      bif (decide (kind1 = 9)) then
        some (⟨3, false⟩ : TreeShape)
      else
        bif (decide (kind1 = 11)) then
          some (⟨0, true⟩ : TreeShape)
        else
          bif (decide (kind1 = 14)) then
            some (⟨1, true⟩ : TreeShape)
          else
            some (⟨0, false⟩ : TreeShape)
theorem w_tree_shapeOf {kind1 : Int} {r_1 : TreeShape} (hm : m_tree_shapeOf kind1 = some r_1) : Fn0 Try.prog 74 [.i64 kind1] (TreeShape.d r_1) := by
  unfold m_tree_shapeOf at hm
  refine fn_intro Try.func74 rfl Try.ntmps74 rfl fun H0 fr w0 => ?_
  refine g_seq ?_
  refine g_region ?_
  refine go_op rfl rfl rfl (o_alloc_own Try.zeroValue98 (cs := [.i64 0, .bool false]) rfl) ?_
  rintro _ _ ⟨b1, rfl, rfl⟩
  refine go_nil ?_
  refine g_seq ?_
  refine g_seq ?_
  refine g_region ?_
  refine go_p rfl rfl rfl (o_move rfl) ?_
  refine go_nil ?_
  refine g_block ?_
  refine g_seq ?_
  refine g_seq ?_
  refine g_region ?_
  refine go_p rfl rfl rfl (o_cmp rfl rfl rfl) ?_
  refine go_p rfl rfl rfl (o_assign rfl) ?_
  refine go_nil ?_
  obtain ⟨o_1, hj1, hm1⟩ := bind_some hm
  refine g_cut_m [(2, _), (3, _)] [(0, _)] (fun (st : Bool) (hid : Unit) => match st, hid with | x1, _ => [(4, .bool x1)]) (fun F (st : Bool) (hid : Unit) => match st, hid with | x1, _ => [(nthF F 0)]) (fun st => st = o_1) ⟨rfl, rfl, trivial⟩ ⟨rfl, trivial⟩ ?_ ?_
  · skip
    refine g_cond rfl (fun hc1 => ?_) (fun hc1 => ?_)
    · replace hj1 := cond_t hc1 hj1
      refine g_skip ?_
      exact ⟨_, (), some_eq hj1, ⟨rfl, trivial⟩, ⟨rfl, rfl, trivial⟩, [], rfl⟩
    · replace hj1 := cond_f hc1 hj1
      refine g_seq ?_
      refine g_region ?_
      refine go_p rfl rfl rfl (o_cmp rfl rfl rfl) ?_
      refine go_p rfl rfl rfl (o_assign rfl) ?_
      refine go_nil ?_
      refine g_cond rfl (fun hc2 => ?_) (fun hc2 => ?_)
      · replace hj1 := cond_t hc2 hj1
        refine g_skip ?_
        exact ⟨_, (), some_eq hj1, ⟨rfl, trivial⟩, ⟨rfl, rfl, trivial⟩, [], rfl⟩
      · replace hj1 := cond_f hc2 hj1
        refine g_region ?_
        refine go_p rfl rfl rfl (o_cmp rfl rfl rfl) ?_
        refine go_p rfl rfl rfl (o_assign rfl) ?_
        refine go_nil ?_
        exact ⟨_, (), some_eq hj1, ⟨rfl, trivial⟩, ⟨rfl, rfl, trivial⟩, [], rfl⟩
  · rintro x1 _ hst
    subst hst
    refine k_norm (L' := [(4, .bool x1), (2, _), (3, _)]) (ms' := [_]) rfl rfl ?_
    refine g_cond rfl (fun hc3 => ?_) (fun hc3 => ?_)
    · replace hm1 := cond_t hc3 hm1
      refine g_seq ?_
      refine g_region ?_
      refine go_p rfl rfl rfl (o_build (zs := [.v (.int .i64 0), .bool false]) Try.runUnderlying98 Try.zeroValue98 (pl_98 _ Try.runUnderlying98) rfl rfl rfl rfl) ?_
      refine go_u rfl rfl (o_store_box 0 Try.sizeOf98 rfl rfl rfl rfl rfl rfl rfl rfl (Nat.le_of_ble_eq_true rfl)) ?_
      rintro _ _ rfl
      refine go_ms (ms' := [box b1 98 [_, _]]) rfl ?_
      refine go_nil ?_
      refine g_ret ?_
      exact retK (ret_one' rfl (ret_cell 0 rfl rfl rfl Try.isAgg98 Try.sizeOf98 rfl) (perm_drop _)) (congrArg (fun (p : TreeShape) => (TreeShape.d p : D)) (some_eq hm1))
    · replace hm1 := cond_f hc3 hm1
      refine g_seq ?_
      refine g_seq ?_
      refine g_region ?_
      refine go_p rfl rfl rfl (o_cmp rfl rfl rfl) ?_
      refine go_p rfl rfl rfl (o_assign rfl) ?_
      refine go_nil ?_
      obtain ⟨o_2, hj2, hm2⟩ := bind_some hm1
      refine g_cut_m [(2, _), (3, _)] [(0, _)] (fun (st : Bool) (hid : Unit) => match st, hid with | x2, _ => [(9, .bool x2)]) (fun F (st : Bool) (hid : Unit) => match st, hid with | x2, _ => [(nthF F 0)]) (fun st => st = o_2) ⟨rfl, rfl, trivial⟩ ⟨rfl, trivial⟩ ?_ ?_
      · skip
        refine g_cond rfl (fun hc4 => ?_) (fun hc4 => ?_)
        · replace hj2 := cond_t hc4 hj2
          refine g_skip ?_
          exact ⟨_, (), some_eq hj2, ⟨rfl, trivial⟩, ⟨rfl, rfl, trivial⟩, [], rfl⟩
        · replace hj2 := cond_f hc4 hj2
          refine g_seq ?_
          refine g_region ?_
          refine go_p rfl rfl rfl (o_cmp rfl rfl rfl) ?_
          refine go_p rfl rfl rfl (o_assign rfl) ?_
          refine go_nil ?_
          refine g_cond rfl (fun hc5 => ?_) (fun hc5 => ?_)
          · replace hj2 := cond_t hc5 hj2
            refine g_skip ?_
            exact ⟨_, (), some_eq hj2, ⟨rfl, trivial⟩, ⟨rfl, rfl, trivial⟩, [], rfl⟩
          · replace hj2 := cond_f hc5 hj2
            refine g_seq ?_
            refine g_region ?_
            refine go_p rfl rfl rfl (o_cmp rfl rfl rfl) ?_
            refine go_p rfl rfl rfl (o_assign rfl) ?_
            refine go_nil ?_
            refine g_cond rfl (fun hc6 => ?_) (fun hc6 => ?_)
            · replace hj2 := cond_t hc6 hj2
              refine g_skip ?_
              exact ⟨_, (), some_eq hj2, ⟨rfl, trivial⟩, ⟨rfl, rfl, trivial⟩, [], rfl⟩
            · replace hj2 := cond_f hc6 hj2
              refine g_region ?_
              refine go_p rfl rfl rfl (o_cmp rfl rfl rfl) ?_
              refine go_p rfl rfl rfl (o_assign rfl) ?_
              refine go_nil ?_
              exact ⟨_, (), some_eq hj2, ⟨rfl, trivial⟩, ⟨rfl, rfl, trivial⟩, [], rfl⟩
      · rintro x2 _ hst
        subst hst
        refine k_norm (L' := [(9, .bool x2), (2, _), (3, _)]) (ms' := [_]) rfl rfl ?_
        refine g_cond rfl (fun hc7 => ?_) (fun hc7 => ?_)
        · replace hm2 := cond_t hc7 hm2
          refine g_seq ?_
          refine g_region ?_
          refine go_p rfl rfl rfl (o_build (zs := [.v (.int .i64 0), .bool false]) Try.runUnderlying98 Try.zeroValue98 (pl_98 _ Try.runUnderlying98) rfl rfl rfl rfl) ?_
          refine go_u rfl rfl (o_store_box 0 Try.sizeOf98 rfl rfl rfl rfl rfl rfl rfl rfl (Nat.le_of_ble_eq_true rfl)) ?_
          rintro _ _ rfl
          refine go_ms (ms' := [box b1 98 [_, _]]) rfl ?_
          refine go_nil ?_
          refine g_ret ?_
          exact retK (ret_one' rfl (ret_cell 0 rfl rfl rfl Try.isAgg98 Try.sizeOf98 rfl) (perm_drop _)) (congrArg (fun (p : TreeShape) => (TreeShape.d p : D)) (some_eq hm2))
        · replace hm2 := cond_f hc7 hm2
          refine g_seq ?_
          refine g_region ?_
          refine go_p rfl rfl rfl (o_cmp rfl rfl rfl) ?_
          refine go_p rfl rfl rfl (o_assign rfl) ?_
          refine go_nil ?_
          refine g_cond rfl (fun hc8 => ?_) (fun hc8 => ?_)
          · replace hm2 := cond_t hc8 hm2
            refine g_seq ?_
            refine g_region ?_
            refine go_p rfl rfl rfl (o_build (zs := [.v (.int .i64 0), .bool false]) Try.runUnderlying98 Try.zeroValue98 (pl_98 _ Try.runUnderlying98) rfl rfl rfl rfl) ?_
            refine go_u rfl rfl (o_store_box 0 Try.sizeOf98 rfl rfl rfl rfl rfl rfl rfl rfl (Nat.le_of_ble_eq_true rfl)) ?_
            rintro _ _ rfl
            refine go_ms (ms' := [box b1 98 [_, _]]) rfl ?_
            refine go_nil ?_
            refine g_ret ?_
            exact retK (ret_one' rfl (ret_cell 0 rfl rfl rfl Try.isAgg98 Try.sizeOf98 rfl) (perm_drop _)) (congrArg (fun (p : TreeShape) => (TreeShape.d p : D)) (some_eq hm2))
          · replace hm2 := cond_f hc8 hm2
            refine g_seq ?_
            refine g_region ?_
            refine go_p rfl rfl rfl (o_cmp rfl rfl rfl) ?_
            refine go_p rfl rfl rfl (o_assign rfl) ?_
            refine go_nil ?_
            refine g_cond rfl (fun hc9 => ?_) (fun hc9 => ?_)
            · replace hm2 := cond_t hc9 hm2
              refine g_seq ?_
              refine g_region ?_
              refine go_p rfl rfl rfl (o_build (zs := [.v (.int .i64 0), .bool false]) Try.runUnderlying98 Try.zeroValue98 (pl_98 _ Try.runUnderlying98) rfl rfl rfl rfl) ?_
              refine go_u rfl rfl (o_store_box 0 Try.sizeOf98 rfl rfl rfl rfl rfl rfl rfl rfl (Nat.le_of_ble_eq_true rfl)) ?_
              rintro _ _ rfl
              refine go_ms (ms' := [box b1 98 [_, _]]) rfl ?_
              refine go_nil ?_
              refine g_ret ?_
              exact retK (ret_one' rfl (ret_cell 0 rfl rfl rfl Try.isAgg98 Try.sizeOf98 rfl) (perm_drop _)) (congrArg (fun (p : TreeShape) => (TreeShape.d p : D)) (some_eq hm2))
            · replace hm2 := cond_f hc9 hm2
              refine g_seq ?_
              refine g_region ?_
              refine go_p rfl rfl rfl (o_cmp rfl rfl rfl) ?_
              refine go_p rfl rfl rfl (o_assign rfl) ?_
              refine go_nil ?_
              refine g_cond rfl (fun hc10 => ?_) (fun hc10 => ?_)
              · replace hm2 := cond_t hc10 hm2
                refine g_seq ?_
                refine g_region ?_
                refine go_p rfl rfl rfl (o_build (zs := [.v (.int .i64 0), .bool false]) Try.runUnderlying98 Try.zeroValue98 (pl_98 _ Try.runUnderlying98) rfl rfl rfl rfl) ?_
                refine go_u rfl rfl (o_store_box 0 Try.sizeOf98 rfl rfl rfl rfl rfl rfl rfl rfl (Nat.le_of_ble_eq_true rfl)) ?_
                rintro _ _ rfl
                refine go_ms (ms' := [box b1 98 [_, _]]) rfl ?_
                refine go_nil ?_
                refine g_ret ?_
                exact retK (ret_one' rfl (ret_cell 0 rfl rfl rfl Try.isAgg98 Try.sizeOf98 rfl) (perm_drop _)) (congrArg (fun (p : TreeShape) => (TreeShape.d p : D)) (some_eq hm2))
              · replace hm2 := cond_f hc10 hm2
                refine g_skip ?_
                refine g_seq ?_
                refine g_region ?_
                refine go_p rfl rfl rfl (o_build (zs := [.v (.int .i64 0), .bool false]) Try.runUnderlying98 Try.zeroValue98 (pl_98 _ Try.runUnderlying98) rfl rfl rfl rfl) ?_
                refine go_u rfl rfl (o_store_box 0 Try.sizeOf98 rfl rfl rfl rfl rfl rfl rfl rfl (Nat.le_of_ble_eq_true rfl)) ?_
                rintro _ _ rfl
                refine go_ms (ms' := [box b1 98 [_, _]]) rfl ?_
                refine go_nil ?_
                refine g_ret ?_
                exact retK (ret_one' rfl (ret_cell 0 rfl rfl rfl Try.isAgg98 Try.sizeOf98 rfl) (perm_drop _)) (congrArg (fun (p : TreeShape) => (TreeShape.d p : D)) (some_eq hm2))
theorem fi_102_0 : FieldIs Try.prog 102 0 0 1 false := ⟨⟨_, _, Try.runUnderlying102, rfl, rfl, Try.sizeOf9, by decide, Try.isAgg9⟩⟩
theorem fi_102_1 : FieldIs Try.prog 102 1 1 1 false := ⟨⟨_, _, Try.runUnderlying102, rfl, rfl, Try.sizeOf9, by decide, Try.isAgg9⟩⟩
def m_tree_part (kind1 : Int) (f1 : ApiField) : Option Bool :=
  bif (decide (kind1 = 11)) then
    (m_name_Name f1.name).bind fun x1 =>
    some (x1 && (decide ((f1.var : List UInt8) = ([] : List UInt8))))
  else
    (m_name_Tag f1.name).bind fun x2 =>
    (bif x2 then ((m_name_Name f1.var).bind fun x3 =>
    some x3) else (some false)).bind fun p1 =>
    some p1
theorem w_tree_part {kind1 : Int} {f1 : ApiField} {r_1 : Bool} (hm : m_tree_part kind1 f1 = some r_1) : Fn0 Try.prog 145 [.i64 kind1, ApiField.d f1] (.bool r_1) := by
  unfold m_tree_part at hm
  refine fn_intro Try.func145 rfl Try.ntmps145 rfl fun H0 fr w0 => ?_
  refine g_seq ?_
  refine g_region ?_
  refine go_p rfl rfl rfl (o_box rfl rfl) ?_
  refine go_p rfl rfl rfl (o_assign rfl) ?_
  refine go_nil ?_
  refine g_seq ?_
  refine g_seq ?_
  refine g_region ?_
  refine go_p rfl rfl rfl (o_move rfl) ?_
  refine go_p rfl rfl rfl (o_cmp rfl rfl rfl) ?_
  refine go_nil ?_
  refine g_cond rfl (fun hc1 => ?_) (fun hc1 => ?_)
  · replace hm := cond_t hc1 hm
    refine g_seq ?_
    refine g_region ?_
    refine go_p rfl rfl rfl (o_fieldAddr fi_102_0 rfl rfl rfl) ?_
    refine go_p rfl rfl rfl (o_load Try.isAgg9 rfl rfl) ?_
    obtain ⟨x1, hx1, hm⟩ := bind_some hm
    refine go_p rfl rfl rfl (o_call0 Try.call91 rfl (w_name_Name hx1)) ?_
    refine go_p rfl rfl rfl (o_move rfl) ?_
    apply go_and [] 4 14 (t := 10) trivial rfl
    · intro hg_1 hk1
      refine go_wantp rfl rfl rfl hg_1 rfl rfl (o_fieldAddr fi_102_1 rfl rfl rfl) ?_
      refine go_wantp rfl rfl rfl hg_1 rfl rfl (o_load Try.isAgg9 rfl rfl) ?_
      refine go_wantp rfl rfl rfl hg_1 rfl rfl (o_cmps rfl rfl rfl) ?_
      refine go_p rfl rfl rfl (o_pickT rfl hg_1 rfl) ?_
      exact go_meet hk1 (rfl) trivial
    · intro hg_1 hk1
      refine go_skip rfl rfl rfl hg_1 rfl rfl ?_
      refine go_skip rfl rfl rfl hg_1 rfl rfl ?_
      refine go_skip rfl rfl rfl hg_1 rfl rfl ?_
      refine go_p rfl rfl rfl (o_pickF rfl hg_1 rfl) ?_
      exact go_meet hk1 (rfl) trivial
    refine go_p rfl rfl rfl (o_assign rfl) ?_
    refine go_nil ?_
    refine g_ret ?_
    exact retK (ret_one' rfl (ret_tmp rfl) (perm_drop _)) (congrArg (fun (p : Bool) => (.bool p : D)) (some_eq hm))
  · replace hm := cond_f hc1 hm
    refine g_skip ?_
    refine g_seq ?_
    refine g_region ?_
    refine go_p rfl rfl rfl (o_fieldAddr fi_102_0 rfl rfl rfl) ?_
    refine go_p rfl rfl rfl (o_load Try.isAgg9 rfl rfl) ?_
    obtain ⟨x2, hx2, hm⟩ := bind_some hm
    refine go_p rfl rfl rfl (o_call0 Try.call144 rfl (w_name_Tag hx2)) ?_
    refine go_p rfl rfl rfl (o_move rfl) ?_
    obtain ⟨p1, hp_2, hm⟩ := bind_some hm
    refine go_two [] 4 22 p1 (t := 18) trivial rfl (fun hg_2 hk2 => ?_) (fun hg_2 hk2 => ?_) ?_
    · replace hp_2 := cond_t hg_2 hp_2
      refine go_wantp rfl rfl rfl hg_2 rfl rfl (o_fieldAddr fi_102_1 rfl rfl rfl) ?_
      refine go_wantp rfl rfl rfl hg_2 rfl rfl (o_load Try.isAgg9 rfl rfl) ?_
      obtain ⟨x3, hx3, hp_2⟩ := bind_some hp_2
      refine go_wantp rfl rfl rfl hg_2 rfl rfl (o_call0 Try.call91 rfl (w_name_Name hx3)) ?_
      refine go_p rfl rfl rfl (o_pickT rfl hg_2 rfl) ?_
      exact go_meet hk2 (congrArg (fun b => some (D.bool b)) (some_eq hp_2)) trivial
    · replace hp_2 := cond_f hg_2 hp_2
      refine go_skip rfl rfl rfl hg_2 rfl rfl ?_
      refine go_skip rfl rfl rfl hg_2 rfl rfl ?_
      refine go_skip rfl rfl rfl hg_2 rfl rfl ?_
      refine go_p rfl rfl rfl (o_pickF rfl hg_2 rfl) ?_
      exact go_meet hk2 (congrArg (fun b => some (D.bool b)) (some_eq hp_2)) trivial
    refine go_p rfl rfl rfl (o_assign rfl) ?_
    refine go_nil ?_
    refine g_ret ?_
    exact retK (ret_one' rfl (ret_tmp rfl) (perm_drop _)) (congrArg (fun (p : Bool) => (.bool p : D)) (some_eq hm))
def m_name_Twice_l1 (l1 : (List (List UInt8))) : Nat → (Int × (List ((List UInt8) × Bool))) → Option (Out Bool (List ((List UInt8) × Bool)))
  | 0, _ => none
  | n + 1, (x1, mm2) =>
    bif (decide (x1 < (l1.length : Int))) then
      (idx l1 x1).bind fun x2 =>
      bif ((mget mm2 x2).getD (false : Bool)) then
        some (Out.ret true)
      else
        grd (InR (x1 + 1)) <|
        m_name_Twice_l1 l1 n ((x1 + 1), (mset mm2 x2 true))
    else
      some (Out.go (mm2))
def m_name_Twice (l1 : (List (List UInt8))) : Option Bool :=
  ((m_name_Twice_l1 l1 FU (0, ([] : List ((List UInt8) × Bool))) : Option (Out Bool (List ((List UInt8) × Bool))))).bind (fun oo => oo.on (fun r1 => some r1) (fun mm1 =>
  some false))
theorem w_name_Twice {l1 : (List (List UInt8))} {r_1 : Bool} (hm : m_name_Twice l1 = some r_1) : Fn0 Try.prog 146 [.list 1 D.str l1] (.bool r_1) := by
  unfold m_name_Twice at hm
  refine fn_intro Try.func146 rfl Try.ntmps146 rfl fun H0 fr w0 => ?_
  refine g_seq ?_
  refine g_region ?_
  refine go_p rfl rfl rfl (o_assign rfl) ?_
  refine go_nil ?_
  refine g_seq ?_
  refine g_region ?_
  refine go_op rfl rfl rfl (o_makeMap (fk := kStr) (fv := D.bool)) ?_
  rintro _ _ ⟨b1, rfl, rfl⟩
  refine go_p rfl rfl rfl (o_assign rfl) ?_
  refine go_nil ?_
  refine g_seq ?_
  refine g_seq ?_
  refine g_region ?_
  refine go_p rfl rfl rfl (o_move rfl) ?_
  refine go_p rfl rfl rfl (o_len Try.runUnderlying62 rfl) ?_
  refine go_p rfl rfl rfl (o_move rfl) ?_
  refine go_nil ?_
  obtain ⟨o_1, hj1, hm1⟩ := bind_some hm
  refine g_cut_m [] [] (fun (st : (List ((List UInt8) × Bool))) (hid : Unit) => match st, hid with | mm1, _ => []) (fun F (st : (List ((List UInt8) × Bool))) (hid : Unit) => match st, hid with | mm1, _ => [mp b1 kStr D.bool mm1]) (fun st => Out.go (st) = o_1) trivial trivial ?_ ?_
  · skip
    refine g_block ?_
    refine g_loop_m [(3, _), (7, _), (8, _)] [] (fun (st : (Int × (List ((List UInt8) × Bool)))) (hid : Unit) => match st, hid with | (x1, mm2), _ => [(9, .i64 x1)]) (fun F (st : (Int × (List ((List UInt8) × Bool)))) (hid : Unit) => match st, hid with | (x1, mm2), _ => [mp b1 kStr D.bool mm2]) () hj1 (fun _ => rfl) ⟨rfl, rfl, rfl, trivial⟩ trivial ⟨rfl, trivial⟩ rfl ?_
    rintro n ⟨x1, mm2⟩ _ hj1
    rw [m_name_Twice_l1] at hj1
    refine g_norm (L' := [(9, .i64 x1), (3, _), (7, _), (8, _)]) (ms' := [mp b1 kStr D.bool mm2]) rfl rfl ?_
    refine g_seq ?_
    refine g_region ?_
    refine go_p rfl rfl rfl (o_cmp rfl rfl rfl) ?_
    refine go_nil ?_
    refine g_seq ?_
    refine g_cond rfl (fun hc1 => ?_) (fun hc1 => ?_)
    · replace hj1 := cond_t hc1 hj1
      refine g_skip ?_
      refine g_seq ?_
      refine g_block ?_
      refine g_seq ?_
      refine g_region ?_
      obtain ⟨x2, hx1, hj1⟩ := bind_some hj1
      refine go_p rfl rfl rfl (o_indexAddr_m Try.runUnderlying62 Try.sizeOf9 rfl rfl hx1) ?_
      refine go_p rfl rfl rfl (o_load Try.isAgg9 rfl rfl) ?_
      refine go_p rfl rfl rfl (o_assign rfl) ?_
      refine go_nil ?_
      refine g_seq ?_
      refine g_seq ?_
      refine g_region ?_
      refine go_p rfl rfl rfl (o_move rfl) ?_
      refine go_p rfl rfl rfl (o_move rfl) ?_
      refine go_p rfl rfl rfl (o_lookup (z0 := (false : Bool)) 0 Try.runUnderlying155 (keyStr Try.underlying9) Try.zeroValue4 (fun _ => conc_v.2 rfl) rfl rfl rfl) ?_
      refine go_nil ?_
      refine g_cond rfl (fun hc2 => ?_) (fun hc2 => ?_)
      · replace hj1 := cond_t hc2 hj1
        refine g_seq ?_
        refine g_region ?_
        refine go_p rfl rfl rfl (o_assign rfl) ?_
        refine go_nil ?_
        refine g_ret ?_
        obtain rfl := some_eq hj1
        replace hm1 := on_ret hm1
        exact retK (ret_one' rfl (ret_tmp rfl) (perm_drop _)) (congrArg (fun (p : Bool) => (.bool p : D)) (some_eq hm1))
      · replace hj1 := cond_f hc2 hj1
        refine g_skip ?_
        refine g_region ?_
        refine go_p rfl rfl rfl (o_move rfl) ?_
        refine go_p rfl rfl rfl (o_move rfl) ?_
        refine go_u rfl rfl (o_mapUpdate (v := true) 0 Try.runUnderlying155 (keyStr Try.underlying9) rfl rfl rfl rfl) ?_
        rintro _ _ rfl
        refine go_nil ?_
        refine g_region ?_
        obtain ⟨hg2, hj1⟩ := grd_some hj1
        refine go_p rfl rfl rfl (o_add rfl rfl (i64_id hg2)) ?_
        refine go_p rfl rfl rfl (o_move rfl) ?_
        refine go_nil ?_
        exact ⟨_, (), hj1, ⟨rfl, trivial⟩, ⟨rfl, rfl, rfl, trivial⟩, [], rfl⟩
    · replace hj1 := cond_f hc1 hj1
      refine g_exit ?_
      exact ⟨_, (), some_eq hj1, trivial, trivial, [], rfl⟩
  · rintro mm1 _ hst
    subst hst
    replace hm1 := on_go hm1
    refine k_norm (L' := []) (ms' := [mp b1 kStr D.bool mm1]) rfl rfl ?_
    refine g_seq ?_
    refine g_region ?_
    refine go_p rfl rfl rfl (o_assign rfl) ?_
    refine go_nil ?_
    refine g_ret ?_
    exact retK (ret_one' rfl (ret_tmp rfl) (perm_drop _)) (congrArg (fun (p : Bool) => (.bool p : D)) (some_eq hm1))
theorem fi_98_1 : FieldIs Try.prog 98 1 1 1 false := ⟨⟨_, _, Try.runUnderlying98, rfl, rfl, Try.sizeOf4, by decide, Try.isAgg4⟩⟩
theorem fi_40_7 : FieldIs Try.prog 40 7 7 1 false := ⟨⟨_, _, Try.runUnderlying40, rfl, rfl, Try.sizeOf38, by decide, Try.isAgg38⟩⟩
def m_tree_parted_l1 (n1 : ApiNode) : Nat → (Int × (List (List UInt8))) → Option (Out Bool (List (List UInt8)))
  | 0, _ => none
  | n + 1, (x2, l2) =>
    bif (decide (x2 < (n1.l.length : Int))) then
      (idx n1.l x2).bind fun x3 =>
      (m_tree_part n1.kind (⟨x3.name, x3.var, x3.at_⟩ : ApiField)).bind fun x4 =>
      bif (!x4) then
        some (Out.ret false)
      else
        grd ((l2.length + ([x3.name] : List _).length) * 16 ≤ 140737488355328) <|
        grd (InR (x2 + 1)) <|
        m_tree_parted_l1 n1 n ((x2 + 1), (l2 ++ [x3.name]))
    else
      some (Out.go (l2))
def m_tree_parted (n1 : ApiNode) : Option Bool :=
  (m_tree_shapeOf n1.kind).bind fun x1 =>
  bif (!x1.parts) then
    some (decide ((n1.l.length : Int) = 0))
  else
    ((m_tree_parted_l1 n1 FU (0, []) : Option (Out Bool (List (List UInt8))))).bind (fun oo => oo.on (fun r1 => some r1) (fun l1 =>
    (bif (decide (n1.kind = 14)) then
      some 1
    else
      some 0 : Option Int).bind fun least1 =>
    (bif ((decide (least1 ≤ (l1.length : Int))) && (decide ((l1.length : Int) ≤ 30))) then ((m_name_Twice l1).bind fun x5 =>
    some (!x5)) else (some false)).bind fun p1 =>
    some p1))
theorem w_tree_parted {n1 : ApiNode} {r_1 : Bool} (hm : m_tree_parted n1 = some r_1) : Fn0 Try.prog 112 [ApiNode.d n1] (.bool r_1) := by
  unfold m_tree_parted at hm
  refine fn_intro Try.func112 rfl Try.ntmps112 rfl fun H0 fr w0 => ?_
  refine g_seq ?_
  refine g_region ?_
  refine go_p rfl rfl rfl (o_box rfl rfl) ?_
  refine go_p rfl rfl rfl (o_assign rfl) ?_
  refine go_nil ?_
  refine g_seq ?_
  refine g_seq ?_
  refine g_region ?_
  refine go_p rfl rfl rfl (o_fieldAddr fi_40_0 rfl rfl rfl) ?_
  refine go_p rfl rfl rfl (o_load Try.isAgg3 rfl rfl) ?_
  obtain ⟨x1, hx1, hm⟩ := bind_some hm
  refine go_p rfl rfl rfl (o_call0 Try.call74 rfl (w_tree_shapeOf hx1)) ?_
  refine go_p rfl rfl rfl (o_field fi_98_1 rfl rfl rfl (Nat.le_of_ble_eq_true rfl)) ?_
  refine go_p rfl rfl rfl (o_not rfl) ?_
  refine go_nil ?_
  refine g_cond rfl (fun hc1 => ?_) (fun hc1 => ?_)
  · replace hm := cond_t hc1 hm
    refine g_seq ?_
    refine g_region ?_
    refine go_p rfl rfl rfl (o_fieldAddr fi_40_7 rfl rfl rfl) ?_
    refine go_p rfl rfl rfl (o_load Try.isAgg38 rfl rfl) ?_
    refine go_p rfl rfl rfl (o_len Try.runUnderlying38 rfl) ?_
    refine go_p rfl rfl rfl (o_cmp rfl rfl rfl) ?_
    refine go_p rfl rfl rfl (o_assign rfl) ?_
    refine go_nil ?_
    refine g_ret ?_
    exact retK (ret_one' rfl (ret_tmp rfl) (perm_drop _)) (congrArg (fun (p : Bool) => (.bool p : D)) (some_eq hm))
  · replace hm := cond_f hc1 hm
    refine g_skip ?_
    refine g_seq ?_
    refine g_region ?_
    refine go_p rfl rfl rfl (o_assign rfl) ?_
    refine go_conv (refines_newrow (T := 9) (sz := 1) (f := D.str)) ?_
    refine go_nil ?_
    refine g_seq ?_
    refine g_seq ?_
    refine g_region ?_
    refine go_p rfl rfl rfl (o_fieldAddr fi_40_7 rfl rfl rfl) ?_
    refine go_p rfl rfl rfl (o_load Try.isAgg38 rfl rfl) ?_
    refine go_p rfl rfl rfl (o_len Try.runUnderlying38 rfl) ?_
    refine go_p rfl rfl rfl (o_move rfl) ?_
    refine go_nil ?_
    obtain ⟨o_1, hj1, hm1⟩ := bind_some hm
    refine g_cut_m [(1, _)] [] (fun (st : (List (List UInt8))) (hid : (Option Addr × Nat)) => match st, hid with | l1, (a_r1, cap_r1) => [(3, .v (.slice a_r1 l1.length cap_r1))]) (fun F (st : (List (List UInt8))) (hid : (Option Addr × Nat)) => match st, hid with | l1, (a_r1, cap_r1) => [row a_r1 cap_r1 9 1 D.str l1]) (fun st => Out.go (st) = o_1) ⟨rfl, trivial⟩ trivial ?_ ?_
    · skip
      refine g_block ?_
      refine g_loop_m [(1, _), (17, _), (18, _)] [] (fun (st : (Int × (List (List UInt8)))) (hid : (Option Addr × Nat)) => match st, hid with | (x2, l2), (a_r1, cap_r1) => [(3, .v (.slice a_r1 l2.length cap_r1)), (19, .i64 x2)]) (fun F (st : (Int × (List (List UInt8)))) (hid : (Option Addr × Nat)) => match st, hid with | (x2, l2), (a_r1, cap_r1) => [row a_r1 cap_r1 9 1 D.str l2]) (_, _) hj1 (fun _ => rfl) ⟨rfl, rfl, rfl, trivial⟩ trivial ⟨rfl, rfl, trivial⟩ rfl ?_
      rintro n ⟨x2, l2⟩ ⟨a_r1, cap_r1⟩ hj1
      rw [m_tree_parted_l1] at hj1
      refine g_norm (L' := [(3, .v (.slice a_r1 l2.length cap_r1)), (19, .i64 x2), (1, _), (17, _), (18, _)]) (ms' := [row a_r1 cap_r1 9 1 D.str l2]) rfl rfl ?_
      refine g_seq ?_
      refine g_region ?_
      refine go_p rfl rfl rfl (o_cmp rfl rfl rfl) ?_
      refine go_nil ?_
      refine g_seq ?_
      refine g_cond rfl (fun hc2 => ?_) (fun hc2 => ?_)
      · replace hj1 := cond_t hc2 hj1
        refine g_skip ?_
        refine g_seq ?_
        refine g_block ?_
        refine g_seq ?_
        refine g_region ?_
        obtain ⟨x3, hx2, hj1⟩ := bind_some hj1
        refine go_p rfl rfl rfl (o_indexAddr_m Try.runUnderlying38 Try.sizeOf102 rfl rfl hx2) ?_
        refine go_p rfl rfl rfl (o_load_agg Try.isAgg102 Try.sizeOf102 rfl rfl) ?_
        refine go_op rfl rfl rfl (o_alloc_own Try.zeroValue102 (cs := [.str ([] : List UInt8), .str ([] : List UInt8), .i64 0]) rfl) ?_
        rintro _ _ ⟨b1, rfl, rfl⟩
        refine go_u rfl rfl (o_store_box 0 Try.sizeOf102 rfl rfl rfl rfl rfl rfl rfl rfl (Nat.le_of_ble_eq_true rfl)) ?_
        rintro _ _ rfl
        refine go_ms (ms' := [box b1 102 [_, _, _], _]) rfl ?_
        refine go_nil ?_
        refine g_seq ?_
        refine g_seq ?_
        refine g_region ?_
        refine go_p rfl rfl rfl (o_fieldAddr fi_40_0 rfl rfl rfl) ?_
        refine go_p rfl rfl rfl (o_load Try.isAgg3 rfl rfl) ?_
        refine go_p rfl rfl rfl (o_load_box_agg 0 Try.isAgg102 Try.sizeOf102 rfl rfl rfl rfl (Nat.le_of_ble_eq_true rfl)) ?_
        obtain ⟨x4, hx3, hj1⟩ := bind_some hj1
        refine go_p rfl rfl rfl (o_call0 Try.call145 rfl (w_tree_part hx3)) ?_
        refine go_p rfl rfl rfl (o_not rfl) ?_
        refine go_nil ?_
        refine g_cond rfl (fun hc3 => ?_) (fun hc3 => ?_)
        · replace hj1 := cond_t hc3 hj1
          refine g_seq ?_
          refine g_region ?_
          refine go_p rfl rfl rfl (o_assign rfl) ?_
          refine go_nil ?_
          refine g_ret ?_
          obtain rfl := some_eq hj1
          replace hm1 := on_ret hm1
          exact retK (ret_one' rfl (ret_tmp rfl) (perm_drop _)) (congrArg (fun (p : Bool) => (.bool p : D)) (some_eq hm1))
        · replace hj1 := cond_f hc3 hj1
          refine g_skip ?_
          refine g_region ?_
          refine go_p rfl rfl rfl (o_move rfl) ?_
          refine go_p rfl rfl rfl (o_fieldAddr_box fi_102_0 rfl) ?_
          refine go_p rfl rfl rfl (o_load_box 0 Try.isAgg9 rfl rfl rfl rfl) ?_
          refine go_p rfl rfl rfl (o_buildSlice (xs := [_]) (f := D.str) (l := [_]) Try.runUnderlying62 Try.sizeOf9 Try.zeroValue9 rfl rfl rfl (fun _ => ⟨rfl, rfl, rfl⟩) rfl) ?_
          obtain ⟨hg4, hj1⟩ := grd_some hj1
          refine go_op rfl rfl rfl (o_append (a := _) 1 Try.underlying62 Try.type9 rfl rfl rfl rfl rfl rfl rfl (fun _ => rfl) (fun _ => rfl) hg4 (app_len hg4 rfl)) ?_
          rintro _ _ ⟨a_r1, cap_r1, rfl, rfl⟩
          refine go_ms (ms' := [box b1 102 [_, _, _], _]) rfl ?_
          refine go_p rfl rfl rfl (o_assign rfl) ?_
          refine go_nil ?_
          refine g_region ?_
          obtain ⟨hg5, hj1⟩ := grd_some hj1
          refine go_p rfl rfl rfl (o_add rfl rfl (i64_id hg5)) ?_
          refine go_p rfl rfl rfl (o_move rfl) ?_
          refine go_nil ?_
          exact ⟨_, (_, _), hj1, ⟨rfl, rfl, trivial⟩, ⟨rfl, rfl, rfl, trivial⟩, [_], rfl⟩
      · replace hj1 := cond_f hc2 hj1
        refine g_exit ?_
        exact ⟨_, (_, _), some_eq hj1, ⟨rfl, trivial⟩, ⟨rfl, trivial⟩, [], rfl⟩
    · rintro l1 ⟨a_r1, cap_r1⟩ hst
      subst hst
      replace hm1 := on_go hm1
      refine k_norm (L' := [(3, .v (.slice a_r1 l1.length cap_r1)), (1, _)]) (ms' := [row a_r1 cap_r1 9 1 D.str l1]) rfl rfl ?_
      refine g_seq ?_
      refine g_region ?_
      refine go_p rfl rfl rfl (o_assign rfl) ?_
      refine go_nil ?_
      refine g_seq ?_
      refine g_seq ?_
      refine g_region ?_
      refine go_p rfl rfl rfl (o_fieldAddr fi_40_0 rfl rfl rfl) ?_
      refine go_p rfl rfl rfl (o_load Try.isAgg3 rfl rfl) ?_
      refine go_p rfl rfl rfl (o_cmp rfl rfl rfl) ?_
      refine go_nil ?_
      obtain ⟨o_2, hj2, hm2⟩ := bind_some hm1
      refine g_cut_m [(3, _)] [(0, _)] (fun (st : Int) (hid : Unit) => match st, hid with | least1, _ => [(6, .i64 least1)]) (fun F (st : Int) (hid : Unit) => match st, hid with | least1, _ => [(nthF F 0)]) (fun st => st = o_2) ⟨rfl, trivial⟩ ⟨rfl, trivial⟩ ?_ ?_
      · skip
        refine g_cond rfl (fun hc4 => ?_) (fun hc4 => ?_)
        · replace hj2 := cond_t hc4 hj2
          refine g_region ?_
          refine go_p rfl rfl rfl (o_assign rfl) ?_
          refine go_nil ?_
          exact ⟨_, (), some_eq hj2, ⟨rfl, trivial⟩, ⟨rfl, trivial⟩, [], rfl⟩
        · replace hj2 := cond_f hc4 hj2
          refine g_skip ?_
          exact ⟨_, (), some_eq hj2, ⟨rfl, trivial⟩, ⟨rfl, trivial⟩, [], rfl⟩
      · rintro least1 _ hst
        subst hst
        refine k_norm (L' := [(6, .i64 least1), (3, _)]) (ms' := [_]) rfl rfl ?_
        refine g_seq ?_
        refine g_region ?_
        refine go_p rfl rfl rfl (o_move rfl) ?_
        refine go_p rfl rfl rfl (.view (peekE (i := 37) 0 rfl rfl rfl) (o_len Try.runUnderlying62 rfl)) ?_
        refine go_p rfl rfl rfl (o_move rfl) ?_
        refine go_p rfl rfl rfl (o_cmp rfl rfl rfl) ?_
        refine go_p rfl rfl rfl (o_move rfl) ?_
        apply go_and [(3, _)] 4 45 (t := 41) ⟨rfl, trivial⟩ rfl
        · intro hg_1 hk1
          refine go_wantp rfl rfl rfl hg_1 rfl rfl (o_move rfl) ?_
          refine go_wantp rfl rfl rfl hg_1 rfl rfl (.view (peekE (i := 42) 0 rfl rfl rfl) (o_len Try.runUnderlying62 rfl)) ?_
          refine go_wantp rfl rfl rfl hg_1 rfl rfl (o_cmp rfl rfl rfl) ?_
          refine go_p rfl rfl rfl (o_pickT rfl hg_1 rfl) ?_
          exact go_meet hk1 (rfl) ⟨rfl, trivial⟩
        · intro hg_1 hk1
          refine go_skip rfl rfl rfl hg_1 rfl rfl ?_
          refine go_skip rfl rfl rfl hg_1 rfl rfl ?_
          refine go_skip rfl rfl rfl hg_1 rfl rfl ?_
          refine go_p rfl rfl rfl (o_pickF rfl hg_1 rfl) ?_
          exact go_meet hk1 (rfl) ⟨rfl, trivial⟩
        refine go_p rfl rfl rfl (o_move rfl) ?_
        obtain ⟨p1, hp_2, hm2⟩ := bind_some hm2
        refine go_two [] 4 50 p1 (t := 46) trivial rfl (fun hg_2 hk2 => ?_) (fun hg_2 hk2 => ?_) ?_
        · replace hp_2 := cond_t hg_2 hp_2
          refine go_wantp rfl rfl rfl hg_2 rfl rfl (o_move rfl) ?_
          obtain ⟨x5, hx6, hp_2⟩ := bind_some hp_2
          refine go_wantp rfl rfl rfl hg_2 rfl rfl (.view (peekE (i := 47) 0 rfl rfl rfl) (o_call0 Try.call146 rfl (w_name_Twice hx6))) ?_
          refine go_wantp rfl rfl rfl hg_2 rfl rfl (o_not rfl) ?_
          refine go_p rfl rfl rfl (o_pickT rfl hg_2 rfl) ?_
          exact go_meet hk2 (congrArg (fun b => some (D.bool b)) (some_eq hp_2)) trivial
        · replace hp_2 := cond_f hg_2 hp_2
          refine go_skip rfl rfl rfl hg_2 rfl rfl ?_
          refine go_skip rfl rfl rfl hg_2 rfl rfl ?_
          refine go_skip rfl rfl rfl hg_2 rfl rfl ?_
          refine go_p rfl rfl rfl (o_pickF rfl hg_2 rfl) ?_
          exact go_meet hk2 (congrArg (fun b => some (D.bool b)) (some_eq hp_2)) trivial
        refine go_p rfl rfl rfl (o_assign rfl) ?_
        refine go_nil ?_
        refine g_ret ?_
        exact retK (ret_one' rfl (ret_tmp rfl) (perm_drop _)) (congrArg (fun (p : Bool) => (.bool p : D)) (some_eq hm2))
theorem fi_40_1 : FieldIs Try.prog 40 1 1 1 false := ⟨⟨_, _, Try.runUnderlying40, rfl, rfl, Try.sizeOf3, by decide, Try.isAgg3⟩⟩
theorem fi_40_2 : FieldIs Try.prog 40 2 2 1 false := ⟨⟨_, _, Try.runUnderlying40, rfl, rfl, Try.sizeOf3, by decide, Try.isAgg3⟩⟩
theorem fi_40_3 : FieldIs Try.prog 40 3 3 1 false := ⟨⟨_, _, Try.runUnderlying40, rfl, rfl, Try.sizeOf3, by decide, Try.isAgg3⟩⟩
theorem fi_98_0 : FieldIs Try.prog 98 0 0 1 false := ⟨⟨_, _, Try.runUnderlying98, rfl, rfl, Try.sizeOf3, by decide, Try.isAgg3⟩⟩
def m_tree_unused_l1 (l1 : (List Int)) : Nat → Int → Option (Out Bool Unit)
  | 0, _ => none
  | n + 1, x2 =>
    bif (decide (x2 < (l1.length : Int))) then
      (idx l1 x2).bind fun x3 =>
      bif (!decide (x3 = 0)) then
        some (Out.ret false)
      else
        grd (InR (x2 + 1)) <|
        m_tree_unused_l1 l1 n (x2 + 1)
    else
      some (Out.go (()))
def m_tree_unused (n1 : ApiNode) : Option Bool :=
  (m_tree_shapeOf n1.kind).bind fun x1 =>
  (sli [n1.a, n1.b, n1.c] x1.kids (([n1.a, n1.b, n1.c] : List _).length : Int)).bind fun l1 =>
  ((m_tree_unused_l1 l1 FU 0 : Option (Out Bool Unit))).bind (fun oo => oo.on (fun r1 => some r1) (fun _ =>
  some true))
theorem w_tree_unused {n1 : ApiNode} {r_1 : Bool} (hm : m_tree_unused n1 = some r_1) : Fn0 Try.prog 113 [ApiNode.d n1] (.bool r_1) := by
  unfold m_tree_unused at hm
  refine fn_intro Try.func113 rfl Try.ntmps113 rfl fun H0 fr w0 => ?_
  refine g_seq ?_
  refine g_region ?_
  refine go_p rfl rfl rfl (o_box rfl rfl) ?_
  refine go_p rfl rfl rfl (o_assign rfl) ?_
  refine go_nil ?_
  refine g_seq ?_
  refine g_seq ?_
  obtain ⟨x1, hx1, hm⟩ := bind_some hm
  obtain ⟨l1, hx2, hm⟩ := bind_some hm
  refine g_draw 14 Try_mixed (by decide +kernel) ?_
  refine gd_p rfl rfl rfl (o_fieldAddr fi_40_1 rfl rfl rfl) ?_
  refine gd_p rfl rfl rfl (o_load Try.isAgg3 rfl rfl) ?_
  refine gd_p rfl rfl rfl (o_fieldAddr fi_40_2 rfl rfl rfl) ?_
  refine gd_p rfl rfl rfl (o_load Try.isAgg3 rfl rfl) ?_
  refine gd_p rfl rfl rfl (o_fieldAddr fi_40_3 rfl rfl rfl) ?_
  refine gd_p rfl rfl rfl (o_load Try.isAgg3 rfl rfl) ?_
  refine gd_p rfl rfl rfl (o_buildSlice (xs := [_, _, _]) (f := D.i64) (l := [_, _, _]) Try.runUnderlying46 Try.sizeOf3 Try.zeroValue3 rfl rfl rfl (fun _ => ⟨rfl, rfl, rfl⟩) rfl) ?_
  refine gd_p rfl rfl rfl (o_fieldAddr fi_40_0 rfl rfl rfl) ?_
  refine gd_p rfl rfl rfl (o_load Try.isAgg3 rfl rfl) ?_
  refine gd_p rfl rfl rfl (o_call0 Try.call74 rfl (w_tree_shapeOf hx1)) ?_
  refine gd_p rfl rfl rfl (o_field fi_98_0 rfl rfl rfl (Nat.le_of_ble_eq_true rfl)) ?_
  refine gd_p rfl rfl rfl (o_slice_m Try.runUnderlying46 Try.sizeOf3 rfl ⟨_, rfl⟩ rfl hx2) ?_
  refine gd_p rfl rfl rfl (o_len Try.runUnderlying46 rfl) ?_
  refine gd_p rfl rfl rfl (o_move rfl) ?_
  refine gd_nil ?_
  refine go_nil ?_
  obtain ⟨o_1, hj1, hm1⟩ := bind_some hm
  refine g_cut_m [] [] (fun (st : Unit) (hid : Unit) => match st, hid with | _, _ => []) (fun F (st : Unit) (hid : Unit) => match st, hid with | _, _ => []) (fun st => Out.go (st) = o_1) trivial trivial ?_ ?_
  · skip
    refine g_block ?_
    refine g_loop_m [(16, _), (17, _)] [] (fun (st : Int) (hid : Unit) => match st, hid with | x2, _ => [(18, .i64 x2)]) (fun F (st : Int) (hid : Unit) => match st, hid with | x2, _ => []) () hj1 (fun _ => rfl) ⟨rfl, rfl, trivial⟩ trivial ⟨rfl, trivial⟩ rfl ?_
    rintro n x2 _ hj1
    rw [m_tree_unused_l1] at hj1
    refine g_norm (L' := [(18, .i64 x2), (16, _), (17, _)]) (ms' := []) rfl rfl ?_
    refine g_seq ?_
    refine g_region ?_
    refine go_p rfl rfl rfl (o_cmp rfl rfl rfl) ?_
    refine go_nil ?_
    refine g_seq ?_
    refine g_cond rfl (fun hc1 => ?_) (fun hc1 => ?_)
    · replace hj1 := cond_t hc1 hj1
      refine g_skip ?_
      refine g_seq ?_
      refine g_block ?_
      refine g_seq ?_
      refine g_region ?_
      obtain ⟨x3, hx3, hj1⟩ := bind_some hj1
      refine go_p rfl rfl rfl (o_indexAddr_m Try.runUnderlying46 Try.sizeOf3 rfl rfl hx3) ?_
      refine go_p rfl rfl rfl (o_load Try.isAgg3 rfl rfl) ?_
      refine go_p rfl rfl rfl (o_assign rfl) ?_
      refine go_nil ?_
      refine g_seq ?_
      refine g_region ?_
      refine go_p rfl rfl rfl (o_move rfl) ?_
      refine go_p rfl rfl rfl (o_cmp rfl rfl rfl) ?_
      refine go_nil ?_
      refine g_cond rfl (fun hc2 => ?_) (fun hc2 => ?_)
      · replace hj1 := cond_t hc2 hj1
        refine g_seq ?_
        refine g_region ?_
        refine go_p rfl rfl rfl (o_assign rfl) ?_
        refine go_nil ?_
        refine g_ret ?_
        obtain rfl := some_eq hj1
        replace hm1 := on_ret hm1
        exact retK (ret_one' rfl (ret_tmp rfl) (perm_drop _)) (congrArg (fun (p : Bool) => (.bool p : D)) (some_eq hm1))
      · replace hj1 := cond_f hc2 hj1
        refine g_skip ?_
        refine g_region ?_
        obtain ⟨hg4, hj1⟩ := grd_some hj1
        refine go_p rfl rfl rfl (o_add rfl rfl (i64_id hg4)) ?_
        refine go_p rfl rfl rfl (o_move rfl) ?_
        refine go_nil ?_
        exact ⟨_, (), hj1, ⟨rfl, trivial⟩, ⟨rfl, rfl, trivial⟩, [], rfl⟩
    · replace hj1 := cond_f hc1 hj1
      refine g_exit ?_
      exact ⟨_, (), some_eq hj1, trivial, trivial, [], rfl⟩
  · rintro _ _ hst
    subst hst
    replace hm1 := on_go hm1
    refine k_norm (L' := []) (ms' := []) rfl rfl ?_
    refine g_seq ?_
    refine g_region ?_
    refine go_p rfl rfl rfl (o_assign rfl) ?_
    refine go_nil ?_
    refine g_ret ?_
    exact retK (ret_one' rfl (ret_tmp rfl) (perm_drop _)) (congrArg (fun (p : Bool) => (.bool p : D)) (some_eq hm1))
theorem fi_40_8 : FieldIs Try.prog 40 8 8 1 false := ⟨⟨_, _, Try.runUnderlying40, rfl, rfl, Try.sizeOf3, by decide, Try.isAgg3⟩⟩
def m_tree_right (n1 : ApiNode) : Option Bool :=
  bif ((((decide (n1.kind < 1)) || (decide (14 < n1.kind))) || (decide (n1.pos < 0))) || (decide (1048576 < n1.pos))) then
    some false
  else
    (m_tree_named n1).bind fun x1 =>
    (bif x1 then ((m_tree_counted n1).bind fun x2 =>
    some x2) else (some false)).bind fun p1 =>
    (bif p1 then ((m_tree_parted n1).bind fun x3 =>
    some x3) else (some false)).bind fun p2 =>
    (bif p2 then ((m_tree_unused n1).bind fun x4 =>
    some x4) else (some false)).bind fun p3 =>
    some p3
theorem w_tree_right {n1 : ApiNode} {r_1 : Bool} (hm : m_tree_right n1 = some r_1) : Fn0 Try.prog 69 [ApiNode.d n1] (.bool r_1) := by
  unfold m_tree_right at hm
  refine fn_intro Try.func69 rfl Try.ntmps69 rfl fun H0 fr w0 => ?_
  refine g_seq ?_
  refine g_region ?_
  refine go_p rfl rfl rfl (o_box rfl rfl) ?_
  refine go_p rfl rfl rfl (o_assign rfl) ?_
  refine go_nil ?_
  refine g_seq ?_
  refine g_seq ?_
  refine g_region ?_
  refine go_p rfl rfl rfl (o_fieldAddr fi_40_0 rfl rfl rfl) ?_
  refine go_p rfl rfl rfl (o_load Try.isAgg3 rfl rfl) ?_
  refine go_p rfl rfl rfl (o_cmp rfl rfl rfl) ?_
  refine go_p rfl rfl rfl (o_move rfl) ?_
  apply go_or [(1, _)] 4 10 (t := 6) ⟨rfl, trivial⟩ rfl
  · intro hg_1 hk1
    refine go_wantp rfl rfl rfl hg_1 rfl rfl (o_fieldAddr fi_40_0 rfl rfl rfl) ?_
    refine go_wantp rfl rfl rfl hg_1 rfl rfl (o_load Try.isAgg3 rfl rfl) ?_
    refine go_wantp rfl rfl rfl hg_1 rfl rfl (o_cmp rfl rfl rfl) ?_
    refine go_p rfl rfl rfl (o_pickF rfl hg_1 rfl) ?_
    exact go_meet hk1 (rfl) ⟨rfl, trivial⟩
  · intro hg_1 hk1
    refine go_skip rfl rfl rfl hg_1 rfl rfl ?_
    refine go_skip rfl rfl rfl hg_1 rfl rfl ?_
    refine go_skip rfl rfl rfl hg_1 rfl rfl ?_
    refine go_p rfl rfl rfl (o_pickT rfl hg_1 rfl) ?_
    exact go_meet hk1 (rfl) ⟨rfl, trivial⟩
  refine go_p rfl rfl rfl (o_move rfl) ?_
  apply go_or [(1, _)] 4 15 (t := 11) ⟨rfl, trivial⟩ rfl
  · intro hg_2 hk2
    refine go_wantp rfl rfl rfl hg_2 rfl rfl (o_fieldAddr fi_40_8 rfl rfl rfl) ?_
    refine go_wantp rfl rfl rfl hg_2 rfl rfl (o_load Try.isAgg3 rfl rfl) ?_
    refine go_wantp rfl rfl rfl hg_2 rfl rfl (o_cmp rfl rfl rfl) ?_
    refine go_p rfl rfl rfl (o_pickF rfl hg_2 rfl) ?_
    exact go_meet hk2 (rfl) ⟨rfl, trivial⟩
  · intro hg_2 hk2
    refine go_skip rfl rfl rfl hg_2 rfl rfl ?_
    refine go_skip rfl rfl rfl hg_2 rfl rfl ?_
    refine go_skip rfl rfl rfl hg_2 rfl rfl ?_
    refine go_p rfl rfl rfl (o_pickT rfl hg_2 rfl) ?_
    exact go_meet hk2 (rfl) ⟨rfl, trivial⟩
  refine go_p rfl rfl rfl (o_move rfl) ?_
  apply go_or [(1, _)] 4 20 (t := 16) ⟨rfl, trivial⟩ rfl
  · intro hg_3 hk3
    refine go_wantp rfl rfl rfl hg_3 rfl rfl (o_fieldAddr fi_40_8 rfl rfl rfl) ?_
    refine go_wantp rfl rfl rfl hg_3 rfl rfl (o_load Try.isAgg3 rfl rfl) ?_
    refine go_wantp rfl rfl rfl hg_3 rfl rfl (o_cmp rfl rfl rfl) ?_
    refine go_p rfl rfl rfl (o_pickF rfl hg_3 rfl) ?_
    exact go_meet hk3 (rfl) ⟨rfl, trivial⟩
  · intro hg_3 hk3
    refine go_skip rfl rfl rfl hg_3 rfl rfl ?_
    refine go_skip rfl rfl rfl hg_3 rfl rfl ?_
    refine go_skip rfl rfl rfl hg_3 rfl rfl ?_
    refine go_p rfl rfl rfl (o_pickT rfl hg_3 rfl) ?_
    exact go_meet hk3 (rfl) ⟨rfl, trivial⟩
  refine go_nil ?_
  refine g_cond rfl (fun hc1 => ?_) (fun hc1 => ?_)
  · replace hm := cond_t hc1 hm
    refine g_seq ?_
    refine g_region ?_
    refine go_p rfl rfl rfl (o_assign rfl) ?_
    refine go_nil ?_
    refine g_ret ?_
    exact retK (ret_one' rfl (ret_tmp rfl) (perm_drop _)) (congrArg (fun (p : Bool) => (.bool p : D)) (some_eq hm))
  · replace hm := cond_f hc1 hm
    refine g_skip ?_
    refine g_seq ?_
    refine g_region ?_
    refine go_p rfl rfl rfl (o_load_agg Try.isAgg40 Try.sizeOf40 rfl rfl) ?_
    obtain ⟨x1, hx1, hm⟩ := bind_some hm
    refine go_p rfl rfl rfl (o_call0 Try.call110 rfl (w_tree_named hx1)) ?_
    refine go_p rfl rfl rfl (o_move rfl) ?_
    obtain ⟨p1, hp_4, hm⟩ := bind_some hm
    refine go_two [(1, _)] 3 26 p1 (t := 23) ⟨rfl, trivial⟩ rfl (fun hg_4 hk4 => ?_) (fun hg_4 hk4 => ?_) ?_
    · replace hp_4 := cond_t hg_4 hp_4
      refine go_wantp rfl rfl rfl hg_4 rfl rfl (o_load_agg Try.isAgg40 Try.sizeOf40 rfl rfl) ?_
      obtain ⟨x2, hx2, hp_4⟩ := bind_some hp_4
      refine go_wantp rfl rfl rfl hg_4 rfl rfl (o_call0 Try.call111 rfl (w_tree_counted hx2)) ?_
      refine go_p rfl rfl rfl (o_pickT rfl hg_4 rfl) ?_
      exact go_meet hk4 (congrArg (fun b => some (D.bool b)) (some_eq hp_4)) ⟨rfl, trivial⟩
    · replace hp_4 := cond_f hg_4 hp_4
      refine go_skip rfl rfl rfl hg_4 rfl rfl ?_
      refine go_skip rfl rfl rfl hg_4 rfl rfl ?_
      refine go_p rfl rfl rfl (o_pickF rfl hg_4 rfl) ?_
      exact go_meet hk4 (congrArg (fun b => some (D.bool b)) (some_eq hp_4)) ⟨rfl, trivial⟩
    refine go_p rfl rfl rfl (o_move rfl) ?_
    obtain ⟨p2, hp_5, hm⟩ := bind_some hm
    refine go_two [(1, _)] 3 30 p2 (t := 27) ⟨rfl, trivial⟩ rfl (fun hg_5 hk5 => ?_) (fun hg_5 hk5 => ?_) ?_
    · replace hp_5 := cond_t hg_5 hp_5
      refine go_wantp rfl rfl rfl hg_5 rfl rfl (o_load_agg Try.isAgg40 Try.sizeOf40 rfl rfl) ?_
      obtain ⟨x3, hx3, hp_5⟩ := bind_some hp_5
      refine go_wantp rfl rfl rfl hg_5 rfl rfl (o_call0 Try.call112 rfl (w_tree_parted hx3)) ?_
      refine go_p rfl rfl rfl (o_pickT rfl hg_5 rfl) ?_
      exact go_meet hk5 (congrArg (fun b => some (D.bool b)) (some_eq hp_5)) ⟨rfl, trivial⟩
    · replace hp_5 := cond_f hg_5 hp_5
      refine go_skip rfl rfl rfl hg_5 rfl rfl ?_
      refine go_skip rfl rfl rfl hg_5 rfl rfl ?_
      refine go_p rfl rfl rfl (o_pickF rfl hg_5 rfl) ?_
      exact go_meet hk5 (congrArg (fun b => some (D.bool b)) (some_eq hp_5)) ⟨rfl, trivial⟩
    refine go_p rfl rfl rfl (o_move rfl) ?_
    obtain ⟨p3, hp_6, hm⟩ := bind_some hm
    refine go_two [] 3 34 p3 (t := 31) trivial rfl (fun hg_6 hk6 => ?_) (fun hg_6 hk6 => ?_) ?_
    · replace hp_6 := cond_t hg_6 hp_6
      refine go_wantp rfl rfl rfl hg_6 rfl rfl (o_load_agg Try.isAgg40 Try.sizeOf40 rfl rfl) ?_
      obtain ⟨x4, hx4, hp_6⟩ := bind_some hp_6
      refine go_wantp rfl rfl rfl hg_6 rfl rfl (o_call0 Try.call113 rfl (w_tree_unused hx4)) ?_
      refine go_p rfl rfl rfl (o_pickT rfl hg_6 rfl) ?_
      exact go_meet hk6 (congrArg (fun b => some (D.bool b)) (some_eq hp_6)) trivial
    · replace hp_6 := cond_f hg_6 hp_6
      refine go_skip rfl rfl rfl hg_6 rfl rfl ?_
      refine go_skip rfl rfl rfl hg_6 rfl rfl ?_
      refine go_p rfl rfl rfl (o_pickF rfl hg_6 rfl) ?_
      exact go_meet hk6 (congrArg (fun b => some (D.bool b)) (some_eq hp_6)) trivial
    refine go_p rfl rfl rfl (o_assign rfl) ?_
    refine go_nil ?_
    refine g_ret ?_
    exact retK (ret_one' rfl (ret_tmp rfl) (perm_drop _)) (congrArg (fun (p : Bool) => (.bool p : D)) (some_eq hm))
theorem fi_102_2 : FieldIs Try.prog 102 2 2 1 false := ⟨⟨_, _, Try.runUnderlying102, rfl, rfl, Try.sizeOf3, by decide, Try.isAgg3⟩⟩
def m_tree_Kids_l1 (n1 : ApiNode) : Nat → (Int × (List Int)) → Option (List Int)
  | 0, _ => none
  | n + 1, (x2, l3) =>
    bif (decide (x2 < (n1.l.length : Int))) then
      (idx n1.l x2).bind fun x3 =>
      grd ((l3.length + ([x3.at_] : List _).length) * 8 ≤ 140737488355328) <|
      grd (InR (x2 + 1)) <|
      m_tree_Kids_l1 n1 n ((x2 + 1), (l3 ++ [x3.at_]))
    else
      some l3
def m_tree_Kids (n1 : ApiNode) : Option (List Int) :=
  (m_tree_shapeOf n1.kind).bind fun x1 =>
  (sli [n1.a, n1.b, n1.c] 0 x1.kids).bind fun l1 =>
  grd (l1.length * 8 ≤ 140737488355328) <|
  bif x1.parts then
    (m_tree_Kids_l1 n1 FU (0, l1) : Option (List Int)).bind fun l2 =>
    some l2
  else
    some l1
theorem w_tree_Kids {n1 : ApiNode} {r_1 : (List Int)} (hm : m_tree_Kids n1 = some r_1) : Fn0 Try.prog 31 [ApiNode.d n1] (.list 1 D.i64 r_1) := by
  unfold m_tree_Kids at hm
  refine fn_intro Try.func31 rfl Try.ntmps31 rfl fun H0 fr w0 => ?_
  refine g_seq ?_
  refine g_region ?_
  refine go_p rfl rfl rfl (o_box rfl rfl) ?_
  refine go_p rfl rfl rfl (o_assign rfl) ?_
  refine go_conv (nilE (i := 2) (sz := 1) (f := D.i64) rfl).refines ?_
  refine go_nil ?_
  refine g_seq ?_
  refine g_region ?_
  refine go_p rfl rfl rfl (o_fieldAddr fi_40_0 rfl rfl rfl) ?_
  refine go_p rfl rfl rfl (o_load Try.isAgg3 rfl rfl) ?_
  obtain ⟨x1, hx1, hm⟩ := bind_some hm
  refine go_p rfl rfl rfl (o_call0 Try.call74 rfl (w_tree_shapeOf hx1)) ?_
  refine go_op rfl rfl rfl (o_alloc_own Try.zeroValue98 (cs := [.i64 0, .bool false]) rfl) ?_
  rintro _ _ ⟨b1, rfl, rfl⟩
  refine go_u rfl rfl (o_store_box 0 Try.sizeOf98 rfl rfl rfl rfl rfl rfl rfl rfl (Nat.le_of_ble_eq_true rfl)) ?_
  rintro _ _ rfl
  refine go_ms (ms' := [box b1 98 [_, _]]) rfl ?_
  refine go_nil ?_
  refine g_seq ?_
  refine g_region ?_
  refine go_p rfl rfl rfl (o_fieldAddr fi_40_1 rfl rfl rfl) ?_
  refine go_p rfl rfl rfl (o_load Try.isAgg3 rfl rfl) ?_
  refine go_p rfl rfl rfl (o_fieldAddr fi_40_2 rfl rfl rfl) ?_
  refine go_p rfl rfl rfl (o_load Try.isAgg3 rfl rfl) ?_
  refine go_p rfl rfl rfl (o_fieldAddr fi_40_3 rfl rfl rfl) ?_
  refine go_p rfl rfl rfl (o_load Try.isAgg3 rfl rfl) ?_
  refine go_p rfl rfl rfl (o_buildSlice (xs := [_, _, _]) (f := D.i64) (l := [_, _, _]) Try.runUnderlying46 Try.sizeOf3 Try.zeroValue3 rfl rfl rfl (fun _ => ⟨rfl, rfl, rfl⟩) rfl) ?_
  refine go_p rfl rfl rfl (o_fieldAddr_box fi_98_0 rfl) ?_
  refine go_p rfl rfl rfl (o_load_box 0 Try.isAgg3 rfl rfl rfl rfl) ?_
  obtain ⟨l1, hx2, hm⟩ := bind_some hm
  refine go_p rfl rfl rfl (o_slice_m Try.runUnderlying46 Try.sizeOf3 rfl rfl ⟨_, rfl⟩ hx2) ?_
  obtain ⟨hg3, hm⟩ := grd_some hm
  refine go_op rfl rfl rfl (o_call (ms₁ := []) Try.call75 rfl (List.Perm.refl _) (w_Clone_75 hg3)) ?_
  rintro _ _ ⟨_, ⟨a_r1, cap_r1, rfl, rfl⟩, rfl⟩
  generalize hm_r1 : l1.length = m_r1
  clear hm_r1
  refine go_p rfl rfl rfl (o_assign rfl) ?_
  refine go_nil ?_
  refine g_seq ?_
  refine g_seq ?_
  refine g_region ?_
  refine go_p rfl rfl rfl (o_fieldAddr_box fi_98_1 rfl) ?_
  refine go_p rfl rfl rfl (o_load_box 1 Try.isAgg4 rfl rfl rfl rfl) ?_
  refine go_nil ?_
  refine g_cond rfl (fun hc1 => ?_) (fun hc1 => ?_)
  · replace hm := cond_t hc1 hm
    refine g_seq ?_
    refine g_region ?_
    refine go_p rfl rfl rfl (o_fieldAddr fi_40_7 rfl rfl rfl) ?_
    refine go_p rfl rfl rfl (o_load Try.isAgg38 rfl rfl) ?_
    refine go_p rfl rfl rfl (o_len Try.runUnderlying38 rfl) ?_
    refine go_p rfl rfl rfl (o_move rfl) ?_
    refine go_nil ?_
    refine g_thaw 0 rfl rfl ?_
    rintro rfl
    obtain ⟨o_1, hj1, hm1⟩ := bind_some hm
    refine g_cut_m [] [(1, _)] (fun (st : (List Int)) (hid : (Option Addr × Nat)) => match st, hid with | l2, (a_r1, cap_r1) => [(4, .v (.slice a_r1 l2.length cap_r1))]) (fun F (st : (List Int)) (hid : (Option Addr × Nat)) => match st, hid with | l2, (a_r1, cap_r1) => [row a_r1 cap_r1 3 1 D.i64 l2, (nthF F 0)]) (fun st => st = o_1) trivial ⟨rfl, trivial⟩ ?_ ?_
    · skip
      refine g_block ?_
      refine g_loop_m [(24, _), (25, _)] [(1, _)] (fun (st : (Int × (List Int))) (hid : (Option Addr × Nat)) => match st, hid with | (x2, l3), (a_r1, cap_r1) => [(4, .v (.slice a_r1 l3.length cap_r1)), (26, .i64 x2)]) (fun F (st : (Int × (List Int))) (hid : (Option Addr × Nat)) => match st, hid with | (x2, l3), (a_r1, cap_r1) => [row a_r1 cap_r1 3 1 D.i64 l3, (nthF F 0)]) (_, _) hj1 (fun _ => rfl) ⟨rfl, rfl, trivial⟩ ⟨rfl, trivial⟩ ⟨rfl, rfl, trivial⟩ rfl ?_
      rintro n ⟨x2, l3⟩ ⟨a_r1, cap_r1⟩ hj1
      rw [m_tree_Kids_l1] at hj1
      refine g_norm (L' := [(4, .v (.slice a_r1 l3.length cap_r1)), (26, .i64 x2), (24, _), (25, _)]) (ms' := [row a_r1 cap_r1 3 1 D.i64 l3, _]) rfl rfl ?_
      refine g_seq ?_
      refine g_region ?_
      refine go_p rfl rfl rfl (o_cmp rfl rfl rfl) ?_
      refine go_nil ?_
      refine g_seq ?_
      refine g_cond rfl (fun hc2 => ?_) (fun hc2 => ?_)
      · replace hj1 := cond_t hc2 hj1
        refine g_skip ?_
        refine g_seq ?_
        refine g_block ?_
        refine g_seq ?_
        refine g_region ?_
        obtain ⟨x3, hx4, hj1⟩ := bind_some hj1
        refine go_p rfl rfl rfl (o_indexAddr_m Try.runUnderlying38 Try.sizeOf102 rfl rfl hx4) ?_
        refine go_p rfl rfl rfl (o_load_agg Try.isAgg102 Try.sizeOf102 rfl rfl) ?_
        refine go_op rfl rfl rfl (o_alloc_own Try.zeroValue102 (cs := [.str ([] : List UInt8), .str ([] : List UInt8), .i64 0]) rfl) ?_
        rintro _ _ ⟨b2, rfl, rfl⟩
        refine go_u rfl rfl (o_store_box 0 Try.sizeOf102 rfl rfl rfl rfl rfl rfl rfl rfl (Nat.le_of_ble_eq_true rfl)) ?_
        rintro _ _ rfl
        refine go_ms (ms' := [box b2 102 [_, _, _], _, box b1 98 [_, _]]) rfl ?_
        refine go_nil ?_
        refine g_region ?_
        refine go_p rfl rfl rfl (o_move rfl) ?_
        refine go_p rfl rfl rfl (o_fieldAddr_box fi_102_2 rfl) ?_
        refine go_p rfl rfl rfl (o_load_box 0 Try.isAgg3 rfl rfl rfl rfl) ?_
        refine go_p rfl rfl rfl (o_buildSlice (xs := [_]) (f := D.i64) (l := [_]) Try.runUnderlying46 Try.sizeOf3 Try.zeroValue3 rfl rfl rfl (fun _ => ⟨rfl, rfl, rfl⟩) rfl) ?_
        obtain ⟨hg5, hj1⟩ := grd_some hj1
        refine go_op rfl rfl rfl (o_append (a := _) 1 Try.underlying46 Try.type3 rfl rfl rfl rfl rfl rfl rfl (fun _ => rfl) (fun _ => rfl) hg5 (app_len hg5 rfl)) ?_
        rintro _ _ ⟨a_r1, cap_r1, rfl, rfl⟩
        refine go_ms (ms' := [box b2 102 [_, _, _], _, box b1 98 [_, _]]) rfl ?_
        refine go_p rfl rfl rfl (o_assign rfl) ?_
        refine go_nil ?_
        refine g_region ?_
        obtain ⟨hg6, hj1⟩ := grd_some hj1
        refine go_p rfl rfl rfl (o_add rfl rfl (i64_id hg6)) ?_
        refine go_p rfl rfl rfl (o_move rfl) ?_
        refine go_nil ?_
        exact ⟨_, (_, _), hj1, ⟨rfl, rfl, trivial⟩, ⟨rfl, rfl, trivial⟩, [_], rfl⟩
      · replace hj1 := cond_f hc2 hj1
        refine g_exit ?_
        exact ⟨_, (_, _), some_eq hj1, ⟨rfl, trivial⟩, trivial, [], rfl⟩
    · rintro l2 ⟨a_r1, cap_r1⟩ hst
      subst hst
      refine k_norm (L' := [(4, .v (.slice a_r1 l2.length cap_r1))]) (ms' := [row a_r1 cap_r1 3 1 D.i64 l2, _]) rfl rfl ?_
      refine g_seq ?_
      refine g_region ?_
      refine go_p rfl rfl rfl (o_move rfl) ?_
      refine go_p rfl rfl rfl (o_assign rfl) ?_
      refine go_nil ?_
      refine g_conv (peekE (i := 2) 0 rfl rfl rfl).refines ?_
      refine g_ret ?_
      exact retK (ret_one' rfl (ret_tmp rfl) (perm_drop _)) (congrArg (fun (p : (List Int)) => (.list 1 D.i64 p : D)) (some_eq hm1))
  · replace hm := cond_f hc1 hm
    refine g_skip ?_
    refine g_seq ?_
    refine g_region ?_
    refine go_p rfl rfl rfl (o_move rfl) ?_
    refine go_p rfl rfl rfl (o_assign rfl) ?_
    refine go_nil ?_
    refine g_thaw 0 rfl rfl ?_
    rintro rfl
    refine g_conv (peekE (i := 2) 0 rfl rfl rfl).refines ?_
    refine g_ret ?_
    exact retK (ret_one' rfl (ret_tmp rfl) (perm_drop _)) (congrArg (fun (p : (List Int)) => (.list 1 D.i64 p : D)) (some_eq hm))
def m_tree_KidsO_l1 (n1 : ApiNode) : Nat → (Int × (List Int)) → Option (List Int)
  | 0, _ => none
  | n + 1, (x2, l3) =>
    bif (decide (x2 < (n1.l.length : Int))) then
      (idx n1.l x2).bind fun x3 =>
      grd ((l3.length + ([x3.at_] : List _).length) * 8 ≤ 140737488355328) <|
      grd (InR (x2 + 1)) <|
      m_tree_KidsO_l1 n1 n ((x2 + 1), (l3 ++ [x3.at_]))
    else
      some l3
def m_tree_KidsO (n1 : ApiNode)  : Option (List Int) :=
  (m_tree_shapeOf n1.kind).bind fun x1 =>
  (sli [n1.a, n1.b, n1.c] 0 x1.kids).bind fun l1 =>
  grd (l1.length * 8 ≤ 140737488355328) <|
  bif x1.parts then
    (m_tree_KidsO_l1 n1 FU (0, l1) : Option (List Int)).bind fun l2 =>
    some l2
  else
    some l1
theorem w_tree_KidsO {n1 : ApiNode}  {s_1 : (List Int)} (hm : m_tree_KidsO n1 = some s_1) : Go.V.Fn Try.prog 31 [ApiNode.d n1] [] (fun d ms' => ∃ a_s_1 m_s_1 cap_s_1, d = .v (.slice a_s_1 m_s_1 cap_s_1) ∧ ms' = [arr a_s_1 m_s_1 cap_s_1 3 1 D.i64 s_1]) := by
  unfold m_tree_KidsO at hm
  refine fn_intro Try.func31 rfl Try.ntmps31 rfl fun H0 fr w0 => ?_
  refine g_seq ?_
  refine g_region ?_
  refine go_p rfl rfl rfl (o_box rfl rfl) ?_
  refine go_p rfl rfl rfl (o_assign rfl) ?_
  refine go_conv (nilE (i := 2) (sz := 1) (f := D.i64) rfl).refines ?_
  refine go_nil ?_
  refine g_seq ?_
  refine g_region ?_
  refine go_p rfl rfl rfl (o_fieldAddr fi_40_0 rfl rfl rfl) ?_
  refine go_p rfl rfl rfl (o_load Try.isAgg3 rfl rfl) ?_
  obtain ⟨x1, hx1, hm⟩ := bind_some hm
  refine go_p rfl rfl rfl (o_call0 Try.call74 rfl (w_tree_shapeOf hx1)) ?_
  refine go_op rfl rfl rfl (o_alloc_own Try.zeroValue98 (cs := [.i64 0, .bool false]) rfl) ?_
  rintro _ _ ⟨b1, rfl, rfl⟩
  refine go_u rfl rfl (o_store_box 0 Try.sizeOf98 rfl rfl rfl rfl rfl rfl rfl rfl (Nat.le_of_ble_eq_true rfl)) ?_
  rintro _ _ rfl
  refine go_ms (ms' := [box b1 98 [_, _]]) rfl ?_
  refine go_nil ?_
  refine g_seq ?_
  refine g_region ?_
  refine go_p rfl rfl rfl (o_fieldAddr fi_40_1 rfl rfl rfl) ?_
  refine go_p rfl rfl rfl (o_load Try.isAgg3 rfl rfl) ?_
  refine go_p rfl rfl rfl (o_fieldAddr fi_40_2 rfl rfl rfl) ?_
  refine go_p rfl rfl rfl (o_load Try.isAgg3 rfl rfl) ?_
  refine go_p rfl rfl rfl (o_fieldAddr fi_40_3 rfl rfl rfl) ?_
  refine go_p rfl rfl rfl (o_load Try.isAgg3 rfl rfl) ?_
  refine go_p rfl rfl rfl (o_buildSlice (xs := [_, _, _]) (f := D.i64) (l := [_, _, _]) Try.runUnderlying46 Try.sizeOf3 Try.zeroValue3 rfl rfl rfl (fun _ => ⟨rfl, rfl, rfl⟩) rfl) ?_
  refine go_p rfl rfl rfl (o_fieldAddr_box fi_98_0 rfl) ?_
  refine go_p rfl rfl rfl (o_load_box 0 Try.isAgg3 rfl rfl rfl rfl) ?_
  obtain ⟨l1, hx2, hm⟩ := bind_some hm
  refine go_p rfl rfl rfl (o_slice_m Try.runUnderlying46 Try.sizeOf3 rfl rfl ⟨_, rfl⟩ hx2) ?_
  obtain ⟨hg3, hm⟩ := grd_some hm
  refine go_op rfl rfl rfl (o_call (ms₁ := []) Try.call75 rfl (List.Perm.refl _) (w_Clone_75 hg3)) ?_
  rintro _ _ ⟨_, ⟨a_r1, cap_r1, rfl, rfl⟩, rfl⟩
  generalize hm_r1 : l1.length = m_r1
  clear hm_r1
  refine go_p rfl rfl rfl (o_assign rfl) ?_
  refine go_nil ?_
  refine g_seq ?_
  refine g_seq ?_
  refine g_region ?_
  refine go_p rfl rfl rfl (o_fieldAddr_box fi_98_1 rfl) ?_
  refine go_p rfl rfl rfl (o_load_box 1 Try.isAgg4 rfl rfl rfl rfl) ?_
  refine go_nil ?_
  refine g_cond rfl (fun hc1 => ?_) (fun hc1 => ?_)
  · replace hm := cond_t hc1 hm
    refine g_seq ?_
    refine g_region ?_
    refine go_p rfl rfl rfl (o_fieldAddr fi_40_7 rfl rfl rfl) ?_
    refine go_p rfl rfl rfl (o_load Try.isAgg38 rfl rfl) ?_
    refine go_p rfl rfl rfl (o_len Try.runUnderlying38 rfl) ?_
    refine go_p rfl rfl rfl (o_move rfl) ?_
    refine go_nil ?_
    obtain ⟨o_1, hj1, hm1⟩ := bind_some hm
    refine g_cut_m [] [(1, _)] (fun (st : (List Int)) (hid : (Option Addr × Nat × Nat)) => match st, hid with | l2, (a_r1, m_r1, cap_r1) => [(4, .v (.slice a_r1 m_r1 cap_r1))]) (fun F (st : (List Int)) (hid : (Option Addr × Nat × Nat)) => match st, hid with | l2, (a_r1, m_r1, cap_r1) => [arr a_r1 m_r1 cap_r1 3 1 D.i64 l2, (nthF F 0)]) (fun st => st = o_1) trivial ⟨rfl, trivial⟩ ?_ ?_
    · skip
      refine g_block ?_
      refine g_loop_m [(24, _), (25, _)] [(1, _)] (fun (st : (Int × (List Int))) (hid : (Option Addr × Nat × Nat)) => match st, hid with | (x2, l3), (a_r1, m_r1, cap_r1) => [(4, .v (.slice a_r1 m_r1 cap_r1)), (26, .i64 x2)]) (fun F (st : (Int × (List Int))) (hid : (Option Addr × Nat × Nat)) => match st, hid with | (x2, l3), (a_r1, m_r1, cap_r1) => [arr a_r1 m_r1 cap_r1 3 1 D.i64 l3, (nthF F 0)]) (_, _, _) hj1 (fun _ => rfl) ⟨rfl, rfl, trivial⟩ ⟨rfl, trivial⟩ ⟨rfl, rfl, trivial⟩ rfl ?_
      rintro n ⟨x2, l3⟩ ⟨a_r1, m_r1, cap_r1⟩ hj1
      rw [m_tree_KidsO_l1] at hj1
      refine g_norm (L' := [(4, .v (.slice a_r1 m_r1 cap_r1)), (26, .i64 x2), (24, _), (25, _)]) (ms' := [arr a_r1 m_r1 cap_r1 3 1 D.i64 l3, _]) rfl rfl ?_
      refine g_seq ?_
      refine g_region ?_
      refine go_p rfl rfl rfl (o_cmp rfl rfl rfl) ?_
      refine go_nil ?_
      refine g_seq ?_
      refine g_cond rfl (fun hc2 => ?_) (fun hc2 => ?_)
      · replace hj1 := cond_t hc2 hj1
        refine g_skip ?_
        refine g_seq ?_
        refine g_block ?_
        refine g_seq ?_
        refine g_region ?_
        obtain ⟨x3, hx4, hj1⟩ := bind_some hj1
        refine go_p rfl rfl rfl (o_indexAddr_m Try.runUnderlying38 Try.sizeOf102 rfl rfl hx4) ?_
        refine go_p rfl rfl rfl (o_load_agg Try.isAgg102 Try.sizeOf102 rfl rfl) ?_
        refine go_op rfl rfl rfl (o_alloc_own Try.zeroValue102 (cs := [.str ([] : List UInt8), .str ([] : List UInt8), .i64 0]) rfl) ?_
        rintro _ _ ⟨b2, rfl, rfl⟩
        refine go_u rfl rfl (o_store_box 0 Try.sizeOf102 rfl rfl rfl rfl rfl rfl rfl rfl (Nat.le_of_ble_eq_true rfl)) ?_
        rintro _ _ rfl
        refine go_ms (ms' := [box b2 102 [_, _, _], _, box b1 98 [_, _]]) rfl ?_
        refine go_nil ?_
        refine g_region ?_
        refine go_p rfl rfl rfl (o_move rfl) ?_
        refine go_p rfl rfl rfl (o_fieldAddr_box fi_102_2 rfl) ?_
        refine go_p rfl rfl rfl (o_load_box 0 Try.isAgg3 rfl rfl rfl rfl) ?_
        refine go_p rfl rfl rfl (o_buildSlice (xs := [_]) (f := D.i64) (l := [_]) Try.runUnderlying46 Try.sizeOf3 Try.zeroValue3 rfl rfl rfl (fun _ => ⟨rfl, rfl, rfl⟩) rfl) ?_
        obtain ⟨hg5, hj1⟩ := grd_some hj1
        refine go_op rfl rfl rfl (o_append_own (a := _) 1 Try.underlying46 Try.type3 rfl rfl rfl rfl rfl rfl (fun _ => rfl) (fun _ => rfl) hg5 (app_len hg5 rfl)) ?_
        rintro _ _ ⟨a_r1, m_r1, cap_r1, rfl, rfl⟩
        refine go_ms (ms' := [box b2 102 [_, _, _], _, box b1 98 [_, _]]) rfl ?_
        refine go_p rfl rfl rfl (o_assign rfl) ?_
        refine go_nil ?_
        refine g_region ?_
        obtain ⟨hg6, hj1⟩ := grd_some hj1
        refine go_p rfl rfl rfl (o_add rfl rfl (i64_id hg6)) ?_
        refine go_p rfl rfl rfl (o_move rfl) ?_
        refine go_nil ?_
        exact ⟨_, (_, _, _), hj1, ⟨rfl, rfl, trivial⟩, ⟨rfl, rfl, trivial⟩, [_], rfl⟩
      · replace hj1 := cond_f hc2 hj1
        refine g_exit ?_
        exact ⟨_, (_, _, _), some_eq hj1, ⟨rfl, trivial⟩, trivial, [], rfl⟩
    · rintro l2 ⟨a_r1, m_r1, cap_r1⟩ hst
      subst hst
      refine k_norm (L' := [(4, .v (.slice a_r1 m_r1 cap_r1))]) (ms' := [arr a_r1 m_r1 cap_r1 3 1 D.i64 l2, _]) rfl rfl ?_
      refine g_seq ?_
      refine g_region ?_
      refine go_p rfl rfl rfl (o_move rfl) ?_
      refine go_p rfl rfl rfl (o_assign rfl) ?_
      refine go_nil ?_
      refine g_ret ?_
      obtain rfl := some_eq hm1
      exact retK (ret_one' rfl (ret_tmp rfl) (permA 0 rfl permN)) ⟨_, _, _, rfl, rfl⟩
  · replace hm := cond_f hc1 hm
    refine g_skip ?_
    refine g_seq ?_
    refine g_region ?_
    refine go_p rfl rfl rfl (o_move rfl) ?_
    refine go_p rfl rfl rfl (o_assign rfl) ?_
    refine go_nil ?_
    refine g_ret ?_
    obtain rfl := some_eq hm
    exact retK (ret_one' rfl (ret_tmp rfl) (permA 0 rfl permN)) ⟨_, _, _, rfl, rfl⟩
theorem fi_37_0 : FieldIs Try.prog 37 0 0 1 false := ⟨⟨_, _, Try.runUnderlying37, rfl, rfl, Try.sizeOf35, by decide, Try.isAgg35⟩⟩
def m_tree_linked_l1 (i1 : Int) (x2 : (List Int)) : Nat → (Int × (List Int)) → Option (Out (Bool × (List Int)) (List Int))
  | 0, _ => none
  | n + 1, (x3, l2) =>
    bif (decide (x3 < (x2.length : Int))) then
      (idx x2 x3).bind fun x4 =>
      bif ((decide (x4 < 0)) || (decide (i1 ≤ x4))) then
        some (Out.ret (false, l2))
      else
        (idx l2 x4).bind fun x5 =>
        grd (InR (x5 + 1)) <|
        (idx l2 x4).bind fun x6 =>
        grd (InR (x3 + 1)) <|
        m_tree_linked_l1 i1 x2 n ((x3 + 1), (l2.set (x4).toNat (x5 + 1)))
    else
      some (Out.go (l2))
def m_tree_linked (e1 : ApiExpr) (i1 : Int) (count1 : (List Int))  : Option (Bool × (List Int)) :=
  (idx e1.l i1).bind fun x1 =>
  (m_tree_Kids x1).bind fun x2 =>
  ((m_tree_linked_l1 i1 x2 FU (0, count1) : Option (Out (Bool × (List Int)) (List Int)))).bind (fun oo => oo.on (fun r1 => some r1) (fun l1 =>
  (idx e1.l i1).bind fun x7 =>
  bif (!decide (x7.kind = 8)) then (some (true, l1)) else ((idx e1.l i1).bind fun x8 =>
  (idx e1.l x8.a).bind fun x9 =>
  some ((decide (x9.kind = 5)), l1))))
theorem w_tree_linked {e1 : ApiExpr} {i1 : Int} {count1 : (List Int)}  {r_1 : Bool} {s_1 : (List Int)} {a_q2 : Option Addr} {m_q2 cap_q2 : Nat} (hm : m_tree_linked e1 i1 count1 = some (r_1, s_1)) : Go.V.Fn Try.prog 70 [ApiExpr.d e1, .i64 i1, .v (.slice a_q2 m_q2 cap_q2)] [arr a_q2 m_q2 cap_q2 3 1 D.i64 count1] (fun d ms' => d = .bool r_1 ∧ ms' = [arr a_q2 m_q2 cap_q2 3 1 D.i64 s_1]) := by
  unfold m_tree_linked at hm
  refine fn_intro Try.func70 rfl Try.ntmps70 rfl fun H0 fr w0 => ?_
  refine g_seq ?_
  refine g_region ?_
  refine go_p rfl rfl rfl (o_box rfl rfl) ?_
  refine go_p rfl rfl rfl (o_assign rfl) ?_
  refine go_nil ?_
  refine g_seq ?_
  refine g_seq ?_
  refine g_region ?_
  refine go_p rfl rfl rfl (o_fieldAddr fi_37_0 rfl rfl rfl) ?_
  refine go_p rfl rfl rfl (o_load Try.isAgg35 rfl rfl) ?_
  refine go_p rfl rfl rfl (o_move rfl) ?_
  obtain ⟨x1, hx1, hm⟩ := bind_some hm
  refine go_p rfl rfl rfl (o_indexAddr_m Try.runUnderlying35 Try.sizeOf40 rfl rfl hx1) ?_
  refine go_p rfl rfl rfl (o_load_agg Try.isAgg40 Try.sizeOf40 rfl rfl) ?_
  obtain ⟨x2, hx2, hm⟩ := bind_some hm
  refine go_p rfl rfl rfl (o_call0 Try.call31 rfl (w_tree_Kids hx2)) ?_
  refine go_p rfl rfl rfl (o_len Try.runUnderlying46 rfl) ?_
  refine go_p rfl rfl rfl (o_move rfl) ?_
  refine go_nil ?_
  obtain ⟨o_1, hj1, hm1⟩ := bind_some hm
  refine g_cut_m [(1, _), (3, _)] [] (fun (st : (List Int)) (hid : Unit) => match st, hid with | l1, _ => []) (fun F (st : (List Int)) (hid : Unit) => match st, hid with | l1, _ => [arr a_q2 m_q2 cap_q2 3 1 D.i64 l1]) (fun st => Out.go (st) = o_1) ⟨rfl, rfl, trivial⟩ trivial ?_ ?_
  · skip
    refine g_block ?_
    refine g_loop_m [(1, _), (2, _), (3, _), (14, _), (15, _)] [] (fun (st : (Int × (List Int))) (hid : Unit) => match st, hid with | (x3, l2), _ => [(16, .i64 x3)]) (fun F (st : (Int × (List Int))) (hid : Unit) => match st, hid with | (x3, l2), _ => [arr a_q2 m_q2 cap_q2 3 1 D.i64 l2]) () hj1 (fun _ => rfl) ⟨rfl, rfl, rfl, rfl, rfl, trivial⟩ trivial ⟨rfl, trivial⟩ rfl ?_
    rintro n ⟨x3, l2⟩ ⟨⟩ hj1
    rw [m_tree_linked_l1] at hj1
    refine g_norm (L' := [(16, .i64 x3), (1, _), (2, _), (3, _), (14, _), (15, _)]) (ms' := [arr a_q2 m_q2 cap_q2 3 1 D.i64 l2]) rfl rfl ?_
    refine g_seq ?_
    refine g_region ?_
    refine go_p rfl rfl rfl (o_cmp rfl rfl rfl) ?_
    refine go_nil ?_
    refine g_seq ?_
    refine g_cond rfl (fun hc1 => ?_) (fun hc1 => ?_)
    · replace hj1 := cond_t hc1 hj1
      refine g_skip ?_
      refine g_seq ?_
      refine g_block ?_
      refine g_seq ?_
      refine g_region ?_
      obtain ⟨x4, hx3, hj1⟩ := bind_some hj1
      refine go_p rfl rfl rfl (o_indexAddr_m Try.runUnderlying46 Try.sizeOf3 rfl rfl hx3) ?_
      refine go_p rfl rfl rfl (o_load Try.isAgg3 rfl rfl) ?_
      refine go_p rfl rfl rfl (o_assign rfl) ?_
      refine go_nil ?_
      refine g_seq ?_
      refine g_seq ?_
      refine g_region ?_
      refine go_p rfl rfl rfl (o_move rfl) ?_
      refine go_p rfl rfl rfl (o_cmp rfl rfl rfl) ?_
      refine go_p rfl rfl rfl (o_move rfl) ?_
      apply go_or [(1, _), (2, _), (3, _), (8, _), (14, _), (15, _), (16, _)] 4 26 (t := 22) ⟨rfl, rfl, rfl, rfl, rfl, rfl, rfl, trivial⟩ rfl
      · intro hg_1 hk1
        refine go_wantp rfl rfl rfl hg_1 rfl rfl (o_move rfl) ?_
        refine go_wantp rfl rfl rfl hg_1 rfl rfl (o_move rfl) ?_
        refine go_wantp rfl rfl rfl hg_1 rfl rfl (o_cmp rfl rfl rfl) ?_
        refine go_p rfl rfl rfl (o_pickF rfl hg_1 rfl) ?_
        exact go_meet hk1 (rfl) ⟨rfl, rfl, rfl, rfl, rfl, rfl, rfl, trivial⟩
      · intro hg_1 hk1
        refine go_skip rfl rfl rfl hg_1 rfl rfl ?_
        refine go_skip rfl rfl rfl hg_1 rfl rfl ?_
        refine go_skip rfl rfl rfl hg_1 rfl rfl ?_
        refine go_p rfl rfl rfl (o_pickT rfl hg_1 rfl) ?_
        exact go_meet hk1 (rfl) ⟨rfl, rfl, rfl, rfl, rfl, rfl, rfl, trivial⟩
      refine go_nil ?_
      refine g_cond rfl (fun hc2 => ?_) (fun hc2 => ?_)
      · replace hj1 := cond_t hc2 hj1
        refine g_seq ?_
        refine g_region ?_
        refine go_p rfl rfl rfl (o_assign rfl) ?_
        refine go_nil ?_
        refine g_ret ?_
        obtain rfl := some_eq hj1
        replace hm1 := on_ret hm1
        have hq1 := some_eq hm1
        obtain ⟨rfl, rfl⟩ := Prod.mk.inj hq1
        exact retK (ret_one' rfl (ret_tmp rfl) (permA 0 rfl permN)) ⟨rfl, rfl⟩
      · replace hj1 := cond_f hc2 hj1
        refine g_skip ?_
        refine g_region ?_
        refine go_p rfl rfl rfl (o_move rfl) ?_
        refine go_p rfl rfl rfl (o_move rfl) ?_
        obtain ⟨x5, hx4, hj1⟩ := bind_some hj1
        refine go_p rfl rfl rfl (o_indexAddr_arr 0 Try.runUnderlying46 Try.sizeOf3 rfl rfl rfl hx4) ?_
        refine go_p rfl rfl rfl (o_load_arr (off := 0) 0 Try.isAgg3 rfl rfl (idx_some hx4).2 rfl rfl rfl) ?_
        obtain ⟨hg5, hj1⟩ := grd_some hj1
        refine go_p rfl rfl rfl (o_add rfl rfl (i64_id hg5)) ?_
        obtain ⟨x6, hx6, hj1⟩ := bind_some hj1
        refine go_p rfl rfl rfl (o_indexAddr_arr 0 Try.runUnderlying46 Try.sizeOf3 rfl rfl rfl hx6) ?_
        refine go_u rfl rfl (o_store_arr (off := 0) (z' := (x5 + 1)) 0 Try.sizeOf3 rfl rfl (idx_some hx6).2 rfl rfl rfl rfl rfl rfl (Nat.le_of_ble_eq_true rfl) rfl rfl) ?_
        rintro _ _ rfl
        refine go_ms (ms' := [_]) rfl ?_
        refine go_nil ?_
        refine g_region ?_
        obtain ⟨hg7, hj1⟩ := grd_some hj1
        refine go_p rfl rfl rfl (o_add rfl rfl (i64_id hg7)) ?_
        refine go_p rfl rfl rfl (o_move rfl) ?_
        refine go_nil ?_
        exact ⟨_, (), hj1, ⟨rfl, trivial⟩, ⟨rfl, rfl, rfl, rfl, rfl, trivial⟩, [], rfl⟩
    · replace hj1 := cond_f hc1 hj1
      refine g_exit ?_
      exact ⟨_, (), some_eq hj1, trivial, ⟨rfl, rfl, trivial⟩, [], rfl⟩
  · rintro l1 ⟨⟩ hst
    subst hst
    replace hm1 := on_go hm1
    refine k_norm (L' := [(1, _), (3, _)]) (ms' := [arr a_q2 m_q2 cap_q2 3 1 D.i64 l1]) rfl rfl ?_
    refine g_seq ?_
    obtain ⟨x7, hx8, hm1⟩ := bind_some hm1
    rcases cond_split hm1 with ⟨hg_2, hm1⟩ | ⟨hg_2, hm1⟩
    ·
      skip
      refine g_draw 22 Try_mixed (by decide +kernel) ?_
      refine gd_p rfl rfl rfl (o_fieldAddr fi_37_0 rfl rfl rfl) ?_
      refine gd_p rfl rfl rfl (o_load Try.isAgg35 rfl rfl) ?_
      refine gd_p rfl rfl rfl (o_move rfl) ?_
      refine gd_p rfl rfl rfl (o_indexAddr_m Try.runUnderlying35 Try.sizeOf40 rfl rfl hx8) ?_
      refine gd_p rfl rfl rfl (o_fieldAddr fi_40_0 rfl rfl rfl) ?_
      refine gd_p rfl rfl rfl (o_load Try.isAgg3 rfl rfl) ?_
      refine gd_p rfl rfl rfl (o_cmp rfl rfl rfl) ?_
      refine gd_p rfl rfl rfl (o_move rfl) ?_
      refine gd_skip rfl rfl rfl hg_2 rfl rfl ?_
      refine gd_skip rfl rfl rfl hg_2 rfl rfl ?_
      refine gd_skip rfl rfl rfl hg_2 rfl rfl ?_
      refine gd_skip rfl rfl rfl hg_2 rfl rfl ?_
      refine gd_skip rfl rfl rfl hg_2 rfl rfl ?_
      refine gd_skip rfl rfl rfl hg_2 rfl rfl ?_
      refine gd_skip rfl rfl rfl hg_2 rfl rfl ?_
      refine gd_skip rfl rfl rfl hg_2 rfl rfl ?_
      refine gd_skip rfl rfl rfl hg_2 rfl rfl ?_
      refine gd_skip rfl rfl rfl hg_2 rfl rfl ?_
      refine gd_skip rfl rfl rfl hg_2 rfl rfl ?_
      refine gd_skip rfl rfl rfl hg_2 rfl rfl ?_
      refine gd_p rfl rfl rfl (o_pickT rfl hg_2 rfl) ?_
      refine gd_p rfl rfl rfl (o_assign rfl) ?_
      refine gd_nil ?_
      refine go_nil ?_
      refine g_ret ?_
      have hq1 := some_eq hm1
      obtain ⟨rfl, rfl⟩ := Prod.mk.inj hq1
      exact retK (ret_one' rfl (ret_tmp rfl) (permA 0 rfl permN)) ⟨rfl, rfl⟩
    ·
      skip
      obtain ⟨x8, hx9, hm1⟩ := bind_some hm1
      obtain ⟨x9, hx10, hm1⟩ := bind_some hm1
      refine g_draw 22 Try_mixed (by decide +kernel) ?_
      refine gd_p rfl rfl rfl (o_fieldAddr fi_37_0 rfl rfl rfl) ?_
      refine gd_p rfl rfl rfl (o_load Try.isAgg35 rfl rfl) ?_
      refine gd_p rfl rfl rfl (o_move rfl) ?_
      refine gd_p rfl rfl rfl (o_indexAddr_m Try.runUnderlying35 Try.sizeOf40 rfl rfl hx8) ?_
      refine gd_p rfl rfl rfl (o_fieldAddr fi_40_0 rfl rfl rfl) ?_
      refine gd_p rfl rfl rfl (o_load Try.isAgg3 rfl rfl) ?_
      refine gd_p rfl rfl rfl (o_cmp rfl rfl rfl) ?_
      refine gd_p rfl rfl rfl (o_move rfl) ?_
      refine gd_want rfl rfl rfl hg_2 rfl rfl (o_fieldAddr fi_37_0 rfl rfl rfl) ?_
      refine gd_want rfl rfl rfl hg_2 rfl rfl (o_load Try.isAgg35 rfl rfl) ?_
      refine gd_want rfl rfl rfl hg_2 rfl rfl (o_fieldAddr fi_37_0 rfl rfl rfl) ?_
      refine gd_want rfl rfl rfl hg_2 rfl rfl (o_load Try.isAgg35 rfl rfl) ?_
      refine gd_want rfl rfl rfl hg_2 rfl rfl (o_move rfl) ?_
      refine gd_want rfl rfl rfl hg_2 rfl rfl (o_indexAddr_m Try.runUnderlying35 Try.sizeOf40 rfl rfl hx9) ?_
      refine gd_want rfl rfl rfl hg_2 rfl rfl (o_fieldAddr fi_40_1 rfl rfl rfl) ?_
      refine gd_want rfl rfl rfl hg_2 rfl rfl (o_load Try.isAgg3 rfl rfl) ?_
      refine gd_want rfl rfl rfl hg_2 rfl rfl (o_indexAddr_m Try.runUnderlying35 Try.sizeOf40 rfl rfl hx10) ?_
      refine gd_want rfl rfl rfl hg_2 rfl rfl (o_fieldAddr fi_40_0 rfl rfl rfl) ?_
      refine gd_want rfl rfl rfl hg_2 rfl rfl (o_load Try.isAgg3 rfl rfl) ?_
      refine gd_want rfl rfl rfl hg_2 rfl rfl (o_cmp rfl rfl rfl) ?_
      refine gd_p rfl rfl rfl (o_pickF rfl hg_2 rfl) ?_
      refine gd_p rfl rfl rfl (o_assign rfl) ?_
      refine gd_nil ?_
      refine go_nil ?_
      refine g_ret ?_
      have hq1 := some_eq hm1
      obtain ⟨rfl, rfl⟩ := Prod.mk.inj hq1
      exact retK (ret_one' rfl (ret_tmp rfl) (permA 0 rfl permN)) ⟨rfl, rfl⟩
def m_slices_IndexFunc_int_int_l1 (s1 : (List Int)) (f1 : (Int → Option Bool)) : Nat → Int → Option (Out Int Unit)
  | 0, _ => none
  | n + 1, x1 =>
    bif (decide (x1 < (s1.length : Int))) then
      (idx s1 x1).bind fun x2 =>
      (f1 x2).bind fun x3 =>
      bif x3 then
        some (Out.ret x1)
      else
        grd (InR (x1 + 1)) <|
        m_slices_IndexFunc_int_int_l1 s1 f1 n (x1 + 1)
    else
      some (Out.go (()))
def m_slices_IndexFunc_int_int (s1 : (List Int)) (f1 : (Int → Option Bool)) : Option Int :=
  ((m_slices_IndexFunc_int_int_l1 s1 f1 FU 0 : Option (Out Int Unit))).bind (fun oo => oo.on (fun r1 => some r1) (fun _ =>
  some (-1)))
theorem w_slices_IndexFunc_int_int {s1 : (List Int)} {f1 : (Int → Option Bool)} {r_1 : Int} {fv_f1 : D} (hff1 : FunOk1 Try.prog fv_f1 D.i64 D.bool f1) (hm : m_slices_IndexFunc_int_int s1 f1 = some r_1) : Fn0 Try.prog 114 [.list 1 D.i64 s1, fv_f1] (.i64 r_1) := by
  unfold m_slices_IndexFunc_int_int at hm
  refine fn_intro Try.func114 rfl Try.ntmps114 rfl fun H0 fr w0 => ?_
  refine g_seq ?_
  refine g_region ?_
  refine go_p rfl rfl rfl (o_assign rfl) ?_
  refine go_nil ?_
  refine g_seq ?_
  refine g_seq ?_
  refine g_region ?_
  refine go_p rfl rfl rfl (o_move rfl) ?_
  refine go_p rfl rfl rfl (o_len Try.runUnderlying46 rfl) ?_
  refine go_p rfl rfl rfl (o_move rfl) ?_
  refine go_nil ?_
  obtain ⟨o_1, hj1, hm1⟩ := bind_some hm
  refine g_cut_m [] [] (fun (st : Unit) (hid : Unit) => match st, hid with | _, _ => []) (fun F (st : Unit) (hid : Unit) => match st, hid with | _, _ => []) (fun st => Out.go (st) = o_1) trivial trivial ?_ ?_
  · skip
    refine g_block ?_
    refine g_loop_m [(0, _), (1, _), (7, _)] [] (fun (st : Int) (hid : Unit) => match st, hid with | x1, _ => [(8, .i64 x1)]) (fun F (st : Int) (hid : Unit) => match st, hid with | x1, _ => []) () hj1 (fun _ => rfl) ⟨rfl, rfl, rfl, trivial⟩ trivial ⟨rfl, trivial⟩ rfl ?_
    rintro n x1 _ hj1
    rw [m_slices_IndexFunc_int_int_l1] at hj1
    refine g_norm (L' := [(8, .i64 x1), (0, _), (1, _), (7, _)]) (ms' := []) rfl rfl ?_
    refine g_seq ?_
    refine g_region ?_
    refine go_p rfl rfl rfl (o_cmp rfl rfl rfl) ?_
    refine go_nil ?_
    refine g_seq ?_
    refine g_cond rfl (fun hc1 => ?_) (fun hc1 => ?_)
    · replace hj1 := cond_t hc1 hj1
      refine g_skip ?_
      refine g_seq ?_
      refine g_block ?_
      refine g_seq ?_
      refine g_region ?_
      refine go_p rfl rfl rfl (o_move rfl) ?_
      refine go_p rfl rfl rfl (o_assign rfl) ?_
      refine go_nil ?_
      refine g_seq ?_
      refine g_region ?_
      refine go_p rfl rfl rfl (o_move rfl) ?_
      refine go_p rfl rfl rfl (o_move rfl) ?_
      refine go_p rfl rfl rfl (o_move rfl) ?_
      obtain ⟨x2, hx1, hj1⟩ := bind_some hj1
      refine go_p rfl rfl rfl (o_indexAddr_m Try.runUnderlying46 Try.sizeOf3 rfl rfl hx1) ?_
      refine go_p rfl rfl rfl (o_load Try.isAgg3 rfl rfl) ?_
      obtain ⟨x3, hx2, hj1⟩ := bind_some hj1
      refine go_p rfl rfl rfl (o_callv0 rfl rfl (hff1 _ _ hx2)) ?_
      refine go_nil ?_
      refine g_cond rfl (fun hc2 => ?_) (fun hc2 => ?_)
      · replace hj1 := cond_t hc2 hj1
        refine g_seq ?_
        refine g_region ?_
        refine go_p rfl rfl rfl (o_move rfl) ?_
        refine go_p rfl rfl rfl (o_assign rfl) ?_
        refine go_nil ?_
        refine g_ret ?_
        obtain rfl := some_eq hj1
        replace hm1 := on_ret hm1
        exact retK (ret_one' rfl (ret_tmp rfl) (perm_drop _)) (congrArg (fun (p : Int) => (.i64 p : D)) (some_eq hm1))
      · replace hj1 := cond_f hc2 hj1
        refine g_skip ?_
        refine g_region ?_
        obtain ⟨hg3, hj1⟩ := grd_some hj1
        refine go_p rfl rfl rfl (o_add rfl rfl (i64_id hg3)) ?_
        refine go_p rfl rfl rfl (o_move rfl) ?_
        refine go_nil ?_
        exact ⟨_, (), hj1, ⟨rfl, trivial⟩, ⟨rfl, rfl, rfl, trivial⟩, [], rfl⟩
    · replace hj1 := cond_f hc1 hj1
      refine g_exit ?_
      exact ⟨_, (), some_eq hj1, trivial, trivial, [], rfl⟩
  · rintro _ _ hst
    subst hst
    replace hm1 := on_go hm1
    refine k_norm (L' := []) (ms' := []) rfl rfl ?_
    refine g_seq ?_
    refine g_region ?_
    refine go_p rfl rfl rfl (o_assign rfl) ?_
    refine go_nil ?_
    refine g_ret ?_
    exact retK (ret_one' rfl (ret_tmp rfl) (perm_drop _)) (congrArg (fun (p : Int) => (.i64 p : D)) (some_eq hm1))
def m_slices_ContainsFunc_int_int (s1 : (List Int)) (f1 : (Int → Option Bool)) : Option Bool :=
  (m_slices_IndexFunc_int_int s1 f1).bind fun x1 =>
  some (decide (0 ≤ x1))
theorem w_slices_ContainsFunc_int_int {s1 : (List Int)} {f1 : (Int → Option Bool)} {r_1 : Bool} {fv_f1 : D} (hff1 : FunOk1 Try.prog fv_f1 D.i64 D.bool f1) (hm : m_slices_ContainsFunc_int_int s1 f1 = some r_1) : Fn0 Try.prog 71 [.list 1 D.i64 s1, fv_f1] (.bool r_1) := by
  unfold m_slices_ContainsFunc_int_int at hm
  refine fn_intro Try.func71 rfl Try.ntmps71 rfl fun H0 fr w0 => ?_
  refine g_seq ?_
  refine g_region ?_
  refine go_p rfl rfl rfl (o_assign rfl) ?_
  refine go_nil ?_
  refine g_seq ?_
  refine g_region ?_
  refine go_p rfl rfl rfl (o_move rfl) ?_
  refine go_p rfl rfl rfl (o_move rfl) ?_
  obtain ⟨x1, hx1, hm⟩ := bind_some hm
  refine go_p rfl rfl rfl (o_call0 Try.call114 rfl (w_slices_IndexFunc_int_int hff1 hx1)) ?_
  refine go_p rfl rfl rfl (o_cmp rfl rfl rfl) ?_
  refine go_p rfl rfl rfl (o_assign rfl) ?_
  refine go_nil ?_
  refine g_ret ?_
  exact retK (ret_one' rfl (ret_tmp rfl) (perm_drop _)) (congrArg (fun (p : Bool) => (.bool p : D)) (some_eq hm))
def m_tree_May_1 (c1 : Int) : Option Bool :=
  some (!decide (c1 = 1))
theorem w_tree_May_1 {c1 : Int} {r_1 : Bool} (hm : m_tree_May_1 c1 = some r_1) : Fn0 Try.prog 72 [.i64 c1] (.bool r_1) := by
  unfold m_tree_May_1 at hm
  refine fn_intro Try.func72 rfl Try.ntmps72 rfl fun H0 fr w0 => ?_
  refine g_seq ?_
  refine g_region ?_
  refine go_p rfl rfl rfl (o_assign rfl) ?_
  refine go_nil ?_
  refine g_seq ?_
  refine g_region ?_
  refine go_p rfl rfl rfl (o_move rfl) ?_
  refine go_p rfl rfl rfl (o_cmp rfl rfl rfl) ?_
  refine go_p rfl rfl rfl (o_assign rfl) ?_
  refine go_nil ?_
  refine g_ret ?_
  exact retK (ret_one' rfl (ret_tmp rfl) (perm_drop _)) (congrArg (fun (p : Bool) => (.bool p : D)) (some_eq hm))
def m_tree_depths_l2 (x1 : Int) (x3 : (List Int)) : Nat → (Int × (List Int)) → Option (List Int)
  | 0, _ => none
  | n + 1, (x4, l4) =>
    bif (decide (x4 < (x3.length : Int))) then
      (idx x3 x4).bind fun x5 =>
      (idx l4 x1).bind fun x6 =>
      (idx l4 x5).bind fun x7 =>
      (idx l4 x1).bind fun x8 =>
      grd (InR (x4 + 1)) <|
      m_tree_depths_l2 x1 x3 n ((x4 + 1), (l4.set (x1).toNat (if x7 > x6 then x7 else x6)))
    else
      some l4
def m_tree_depths_l1 (e1 : ApiExpr) : Nat → (Int × (List Int)) → Option (List Int)
  | 0, _ => none
  | n + 1, (x1, l2) =>
    bif (decide (x1 < (e1.l.length : Int))) then
      (idx e1.l x1).bind fun x2 =>
      (m_tree_Kids (⟨x2.kind, x2.a, x2.b, x2.c, x2.n_, x2.name, x2.s, x2.l, x2.pos⟩ : ApiNode)).bind fun x3 =>
      (m_tree_depths_l2 x1 x3 FU (0, l2) : Option (List Int)).bind fun l3 =>
      (idx l3 x1).bind fun x9 =>
      grd (InR (x9 + 1)) <|
      (idx l3 x1).bind fun x10 =>
      grd (InR (x1 + 1)) <|
      m_tree_depths_l1 e1 n ((x1 + 1), (l3.set (x1).toNat (x9 + 1)))
    else
      some l2
def m_tree_depths (e1 : ApiExpr) : Option (List Int) :=
  grd (0 ≤ (e1.l.length : Int)) <|
  grd (((e1.l.length : Int)).toNat * 8 ≤ 140737488355328) <|
  (m_tree_depths_l1 e1 FU (0, (List.replicate ((e1.l.length : Int)).toNat (0 : Int))) : Option (List Int)).bind fun l1 =>
  some l1
theorem w_tree_depths {e1 : ApiExpr} {r_1 : (List Int)} (hm : m_tree_depths e1 = some r_1) : Fn0 Try.prog 73 [ApiExpr.d e1] (.list 1 D.i64 r_1) := by
  unfold m_tree_depths at hm
  refine fn_intro Try.func73 rfl Try.ntmps73 rfl fun H0 fr w0 => ?_
  refine g_seq ?_
  refine g_region ?_
  refine go_p rfl rfl rfl (o_box rfl rfl) ?_
  refine go_p rfl rfl rfl (o_assign rfl) ?_
  refine go_conv (nilE (i := 2) (sz := 1) (f := D.i64) rfl).refines ?_
  refine go_nil ?_
  refine g_seq ?_
  refine g_region ?_
  refine go_p rfl rfl rfl (o_fieldAddr fi_37_0 rfl rfl rfl) ?_
  refine go_p rfl rfl rfl (o_load Try.isAgg35 rfl rfl) ?_
  refine go_p rfl rfl rfl (o_len Try.runUnderlying35 rfl) ?_
  obtain ⟨hg1, hm⟩ := grd_some hm
  obtain ⟨hg2, hm⟩ := grd_some hm
  refine go_op rfl rfl rfl (o_makeSlice (f := D.i64) (z0 := 0) Try.underlying46 Try.type3 rfl rfl rfl (Nat.le_of_ble_eq_true rfl) rfl rfl hg1 hg2 (Nat.le_of_ble_eq_true rfl)) ?_
  rintro _ _ ⟨a_r1, m_r1, cap_r1, rfl, rfl⟩
  refine go_p rfl rfl rfl (o_assign rfl) ?_
  refine go_nil ?_
  refine g_seq ?_
  refine g_seq ?_
  refine g_region ?_
  refine go_p rfl rfl rfl (o_fieldAddr fi_37_0 rfl rfl rfl) ?_
  refine go_p rfl rfl rfl (o_load Try.isAgg35 rfl rfl) ?_
  refine go_p rfl rfl rfl (o_len Try.runUnderlying35 rfl) ?_
  refine go_p rfl rfl rfl (o_move rfl) ?_
  refine go_nil ?_
  obtain ⟨o_1, hj1, hm1⟩ := bind_some hm
  refine g_cut_m [(3, _)] [] (fun (st : (List Int)) (hid : Unit) => match st, hid with | l1, _ => []) (fun F (st : (List Int)) (hid : Unit) => match st, hid with | l1, _ => [arr a_r1 m_r1 cap_r1 3 1 D.i64 l1]) (fun st => st = o_1) ⟨rfl, trivial⟩ trivial ?_ ?_
  · skip
    refine g_block ?_
    refine g_loop_m [(3, _), (13, _), (14, _)] [] (fun (st : (Int × (List Int))) (hid : Unit) => match st, hid with | (x1, l2), _ => [(15, .i64 x1)]) (fun F (st : (Int × (List Int))) (hid : Unit) => match st, hid with | (x1, l2), _ => [arr a_r1 m_r1 cap_r1 3 1 D.i64 l2]) () hj1 (fun _ => rfl) ⟨rfl, rfl, rfl, trivial⟩ trivial ⟨rfl, trivial⟩ rfl ?_
    rintro n ⟨x1, l2⟩ ⟨⟩ hj1
    rw [m_tree_depths_l1] at hj1
    refine g_norm (L' := [(15, .i64 x1), (3, _), (13, _), (14, _)]) (ms' := [arr a_r1 m_r1 cap_r1 3 1 D.i64 l2]) rfl rfl ?_
    refine g_seq ?_
    refine g_region ?_
    refine go_p rfl rfl rfl (o_cmp rfl rfl rfl) ?_
    refine go_nil ?_
    refine g_seq ?_
    refine g_cond rfl (fun hc1 => ?_) (fun hc1 => ?_)
    · replace hj1 := cond_t hc1 hj1
      refine g_skip ?_
      refine g_seq ?_
      refine g_block ?_
      refine g_seq ?_
      refine g_region ?_
      refine go_p rfl rfl rfl (o_move rfl) ?_
      obtain ⟨x2, hx3, hj1⟩ := bind_some hj1
      refine go_p rfl rfl rfl (o_indexAddr_m Try.runUnderlying35 Try.sizeOf40 rfl rfl hx3) ?_
      refine go_p rfl rfl rfl (o_load_agg Try.isAgg40 Try.sizeOf40 rfl rfl) ?_
      refine go_op rfl rfl rfl (o_alloc_own Try.zeroValue40 (cs := [.i64 0, .i64 0, .i64 0, .i64 0, .i64 0, .str ([] : List UInt8), .str ([] : List UInt8), .list 3 ApiField.d [], .i64 0]) rfl) ?_
      rintro _ _ ⟨b1, rfl, rfl⟩
      refine go_p rfl rfl rfl (o_assign rfl) ?_
      refine go_u rfl rfl (o_store_box 0 Try.sizeOf40 rfl rfl rfl rfl rfl rfl rfl rfl (Nat.le_of_ble_eq_true rfl)) ?_
      rintro _ _ rfl
      refine go_ms (ms' := [box b1 40 [_, _, _, _, _, _, _, _, _], _]) rfl ?_
      refine go_nil ?_
      refine g_seq ?_
      refine g_seq ?_
      refine g_region ?_
      refine go_p rfl rfl rfl (o_load_box_agg 0 Try.isAgg40 Try.sizeOf40 rfl rfl rfl rfl (Nat.le_of_ble_eq_true rfl)) ?_
      obtain ⟨x3, hx4, hj1⟩ := bind_some hj1
      refine go_p rfl rfl rfl (o_call0 Try.call31 rfl (w_tree_Kids hx4)) ?_
      refine go_p rfl rfl rfl (o_len Try.runUnderlying46 rfl) ?_
      refine go_p rfl rfl rfl (o_move rfl) ?_
      refine go_nil ?_
      obtain ⟨o_2, hj2, hm2⟩ := bind_some hj1
      refine g_cut_m [(3, _), (4, _), (13, _), (14, _), (15, _)] [(0, _)] (fun (st : (List Int)) (hid : Unit) => match st, hid with | l3, _ => []) (fun F (st : (List Int)) (hid : Unit) => match st, hid with | l3, _ => [(nthF F 0), arr a_r1 m_r1 cap_r1 3 1 D.i64 l3]) (fun st => st = o_2) ⟨rfl, rfl, rfl, rfl, rfl, trivial⟩ ⟨rfl, trivial⟩ ?_ ?_
      · skip
        refine g_block ?_
        refine g_loop_m [(3, _), (4, _), (13, _), (14, _), (15, _), (21, _), (22, _)] [(0, _)] (fun (st : (Int × (List Int))) (hid : Unit) => match st, hid with | (x4, l4), _ => [(23, .i64 x4)]) (fun F (st : (Int × (List Int))) (hid : Unit) => match st, hid with | (x4, l4), _ => [(nthF F 0), arr a_r1 m_r1 cap_r1 3 1 D.i64 l4]) () hj2 (fun _ => rfl) ⟨rfl, rfl, rfl, rfl, rfl, rfl, rfl, trivial⟩ ⟨rfl, trivial⟩ ⟨rfl, trivial⟩ rfl ?_
        rintro n ⟨x4, l4⟩ ⟨⟩ hj2
        rw [m_tree_depths_l2] at hj2
        refine g_norm (L' := [(23, .i64 x4), (3, _), (4, _), (13, _), (14, _), (15, _), (21, _), (22, _)]) (ms' := [_, arr a_r1 m_r1 cap_r1 3 1 D.i64 l4]) rfl rfl ?_
        refine g_seq ?_
        refine g_region ?_
        refine go_p rfl rfl rfl (o_cmp rfl rfl rfl) ?_
        refine go_nil ?_
        refine g_seq ?_
        refine g_cond rfl (fun hc2 => ?_) (fun hc2 => ?_)
        · replace hj2 := cond_t hc2 hj2
          refine g_skip ?_
          refine g_seq ?_
          refine g_block ?_
          refine g_seq ?_
          refine g_region ?_
          obtain ⟨x5, hx5, hj2⟩ := bind_some hj2
          refine go_p rfl rfl rfl (o_indexAddr_m Try.runUnderlying46 Try.sizeOf3 rfl rfl hx5) ?_
          refine go_p rfl rfl rfl (o_load Try.isAgg3 rfl rfl) ?_
          refine go_p rfl rfl rfl (o_assign rfl) ?_
          refine go_nil ?_
          obtain ⟨x6, hx6, hj2⟩ := bind_some hj2
          obtain ⟨x7, hx7, hj2⟩ := bind_some hj2
          obtain ⟨x8, hx8, hj2⟩ := bind_some hj2
          refine g_draw 12 Try_mixed (by decide +kernel) ?_
          refine gd_p rfl rfl rfl (o_move rfl) ?_
          refine gd_p rfl rfl rfl (o_move rfl) ?_
          refine gd_p rfl rfl rfl (o_move rfl) ?_
          refine gd_p rfl rfl rfl (o_move rfl) ?_
          refine gd_p rfl rfl rfl (o_indexAddr_arr 1 Try.runUnderlying46 Try.sizeOf3 rfl rfl rfl hx6) ?_
          refine gd_p rfl rfl rfl (o_load_arr (off := 0) 1 Try.isAgg3 rfl rfl (idx_some hx6).2 rfl rfl rfl) ?_
          refine gd_p rfl rfl rfl (o_move rfl) ?_
          refine gd_p rfl rfl rfl (o_move rfl) ?_
          refine gd_p rfl rfl rfl (o_indexAddr_arr 1 Try.runUnderlying46 Try.sizeOf3 rfl rfl rfl hx7) ?_
          refine gd_p rfl rfl rfl (o_load_arr (off := 0) 1 Try.isAgg3 rfl rfl (idx_some hx7).2 rfl rfl rfl) ?_
          refine gd_p rfl rfl rfl (o_max rfl rfl) ?_
          refine gd_p rfl rfl rfl (o_indexAddr_arr 1 Try.runUnderlying46 Try.sizeOf3 rfl rfl rfl hx8) ?_
          refine gd_nil ?_
          refine go_u rfl rfl (o_store_arr (off := 0) (z' := (if x7 > x6 then x7 else x6)) 1 Try.sizeOf3 rfl rfl (idx_some hx8).2 rfl rfl rfl rfl rfl rfl (Nat.le_of_ble_eq_true rfl) rfl rfl) ?_
          rintro _ _ rfl
          refine go_ms (ms' := [box b1 40 [_, _, _, _, _, _, _, _, _], _]) rfl ?_
          refine go_nil ?_
          refine g_region ?_
          obtain ⟨hg9, hj2⟩ := grd_some hj2
          refine go_p rfl rfl rfl (o_add rfl rfl (i64_id hg9)) ?_
          refine go_p rfl rfl rfl (o_move rfl) ?_
          refine go_nil ?_
          exact ⟨_, (), hj2, ⟨rfl, trivial⟩, ⟨rfl, rfl, rfl, rfl, rfl, rfl, rfl, trivial⟩, [], rfl⟩
        · replace hj2 := cond_f hc2 hj2
          refine g_exit ?_
          exact ⟨_, (), some_eq hj2, trivial, ⟨rfl, rfl, rfl, rfl, rfl, trivial⟩, [], rfl⟩
      · rintro l3 ⟨⟩ hst
        subst hst
        refine k_norm (L' := [(3, _), (4, _), (13, _), (14, _), (15, _)]) (ms' := [_, arr a_r1 m_r1 cap_r1 3 1 D.i64 l3]) rfl rfl ?_
        refine g_region ?_
        refine go_p rfl rfl rfl (o_move rfl) ?_
        refine go_p rfl rfl rfl (o_move rfl) ?_
        obtain ⟨x9, hx10, hm2⟩ := bind_some hm2
        refine go_p rfl rfl rfl (o_indexAddr_arr 1 Try.runUnderlying46 Try.sizeOf3 rfl rfl rfl hx10) ?_
        refine go_p rfl rfl rfl (o_load_arr (off := 0) 1 Try.isAgg3 rfl rfl (idx_some hx10).2 rfl rfl rfl) ?_
        obtain ⟨hg11, hm2⟩ := grd_some hm2
        refine go_p rfl rfl rfl (o_add rfl rfl (i64_id hg11)) ?_
        obtain ⟨x10, hx12, hm2⟩ := bind_some hm2
        refine go_p rfl rfl rfl (o_indexAddr_arr 1 Try.runUnderlying46 Try.sizeOf3 rfl rfl rfl hx12) ?_
        refine go_u rfl rfl (o_store_arr (off := 0) (z' := (x9 + 1)) 1 Try.sizeOf3 rfl rfl (idx_some hx12).2 rfl rfl rfl rfl rfl rfl (Nat.le_of_ble_eq_true rfl) rfl rfl) ?_
        rintro _ _ rfl
        refine go_ms (ms' := [box b1 40 [_, _, _, _, _, _, _, _, _], _]) rfl ?_
        refine go_nil ?_
        refine g_region ?_
        obtain ⟨hg13, hm2⟩ := grd_some hm2
        refine go_p rfl rfl rfl (o_add rfl rfl (i64_id hg13)) ?_
        refine go_p rfl rfl rfl (o_move rfl) ?_
        refine go_nil ?_
        exact ⟨_, (), hm2, ⟨rfl, trivial⟩, ⟨rfl, rfl, rfl, trivial⟩, [_], rfl⟩
    · replace hj1 := cond_f hc1 hj1
      refine g_exit ?_
      exact ⟨_, (), some_eq hj1, trivial, ⟨rfl, trivial⟩, [], rfl⟩
  · rintro l1 ⟨⟩ hst
    subst hst
    refine k_norm (L' := [(3, _)]) (ms' := [arr a_r1 m_r1 cap_r1 3 1 D.i64 l1]) rfl rfl ?_
    refine g_seq ?_
    refine g_region ?_
    refine go_p rfl rfl rfl (o_move rfl) ?_
    refine go_p rfl rfl rfl (o_assign rfl) ?_
    refine go_nil ?_
    refine g_thaw 0 rfl rfl ?_
    rintro rfl
    refine g_conv (peekE (i := 2) 0 rfl rfl rfl).refines ?_
    refine g_ret ?_
    exact retK (ret_one' rfl (ret_tmp rfl) (perm_drop _)) (congrArg (fun (p : (List Int)) => (.list 1 D.i64 p : D)) (some_eq hm1))
def m_tree_May_l1 (e1 : ApiExpr) : Nat → (Int × (List Int)) → Option (Out Int (List Int))
  | 0, _ => none
  | n + 1, (x1, l2) =>
    bif (decide (x1 < (e1.l.length : Int))) then
      (idx e1.l x1).bind fun x2 =>
      (m_tree_right (⟨x2.kind, x2.a, x2.b, x2.c, x2.n_, x2.name, x2.s, x2.l, x2.pos⟩ : ApiNode)).bind fun x3 =>
      bif (!x3) then (some (Out.ret 4)) else ((m_tree_linked e1 x1 l2).bind fun (x4, l3) =>
      bif (!x4) then
        some (Out.ret 4)
      else
        grd (InR (x1 + 1)) <|
        m_tree_May_l1 e1 n ((x1 + 1), l3))
    else
      some (Out.go (l2))
def m_tree_May (e1 : ApiExpr) : Option Int :=
  bif ((decide ((e1.l.length : Int) = 0)) || (decide (600 < (e1.l.length : Int)))) then
    some 8
  else
    grd (0 ≤ (e1.l.length : Int)) <|
    grd (((e1.l.length : Int)).toNat * 8 ≤ 140737488355328) <|
    ((m_tree_May_l1 e1 FU (0, (List.replicate ((e1.l.length : Int)).toNat (0 : Int))) : Option (Out Int (List Int)))).bind (fun oo => oo.on (fun r1 => some r1) (fun l1 =>
    grd (InR ((l1.length : Int) - 1)) <|
    (sli l1 0 ((l1.length : Int) - 1)).bind fun l4 =>
    (m_slices_ContainsFunc_int_int l4 (fun y0 => m_tree_May_1 y0)).bind fun x5 =>
    bif x5 then
      some 4
    else
      (m_tree_depths e1).bind fun x6 =>
      grd (InR ((e1.l.length : Int) - 1)) <|
      (idx x6 ((e1.l.length : Int) - 1)).bind fun x7 =>
      bif (decide (100 < x7)) then
        some 6
      else
        some 0))
theorem w_tree_May {e1 : ApiExpr} {r_1 : Int} (hm : m_tree_May e1 = some r_1) : Fn0 Try.prog 28 [ApiExpr.d e1] (.i64 r_1) := by
  unfold m_tree_May at hm
  refine fn_intro Try.func28 rfl Try.ntmps28 rfl fun H0 fr w0 => ?_
  refine g_seq ?_
  refine g_region ?_
  refine go_p rfl rfl rfl (o_box rfl rfl) ?_
  refine go_p rfl rfl rfl (o_assign rfl) ?_
  refine go_nil ?_
  refine g_seq ?_
  refine g_seq ?_
  refine g_region ?_
  refine go_p rfl rfl rfl (o_fieldAddr fi_37_0 rfl rfl rfl) ?_
  refine go_p rfl rfl rfl (o_load Try.isAgg35 rfl rfl) ?_
  refine go_p rfl rfl rfl (o_len Try.runUnderlying35 rfl) ?_
  refine go_p rfl rfl rfl (o_cmp rfl rfl rfl) ?_
  refine go_p rfl rfl rfl (o_move rfl) ?_
  apply go_or [(1, _)] 5 15 (t := 10) ⟨rfl, trivial⟩ rfl
  · intro hg_1 hk1
    refine go_wantp rfl rfl rfl hg_1 rfl rfl (o_fieldAddr fi_37_0 rfl rfl rfl) ?_
    refine go_wantp rfl rfl rfl hg_1 rfl rfl (o_load Try.isAgg35 rfl rfl) ?_
    refine go_wantp rfl rfl rfl hg_1 rfl rfl (o_len Try.runUnderlying35 rfl) ?_
    refine go_wantp rfl rfl rfl hg_1 rfl rfl (o_cmp rfl rfl rfl) ?_
    refine go_p rfl rfl rfl (o_pickF rfl hg_1 rfl) ?_
    exact go_meet hk1 (rfl) ⟨rfl, trivial⟩
  · intro hg_1 hk1
    refine go_skip rfl rfl rfl hg_1 rfl rfl ?_
    refine go_skip rfl rfl rfl hg_1 rfl rfl ?_
    refine go_skip rfl rfl rfl hg_1 rfl rfl ?_
    refine go_skip rfl rfl rfl hg_1 rfl rfl ?_
    refine go_p rfl rfl rfl (o_pickT rfl hg_1 rfl) ?_
    exact go_meet hk1 (rfl) ⟨rfl, trivial⟩
  refine go_nil ?_
  refine g_cond rfl (fun hc1 => ?_) (fun hc1 => ?_)
  · replace hm := cond_t hc1 hm
    refine g_seq ?_
    refine g_region ?_
    refine go_p rfl rfl rfl (o_assign rfl) ?_
    refine go_nil ?_
    refine g_ret ?_
    exact retK (ret_one' rfl (ret_tmp rfl) (perm_drop _)) (congrArg (fun (p : Int) => (.i64 p : D)) (some_eq hm))
  · replace hm := cond_f hc1 hm
    refine g_skip ?_
    refine g_seq ?_
    refine g_region ?_
    refine go_p rfl rfl rfl (o_fieldAddr fi_37_0 rfl rfl rfl) ?_
    refine go_p rfl rfl rfl (o_load Try.isAgg35 rfl rfl) ?_
    refine go_p rfl rfl rfl (o_len Try.runUnderlying35 rfl) ?_
    obtain ⟨hg1, hm⟩ := grd_some hm
    obtain ⟨hg2, hm⟩ := grd_some hm
    refine go_op rfl rfl rfl (o_makeSlice (f := D.i64) (z0 := 0) Try.underlying46 Try.type3 rfl rfl rfl (Nat.le_of_ble_eq_true rfl) rfl rfl hg1 hg2 (Nat.le_of_ble_eq_true rfl)) ?_
    rintro _ _ ⟨a_r1, m_r1, cap_r1, rfl, rfl⟩
    refine go_p rfl rfl rfl (o_assign rfl) ?_
    refine go_nil ?_
    refine g_seq ?_
    refine g_seq ?_
    refine g_region ?_
    refine go_p rfl rfl rfl (o_fieldAddr fi_37_0 rfl rfl rfl) ?_
    refine go_p rfl rfl rfl (o_load Try.isAgg35 rfl rfl) ?_
    refine go_p rfl rfl rfl (o_len Try.runUnderlying35 rfl) ?_
    refine go_p rfl rfl rfl (o_move rfl) ?_
    refine go_nil ?_
    obtain ⟨o_1, hj1, hm1⟩ := bind_some hm
    refine g_cut_m [(1, _), (3, _)] [] (fun (st : (List Int)) (hid : Unit) => match st, hid with | l1, _ => []) (fun F (st : (List Int)) (hid : Unit) => match st, hid with | l1, _ => [arr a_r1 m_r1 cap_r1 3 1 D.i64 l1]) (fun st => Out.go (st) = o_1) ⟨rfl, rfl, trivial⟩ trivial ?_ ?_
    · skip
      refine g_block ?_
      refine g_loop_m [(1, _), (3, _), (21, _), (22, _)] [] (fun (st : (Int × (List Int))) (hid : Unit) => match st, hid with | (x1, l2), _ => [(23, .i64 x1)]) (fun F (st : (Int × (List Int))) (hid : Unit) => match st, hid with | (x1, l2), _ => [arr a_r1 m_r1 cap_r1 3 1 D.i64 l2]) () hj1 (fun _ => rfl) ⟨rfl, rfl, rfl, rfl, trivial⟩ trivial ⟨rfl, trivial⟩ rfl ?_
      rintro n ⟨x1, l2⟩ ⟨⟩ hj1
      rw [m_tree_May_l1] at hj1
      refine g_norm (L' := [(23, .i64 x1), (1, _), (3, _), (21, _), (22, _)]) (ms' := [arr a_r1 m_r1 cap_r1 3 1 D.i64 l2]) rfl rfl ?_
      refine g_seq ?_
      refine g_region ?_
      refine go_p rfl rfl rfl (o_cmp rfl rfl rfl) ?_
      refine go_nil ?_
      refine g_seq ?_
      refine g_cond rfl (fun hc2 => ?_) (fun hc2 => ?_)
      · replace hj1 := cond_t hc2 hj1
        refine g_skip ?_
        refine g_seq ?_
        refine g_block ?_
        refine g_seq ?_
        refine g_region ?_
        refine go_p rfl rfl rfl (o_move rfl) ?_
        obtain ⟨x2, hx3, hj1⟩ := bind_some hj1
        refine go_p rfl rfl rfl (o_indexAddr_m Try.runUnderlying35 Try.sizeOf40 rfl rfl hx3) ?_
        refine go_p rfl rfl rfl (o_load_agg Try.isAgg40 Try.sizeOf40 rfl rfl) ?_
        refine go_op rfl rfl rfl (o_alloc_own Try.zeroValue40 (cs := [.i64 0, .i64 0, .i64 0, .i64 0, .i64 0, .str ([] : List UInt8), .str ([] : List UInt8), .list 3 ApiField.d [], .i64 0]) rfl) ?_
        rintro _ _ ⟨b1, rfl, rfl⟩
        refine go_p rfl rfl rfl (o_assign rfl) ?_
        refine go_u rfl rfl (o_store_box 0 Try.sizeOf40 rfl rfl rfl rfl rfl rfl rfl rfl (Nat.le_of_ble_eq_true rfl)) ?_
        rintro _ _ rfl
        refine go_ms (ms' := [box b1 40 [_, _, _, _, _, _, _, _, _], _]) rfl ?_
        refine go_nil ?_
        refine g_seq ?_
        refine g_region ?_
        refine go_p rfl rfl rfl (o_load_box_agg 0 Try.isAgg40 Try.sizeOf40 rfl rfl rfl rfl (Nat.le_of_ble_eq_true rfl)) ?_
        obtain ⟨x3, hx4, hj1⟩ := bind_some hj1
        refine go_p rfl rfl rfl (o_call0 Try.call69 rfl (w_tree_right hx4)) ?_
        refine go_p rfl rfl rfl (o_not rfl) ?_
        refine go_p rfl rfl rfl (o_move rfl) ?_
        rcases cond_split hj1 with ⟨hg_2, hj1⟩ | ⟨hg_2, hj1⟩
        · skip
          refine go_skip rfl rfl rfl hg_2 rfl rfl ?_
          refine go_skip rfl rfl rfl hg_2 rfl rfl ?_
          refine go_skip rfl rfl rfl hg_2 rfl rfl ?_
          refine go_skip rfl rfl rfl hg_2 rfl rfl ?_
          refine go_skip rfl rfl rfl hg_2 rfl rfl ?_
          refine go_p rfl rfl rfl (o_pickT rfl hg_2 rfl) ?_
          refine go_nil ?_
          refine g_cond_true rfl rfl ?_
          refine g_seq ?_
          refine g_region ?_
          refine go_p rfl rfl rfl (o_assign rfl) ?_
          refine go_nil ?_
          refine g_ret ?_
          obtain rfl := some_eq hj1
          replace hm1 := on_ret hm1
          exact retK (ret_one' rfl (ret_tmp rfl) (perm_drop _)) (congrArg (fun (p : Int) => (.i64 p : D)) (some_eq hm1))
        · skip
          refine go_wantp rfl rfl rfl hg_2 rfl rfl (o_load_agg Try.isAgg37 Try.sizeOf37 rfl rfl) ?_
          refine go_wantp rfl rfl rfl hg_2 rfl rfl (o_move rfl) ?_
          refine go_wantp rfl rfl rfl hg_2 rfl rfl (o_move rfl) ?_
          obtain ⟨⟨x4, l3⟩, hx5, hj1⟩ := bind_some hj1
          refine go_want rfl rfl rfl hg_2 rfl rfl (o_call_own [1] Try.call70 rfl rfl (getL_c rfl getL_n) (w_tree_linked hx5) (by rintro _ _ ⟨rfl, rfl⟩; rfl)) ?_
          rintro _ _ ⟨_, ⟨rfl, rfl⟩, rfl⟩
          refine go_ms (ms' := [box b1 40 [_, _, _, _, _, _, _, _, _], _]) rfl ?_
          refine go_wantp rfl rfl rfl hg_2 rfl rfl (o_not rfl) ?_
          refine go_p rfl rfl rfl (o_pickF rfl hg_2 rfl) ?_
          refine go_nil ?_
          refine g_cond rfl (fun hc3 => ?_) (fun hc3 => ?_)
          · replace hj1 := cond_t hc3 hj1
            refine g_seq ?_
            refine g_region ?_
            refine go_p rfl rfl rfl (o_assign rfl) ?_
            refine go_nil ?_
            refine g_ret ?_
            obtain rfl := some_eq hj1
            replace hm1 := on_ret hm1
            exact retK (ret_one' rfl (ret_tmp rfl) (perm_drop _)) (congrArg (fun (p : Int) => (.i64 p : D)) (some_eq hm1))
          · replace hj1 := cond_f hc3 hj1
            refine g_skip ?_
            refine g_region ?_
            obtain ⟨hg6, hj1⟩ := grd_some hj1
            refine go_p rfl rfl rfl (o_add rfl rfl (i64_id hg6)) ?_
            refine go_p rfl rfl rfl (o_move rfl) ?_
            refine go_nil ?_
            exact ⟨_, (), hj1, ⟨rfl, trivial⟩, ⟨rfl, rfl, rfl, rfl, trivial⟩, [_], rfl⟩
      · replace hj1 := cond_f hc2 hj1
        refine g_exit ?_
        exact ⟨_, (), some_eq hj1, trivial, ⟨rfl, rfl, trivial⟩, [], rfl⟩
    · rintro l1 ⟨⟩ hst
      subst hst
      replace hm1 := on_go hm1
      refine k_norm (L' := [(1, _), (3, _)]) (ms' := [arr a_r1 m_r1 cap_r1 3 1 D.i64 l1]) rfl rfl ?_
      refine g_seq ?_
      refine g_seq ?_
      refine g_region ?_
      refine go_p rfl rfl rfl (o_move rfl) ?_
      refine go_p rfl rfl rfl (o_move rfl) ?_
      refine go_p rfl rfl rfl (o_len_arr 0 Try.runUnderlying46 rfl rfl) ?_
      obtain ⟨hg7, hm1⟩ := grd_some hm1
      refine go_p rfl rfl rfl (o_sub rfl rfl (i64_id hg7)) ?_
      refine go_thaw 0 rfl rfl ?_
      rintro rfl
      obtain ⟨l4, hx8, hm1⟩ := bind_some hm1
      refine go_p rfl rfl rfl (.view (peekE (i := 39) 0 rfl rfl rfl) (o_slice_m Try.runUnderlying46 Try.sizeOf3 rfl rfl ⟨_, rfl⟩ hx8)) ?_
      obtain ⟨x5, hx9, hm1⟩ := bind_some hm1
      refine go_p rfl rfl rfl (o_call0 Try.call71 rfl (w_slices_ContainsFunc_int_int (fun _ _ h => fv_func Try.call72 (w_tree_May_1 h)) hx9)) ?_
      refine go_nil ?_
      refine g_cond rfl (fun hc4 => ?_) (fun hc4 => ?_)
      · replace hm1 := cond_t hc4 hm1
        refine g_seq ?_
        refine g_region ?_
        refine go_p rfl rfl rfl (o_assign rfl) ?_
        refine go_nil ?_
        refine g_ret ?_
        exact retK (ret_one' rfl (ret_tmp rfl) (perm_drop _)) (congrArg (fun (p : Int) => (.i64 p : D)) (some_eq hm1))
      · replace hm1 := cond_f hc4 hm1
        refine g_skip ?_
        refine g_seq ?_
        refine g_seq ?_
        obtain ⟨x6, hx10, hm1⟩ := bind_some hm1
        obtain ⟨hg11, hm1⟩ := grd_some hm1
        obtain ⟨x7, hx12, hm1⟩ := bind_some hm1
        refine g_draw 9 Try_mixed (by decide +kernel) ?_
        refine gd_p rfl rfl rfl (o_load_agg Try.isAgg37 Try.sizeOf37 rfl rfl) ?_
        refine gd_p rfl rfl rfl (o_call0 Try.call73 rfl (w_tree_depths hx10)) ?_
        refine gd_p rfl rfl rfl (o_fieldAddr fi_37_0 rfl rfl rfl) ?_
        refine gd_p rfl rfl rfl (o_load Try.isAgg35 rfl rfl) ?_
        refine gd_p rfl rfl rfl (o_len Try.runUnderlying35 rfl) ?_
        refine gd_p rfl rfl rfl (o_sub rfl rfl (i64_id hg11)) ?_
        refine gd_p rfl rfl rfl (o_indexAddr_m Try.runUnderlying46 Try.sizeOf3 rfl rfl hx12) ?_
        refine gd_p rfl rfl rfl (o_load Try.isAgg3 rfl rfl) ?_
        refine gd_p rfl rfl rfl (o_cmp rfl rfl rfl) ?_
        refine gd_nil ?_
        refine go_nil ?_
        refine g_cond rfl (fun hc5 => ?_) (fun hc5 => ?_)
        · replace hm1 := cond_t hc5 hm1
          refine g_seq ?_
          refine g_region ?_
          refine go_p rfl rfl rfl (o_assign rfl) ?_
          refine go_nil ?_
          refine g_ret ?_
          exact retK (ret_one' rfl (ret_tmp rfl) (perm_drop _)) (congrArg (fun (p : Int) => (.i64 p : D)) (some_eq hm1))
        · replace hm1 := cond_f hc5 hm1
          refine g_skip ?_
          refine g_seq ?_
          refine g_region ?_
          refine go_p rfl rfl rfl (o_assign rfl) ?_
          refine go_nil ?_
          refine g_ret ?_
          exact retK (ret_one' rfl (ret_tmp rfl) (perm_drop _)) (congrArg (fun (p : Int) => (.i64 p : D)) (some_eq hm1))
theorem pl_78 : ∀ fs, (∀ w, (underlying 78).run Try.prog w = .ok (.struct fs) w) → placesOf Try.prog fs [(0, 1), (1, 1)] := by
  intro fs h w
  have := (h w).symm.trans (Try.runUnderlying78 w)
  simp only [Result.ok.injEq, TypeDesc.struct.injEq, and_true] at this
  subst this
  simp [Try.sizeOf3, Sem.run]
structure ScopeBinder where
  node : Int
  branch : Int
def ScopeBinder.d (x : ScopeBinder) : D := .agg [.i64 x.node, .i64 x.branch]
def m_scope_none  : Option ScopeBinder :=
  some (⟨(-1), (-1)⟩ : ScopeBinder)
theorem w_scope_none  {r_1 : ScopeBinder} (hm : m_scope_none = some r_1) : Fn0 Try.prog 121 [] (ScopeBinder.d r_1) := by
  unfold m_scope_none at hm
  refine fn_intro Try.func121 rfl Try.ntmps121 rfl fun H0 fr w0 => ?_
  refine g_seq ?_
  refine g_region ?_
  refine go_op rfl rfl rfl (o_alloc_own Try.zeroValue78 (cs := [.i64 0, .i64 0]) rfl) ?_
  rintro _ _ ⟨b1, rfl, rfl⟩
  refine go_nil ?_
  refine g_seq ?_
  refine g_region ?_
  refine go_p rfl rfl rfl (o_build (zs := [.v (.int .i64 0), .v (.int .i64 0)]) Try.runUnderlying78 Try.zeroValue78 (pl_78 _ Try.runUnderlying78) rfl rfl rfl rfl) ?_
  refine go_u rfl rfl (o_store_box 0 Try.sizeOf78 rfl rfl rfl rfl rfl rfl rfl rfl (Nat.le_of_ble_eq_true rfl)) ?_
  rintro _ _ rfl
  refine go_ms (ms' := [box b1 78 [_, _]]) rfl ?_
  refine go_nil ?_
  refine g_ret ?_
  exact retK (ret_one' rfl (ret_cell 0 rfl rfl rfl Try.isAgg78 Try.sizeOf78 rfl) (perm_drop _)) (congrArg (fun (p : ScopeBinder) => (ScopeBinder.d p : D)) (some_eq hm))
structure ScopeKnown where
  name : (List UInt8)
  by_ : ScopeBinder
def ScopeKnown.d (x : ScopeKnown) : D := .agg [.str x.name, .i64 x.by_.node, .i64 x.by_.branch]
theorem fi_151_0 : FieldIs Try.prog 151 0 0 1 false := ⟨⟨_, _, Try.runUnderlying151, rfl, rfl, Try.sizeOf9, by decide, Try.isAgg9⟩⟩
theorem fi_151_1 : FieldIs Try.prog 151 1 1 2 true := ⟨⟨_, _, Try.runUnderlying151, rfl, rfl, Try.sizeOf78, by decide, Try.isAgg78⟩⟩
def m_scope_reach_find_l1 (r1 : (List ScopeKnown)) (name1 : (List UInt8)) : Nat → Int → Option (Out ScopeBinder Unit)
  | 0, _ => none
  | n + 1, i1 =>
    bif (decide (0 ≤ i1)) then
      (idx r1 i1).bind fun x1 =>
      bif (decide ((x1.name : List UInt8) = name1)) then
        (idx r1 i1).bind fun x2 =>
        some (Out.ret (⟨x2.by_.node, x2.by_.branch⟩ : ScopeBinder))
      else
        grd (InR (i1 - 1)) <|
        m_scope_reach_find_l1 r1 name1 n (i1 - 1)
    else
      some (Out.go (()))
def m_scope_reach_find (r1 : (List ScopeKnown)) (name1 : (List UInt8)) : Option ScopeBinder :=
  grd (InR ((r1.length : Int) - 1)) <|
  ((m_scope_reach_find_l1 r1 name1 FU ((r1.length : Int) - 1) : Option (Out ScopeBinder Unit))).bind (fun oo => oo.on (fun r2 => some r2) (fun _ =>
  (m_scope_none).bind fun x3 =>
  some (⟨x3.node, x3.branch⟩ : ScopeBinder)))
theorem w_scope_reach_find {r1 : (List ScopeKnown)} {name1 : (List UInt8)} {r_1 : ScopeBinder} (hm : m_scope_reach_find r1 name1 = some r_1) : Fn0 Try.prog 122 [.list 3 ScopeKnown.d r1, .str name1] (ScopeBinder.d r_1) := by
  unfold m_scope_reach_find at hm
  refine fn_intro Try.func122 rfl Try.ntmps122 rfl fun H0 fr w0 => ?_
  refine g_seq ?_
  refine g_region ?_
  refine go_op rfl rfl rfl (o_alloc_own Try.zeroValue78 (cs := [.i64 0, .i64 0]) rfl) ?_
  rintro _ _ ⟨b1, rfl, rfl⟩
  refine go_nil ?_
  refine g_seq ?_
  refine g_seq ?_
  refine g_region ?_
  refine go_p rfl rfl rfl (o_move rfl) ?_
  refine go_p rfl rfl rfl (o_len Try.runUnderlying133 rfl) ?_
  obtain ⟨hg1, hm⟩ := grd_some hm
  refine go_p rfl rfl rfl (o_sub rfl rfl (i64_id hg1)) ?_
  refine go_p rfl rfl rfl (o_assign rfl) ?_
  refine go_nil ?_
  obtain ⟨o_1, hj1, hm1⟩ := bind_some hm
  refine g_cut_m [(4, _)] [(0, _)] (fun (st : Unit) (hid : Unit) => match st, hid with | _, _ => []) (fun F (st : Unit) (hid : Unit) => match st, hid with | _, _ => [(nthF F 0)]) (fun st => Out.go (st) = o_1) ⟨rfl, trivial⟩ ⟨rfl, trivial⟩ ?_ ?_
  · skip
    refine g_block ?_
    refine g_loop_m [(0, _), (1, _), (4, _)] [(0, _)] (fun (st : Int) (hid : Unit) => match st, hid with | i1, _ => [(5, .i64 i1)]) (fun F (st : Int) (hid : Unit) => match st, hid with | i1, _ => [(nthF F 0)]) () hj1 (fun _ => rfl) ⟨rfl, rfl, rfl, trivial⟩ ⟨rfl, trivial⟩ ⟨rfl, trivial⟩ rfl ?_
    rintro n i1 _ hj1
    rw [m_scope_reach_find_l1] at hj1
    refine g_norm (L' := [(5, .i64 i1), (0, _), (1, _), (4, _)]) (ms' := [_]) rfl rfl ?_
    refine g_seq ?_
    refine g_seq ?_
    refine g_region ?_
    refine go_p rfl rfl rfl (o_move rfl) ?_
    refine go_p rfl rfl rfl (o_cmp rfl rfl rfl) ?_
    refine go_nil ?_
    refine g_cond rfl (fun hc1 => ?_) (fun hc1 => ?_)
    · replace hj1 := cond_t hc1 hj1
      refine g_skip ?_
      refine g_seq ?_
      refine g_block ?_
      refine g_seq ?_
      refine g_region ?_
      refine go_p rfl rfl rfl (o_move rfl) ?_
      refine go_p rfl rfl rfl (o_move rfl) ?_
      obtain ⟨x1, hx2, hj1⟩ := bind_some hj1
      refine go_p rfl rfl rfl (o_indexAddr_m Try.runUnderlying133 Try.sizeOf151 rfl rfl hx2) ?_
      refine go_p rfl rfl rfl (o_fieldAddr fi_151_0 rfl rfl rfl) ?_
      refine go_p rfl rfl rfl (o_load Try.isAgg9 rfl rfl) ?_
      refine go_p rfl rfl rfl (o_move rfl) ?_
      refine go_p rfl rfl rfl (o_cmps rfl rfl rfl) ?_
      refine go_nil ?_
      refine g_cond rfl (fun hc2 => ?_) (fun hc2 => ?_)
      · replace hj1 := cond_t hc2 hj1
        refine g_seq ?_
        refine g_region ?_
        refine go_p rfl rfl rfl (o_move rfl) ?_
        refine go_p rfl rfl rfl (o_move rfl) ?_
        obtain ⟨x2, hx3, hj1⟩ := bind_some hj1
        refine go_p rfl rfl rfl (o_indexAddr_m Try.runUnderlying133 Try.sizeOf151 rfl rfl hx3) ?_
        refine go_p rfl rfl rfl (o_fieldAddr fi_151_1 rfl rfl rfl) ?_
        refine go_p rfl rfl rfl (o_load_agg Try.isAgg78 Try.sizeOf78 rfl rfl) ?_
        refine go_u rfl rfl (o_store_box 0 Try.sizeOf78 rfl rfl rfl rfl rfl rfl rfl rfl (Nat.le_of_ble_eq_true rfl)) ?_
        rintro _ _ rfl
        refine go_ms (ms' := [box b1 78 [_, _]]) rfl ?_
        refine go_nil ?_
        refine g_ret ?_
        obtain rfl := some_eq hj1
        replace hm1 := on_ret hm1
        exact retK (ret_one' rfl (ret_cell 0 rfl rfl rfl Try.isAgg78 Try.sizeOf78 rfl) (perm_drop _)) (congrArg (fun (p : ScopeBinder) => (ScopeBinder.d p : D)) (some_eq hm1))
      · replace hj1 := cond_f hc2 hj1
        refine g_skip ?_
        refine g_region ?_
        refine go_p rfl rfl rfl (o_move rfl) ?_
        obtain ⟨hg4, hj1⟩ := grd_some hj1
        refine go_p rfl rfl rfl (o_sub rfl rfl (i64_id hg4)) ?_
        refine go_p rfl rfl rfl (o_assign rfl) ?_
        refine go_nil ?_
        exact ⟨_, (), hj1, ⟨rfl, trivial⟩, ⟨rfl, rfl, rfl, trivial⟩, [], rfl⟩
    · replace hj1 := cond_f hc1 hj1
      refine g_exit ?_
      exact ⟨_, (), some_eq hj1, trivial, ⟨rfl, trivial⟩, [], rfl⟩
  · rintro _ _ hst
    subst hst
    replace hm1 := on_go hm1
    refine k_norm (L' := [(4, _)]) (ms' := [_]) rfl rfl ?_
    refine g_seq ?_
    refine g_region ?_
    obtain ⟨x3, hx5, hm1⟩ := bind_some hm1
    refine go_p rfl rfl rfl (o_call0 Try.call121 rfl (w_scope_none hx5)) ?_
    refine go_u rfl rfl (o_store_box 0 Try.sizeOf78 rfl rfl rfl rfl rfl rfl rfl rfl (Nat.le_of_ble_eq_true rfl)) ?_
    rintro _ _ rfl
    refine go_ms (ms' := [box b1 78 [_, _]]) rfl ?_
    refine go_nil ?_
    refine g_ret ?_
    exact retK (ret_one' rfl (ret_cell 0 rfl rfl rfl Try.isAgg78 Try.sizeOf78 rfl) (perm_drop _)) (congrArg (fun (p : ScopeBinder) => (ScopeBinder.d p : D)) (some_eq hm1))
def m_slices_Clip_scope_reach_scope_known (s1 : (List ScopeKnown))  : Option (List ScopeKnown) :=
  some s1
theorem w_slices_Clip_scope_reach_scope_known {s1 : (List ScopeKnown)}  {s_1 : (List ScopeKnown)} (hm : m_slices_Clip_scope_reach_scope_known s1 = some s_1) : Go.V.Fn Try.prog 149 [.list 3 ScopeKnown.d s1] [] (fun d ms' => ∃ a_s_1, d = .v (.slice a_s_1 s_1.length s_1.length) ∧ ms' = [clip a_s_1 3 ScopeKnown.d s_1]) := by
  unfold m_slices_Clip_scope_reach_scope_known at hm
  refine fn_intro Try.func149 rfl Try.ntmps149 rfl fun H0 fr w0 => ?_
  refine g_seq ?_
  refine g_region ?_
  refine go_p rfl rfl rfl (o_assign rfl) ?_
  refine go_conv (nilE (i := 2) (sz := 3) (f := ScopeKnown.d) rfl).refines ?_
  refine go_nil ?_
  refine g_seq ?_
  refine g_region ?_
  refine go_p rfl rfl rfl (o_move rfl) ?_
  refine go_p rfl rfl rfl (o_move rfl) ?_
  refine go_p rfl rfl rfl (o_len Try.runUnderlying133 rfl) ?_
  refine go_p rfl rfl rfl (o_move rfl) ?_
  refine go_p rfl rfl rfl (o_len Try.runUnderlying133 rfl) ?_
  refine go_op rfl rfl rfl (o_slice_clip Try.runUnderlying133 Try.sizeOf151 rfl rfl rfl) ?_
  rintro _ _ ⟨a_r1, rfl, rfl⟩
  refine go_p rfl rfl rfl (o_assign rfl) ?_
  refine go_nil ?_
  refine g_ret ?_
  obtain rfl := some_eq hm
  exact retK (ret_one' rfl (ret_tmp rfl) (permA 0 rfl permN)) ⟨_, rfl, rfl⟩
theorem pl_151 : ∀ fs, (∀ w, (underlying 151).run Try.prog w = .ok (.struct fs) w) → placesOf Try.prog fs [(0, 1), (1, 2)] := by
  intro fs h w
  have := (h w).symm.trans (Try.runUnderlying151 w)
  simp only [Result.ok.injEq, TypeDesc.struct.injEq, and_true] at this
  subst this
  simp [Try.sizeOf78, Try.sizeOf9, Sem.run]
def m_scope_reach_with (r1 : (List ScopeKnown)) (name1 : (List UInt8)) (node1 : Int) (branch1 : Int) : Option (List ScopeKnown) :=
  (m_slices_Clip_scope_reach_scope_known r1).bind fun l1 =>
  grd ((l1.length + ([(⟨name1, (⟨node1, branch1⟩ : ScopeBinder)⟩ : ScopeKnown)] : List _).length) * 32 ≤ 140737488355328) <|
  some (l1 ++ [(⟨name1, (⟨node1, branch1⟩ : ScopeBinder)⟩ : ScopeKnown)])
theorem w_scope_reach_with {r1 : (List ScopeKnown)} {name1 : (List UInt8)} {node1 : Int} {branch1 : Int} {r_1 : (List ScopeKnown)} (hm : m_scope_reach_with r1 name1 node1 branch1 = some r_1) : Fn0 Try.prog 123 [.list 3 ScopeKnown.d r1, .str name1, .i64 node1, .i64 branch1] (.list 3 ScopeKnown.d r_1) := by
  unfold m_scope_reach_with at hm
  refine fn_intro Try.func123 rfl Try.ntmps123 rfl fun H0 fr w0 => ?_
  refine g_seq ?_
  refine g_region ?_
  refine go_p rfl rfl rfl (o_assign rfl) ?_
  refine go_conv (nilE (i := 8) (sz := 3) (f := ScopeKnown.d) rfl).refines ?_
  refine go_nil ?_
  refine g_seq ?_
  refine g_region ?_
  refine go_p rfl rfl rfl (o_move rfl) ?_
  obtain ⟨l1, hx1, hm⟩ := bind_some hm
  refine go_op rfl rfl rfl (o_call (ms₁ := []) Try.call149 rfl (List.Perm.refl _) (w_slices_Clip_scope_reach_scope_known hx1)) ?_
  rintro _ _ ⟨_, ⟨a_r1, rfl, rfl⟩, rfl⟩
  refine go_p rfl rfl rfl (o_move rfl) ?_
  refine go_p rfl rfl rfl (o_move rfl) ?_
  refine go_p rfl rfl rfl (o_move rfl) ?_
  refine go_p rfl rfl rfl (o_build (zs := [.v (.int .i64 0), .v (.int .i64 0)]) Try.runUnderlying78 Try.zeroValue78 (pl_78 _ Try.runUnderlying78) rfl rfl rfl rfl) ?_
  refine go_p rfl rfl rfl (o_build (zs := [.str [], .v (.int .i64 0), .v (.int .i64 0)]) Try.runUnderlying151 Try.zeroValue151 (pl_151 _ Try.runUnderlying151) rfl rfl rfl rfl) ?_
  refine go_p rfl rfl rfl (o_buildSlice (xs := [_]) (f := ScopeKnown.d) (l := [(⟨name1, (⟨node1, branch1⟩ : ScopeBinder)⟩ : ScopeKnown)]) Try.runUnderlying133 Try.sizeOf151 Try.zeroValue151 rfl rfl rfl (fun _ => ⟨rfl, rfl, rfl⟩) rfl) ?_
  obtain ⟨hg2, hm⟩ := grd_some hm
  refine go_op rfl rfl rfl (o_append_clip (a := _) 0 Try.underlying133 Try.type151 rfl rfl rfl rfl rfl rfl (by simp) (fun _ => rfl) (fun _ => rfl) hg2 (app_len hg2 rfl)) ?_
  rintro _ _ ⟨a_r2, cap_r2, rfl, rfl⟩
  refine go_ms (ms' := [_, _]) rfl ?_
  refine go_p rfl rfl rfl (o_assign rfl) ?_
  refine go_nil ?_
  refine g_conv (peekE (i := 8) 0 rfl rfl rfl).refines ?_
  refine g_ret ?_
  exact retK (ret_one' rfl (ret_tmp rfl) (perm_drop _)) (congrArg (fun (p : (List ScopeKnown)) => (.list 3 ScopeKnown.d p : D)) (some_eq hm))
def m_scope_binders_1_l1 (self : Int → (List ScopeKnown) → (List ScopeBinder) → Option (List ScopeBinder)) (i1 : Int) (r1 : (List ScopeKnown)) (x1 : ApiNode) : Nat → (Int × (List ScopeBinder)) → Option (List ScopeBinder)
  | 0, _ => none
  | n + 1, (x9, l1) =>
    bif (decide (x9 < (x1.l.length : Int))) then
      (idx x1.l x9).bind fun x10 =>
      (m_scope_reach_with r1 x10.var i1 x9).bind fun x11 =>
      (self x10.at_ x11 l1).bind fun z8 =>
      grd (InR (x9 + 1)) <|
      m_scope_binders_1_l1 self i1 r1 x1 n ((x9 + 1), z8)
    else
      some l1
def m_scope_binders_1_l2 (self : Int → (List ScopeKnown) → (List ScopeBinder) → Option (List ScopeBinder)) (r1 : (List ScopeKnown)) (x12 : (List Int)) : Nat → (Int × (List ScopeBinder)) → Option (List ScopeBinder)
  | 0, _ => none
  | n + 1, (x13, l2) =>
    bif (decide (x13 < (x12.length : Int))) then
      (idx x12 x13).bind fun x14 =>
      (self x14 r1 l2).bind fun z9 =>
      grd (InR (x13 + 1)) <|
      m_scope_binders_1_l2 self r1 x12 n ((x13 + 1), z9)
    else
      some l2
def m_scope_binders_1F (self : Int → (List ScopeKnown) → (List ScopeBinder) → Option (List ScopeBinder)) (i1 : Int) (r1 : (List ScopeKnown)) (z1 : (List ScopeBinder)) (c1 : ApiExpr) : Option (List ScopeBinder) :=
  (idx c1.l i1).bind fun x1 =>
  (m_scope_none).bind fun x2 =>
  (idx z1 i1).bind fun x3 =>
  bif (decide (x1.kind = 4)) then
    (m_scope_reach_find r1 x1.name).bind fun x4 =>
    (idx (z1.set (i1).toNat (⟨x2.node, x2.branch⟩ : ScopeBinder)) i1).bind fun x5 =>
    some ((z1.set (i1).toNat (⟨x2.node, x2.branch⟩ : ScopeBinder)).set (i1).toNat (⟨x4.node, x4.branch⟩ : ScopeBinder))
  else
    bif (decide (x1.kind = 5)) then
      (m_scope_reach_with r1 x1.name i1 (-1)).bind fun x6 =>
      (self x1.a x6 (z1.set (i1).toNat (⟨x2.node, x2.branch⟩ : ScopeBinder))).bind fun z2 =>
      some z2
    else
      bif (decide (x1.kind = 7)) then
        (self x1.a r1 (z1.set (i1).toNat (⟨x2.node, x2.branch⟩ : ScopeBinder))).bind fun z3 =>
        (m_scope_reach_with r1 x1.name i1 (-1)).bind fun x7 =>
        (self x1.b x7 z3).bind fun z4 =>
        some z4
      else
        bif (decide (x1.kind = 8)) then
          (m_scope_reach_with r1 x1.name i1 (-1)).bind fun x8 =>
          (self x1.a x8 (z1.set (i1).toNat (⟨x2.node, x2.branch⟩ : ScopeBinder))).bind fun z5 =>
          (self x1.b x8 z5).bind fun z6 =>
          some z6
        else
          bif (decide (x1.kind = 14)) then
            (self x1.a r1 (z1.set (i1).toNat (⟨x2.node, x2.branch⟩ : ScopeBinder))).bind fun z7 =>
            m_scope_binders_1_l1 self i1 r1 x1 FU (0, z7)
          else
            (m_tree_Kids (⟨x1.kind, x1.a, x1.b, x1.c, x1.n_, x1.name, x1.s, x1.l, x1.pos⟩ : ApiNode)).bind fun x12 =>
            m_scope_binders_1_l2 self r1 x12 FU (0, (z1.set (i1).toNat (⟨x2.node, x2.branch⟩ : ScopeBinder)))
def m_scope_binders_1 (c1 : ApiExpr) : Nat → Int → (List ScopeKnown) → (List ScopeBinder) → Option (List ScopeBinder)
  | 0 => fun _ _ _ => none
  | n + 1 => fun i1 r1 z1 => m_scope_binders_1F (m_scope_binders_1 c1 n) i1 r1 z1 c1
theorem wF_scope_binders_1 {c1 : ApiExpr} (self : Int → (List ScopeKnown) → (List ScopeBinder) → Option (List ScopeBinder)) (hself : ∀ {i1 : Int} {r1 : (List ScopeKnown)} {z1 : (List ScopeBinder)} {s_1 : (List ScopeBinder)} {b_q3 : Nat} {a_q3c0 : Option Addr} {m_q3c0 : Nat} {cap_q3c0 : Nat} {b_q4 : Nat}, self i1 r1 z1 = some s_1 → Go.V.Fn Try.prog 120 [.i64 i1, .list 3 ScopeKnown.d r1, .ref (ApiExpr.d c1), .v (.pointer (some ⟨b_q3, 0, none⟩)), .v (.pointer (some ⟨b_q4, 0, none⟩))] [box b_q3 70 [.v (.slice a_q3c0 m_q3c0 cap_q3c0)], arr a_q3c0 m_q3c0 cap_q3c0 78 2 ScopeBinder.d z1, box b_q4 131 [.clo (.func 120) [] [.ref (ApiExpr.d c1), .v (.pointer (some ⟨b_q3, 0, none⟩)), .v (.pointer (some ⟨b_q4, 0, none⟩))]]] (fun d ms' => d = .tup [] ∧ ms' = [box b_q3 70 [.v (.slice a_q3c0 m_q3c0 cap_q3c0)], arr a_q3c0 m_q3c0 cap_q3c0 78 2 ScopeBinder.d s_1, box b_q4 131 [.clo (.func 120) [] [.ref (ApiExpr.d c1), .v (.pointer (some ⟨b_q3, 0, none⟩)), .v (.pointer (some ⟨b_q4, 0, none⟩))]]])) {i1 : Int} {r1 : (List ScopeKnown)} {z1 : (List ScopeBinder)} {s_1 : (List ScopeBinder)} {b_q3 : Nat} {a_q3c0 : Option Addr} {m_q3c0 : Nat} {cap_q3c0 : Nat} {b_q4 : Nat} (hm : m_scope_binders_1F self i1 r1 z1 c1 = some s_1) : Go.V.Fn Try.prog 120 [.i64 i1, .list 3 ScopeKnown.d r1, .ref (ApiExpr.d c1), .v (.pointer (some ⟨b_q3, 0, none⟩)), .v (.pointer (some ⟨b_q4, 0, none⟩))] [box b_q3 70 [.v (.slice a_q3c0 m_q3c0 cap_q3c0)], arr a_q3c0 m_q3c0 cap_q3c0 78 2 ScopeBinder.d z1, box b_q4 131 [.clo (.func 120) [] [.ref (ApiExpr.d c1), .v (.pointer (some ⟨b_q3, 0, none⟩)), .v (.pointer (some ⟨b_q4, 0, none⟩))]]] (fun d ms' => d = .tup [] ∧ ms' = [box b_q3 70 [.v (.slice a_q3c0 m_q3c0 cap_q3c0)], arr a_q3c0 m_q3c0 cap_q3c0 78 2 ScopeBinder.d s_1, box b_q4 131 [.clo (.func 120) [] [.ref (ApiExpr.d c1), .v (.pointer (some ⟨b_q3, 0, none⟩)), .v (.pointer (some ⟨b_q4, 0, none⟩))]]]) := by
  unfold m_scope_binders_1F at hm
  refine fn_intro Try.func120 rfl Try.ntmps120 rfl fun H0 fr w0 => ?_
  refine g_seq ?_
  refine g_region ?_
  refine go_p rfl rfl rfl (o_fieldAddr fi_37_0 rfl rfl rfl) ?_
  refine go_p rfl rfl rfl (o_load Try.isAgg35 rfl rfl) ?_
  refine go_p rfl rfl rfl (o_move rfl) ?_
  obtain ⟨x1, hx1, hm⟩ := bind_some hm
  refine go_p rfl rfl rfl (o_indexAddr_m Try.runUnderlying35 Try.sizeOf40 rfl rfl hx1) ?_
  refine go_p rfl rfl rfl (o_load_agg Try.isAgg40 Try.sizeOf40 rfl rfl) ?_
  refine go_op rfl rfl rfl (o_alloc_own Try.zeroValue40 (cs := [.i64 0, .i64 0, .i64 0, .i64 0, .i64 0, .str ([] : List UInt8), .str ([] : List UInt8), .list 3 ApiField.d [], .i64 0]) rfl) ?_
  rintro _ _ ⟨b1, rfl, rfl⟩
  refine go_u rfl rfl (o_store_box 0 Try.sizeOf40 rfl rfl rfl rfl rfl rfl rfl rfl (Nat.le_of_ble_eq_true rfl)) ?_
  rintro _ _ rfl
  refine go_ms (ms' := [box b1 40 [_, _, _, _, _, _, _, _, _], box b_q3 70 [_], _, box b_q4 131 [_]]) rfl ?_
  refine go_nil ?_
  refine g_seq ?_
  obtain ⟨x2, hx2, hm⟩ := bind_some hm
  obtain ⟨x3, hx3, hm⟩ := bind_some hm
  refine g_draw 4 Try_mixed (by decide +kernel) ?_
  refine gd_p rfl rfl rfl (o_load_box 1 Try.isAgg70 rfl rfl rfl rfl) ?_
  refine gd_p rfl rfl rfl (o_move rfl) ?_
  refine gd_p rfl rfl rfl (o_call0 Try.call121 rfl (w_scope_none hx2)) ?_
  refine gd_p rfl rfl rfl (o_indexAddr_arr 2 Try.runUnderlying70 Try.sizeOf78 rfl rfl rfl hx3) ?_
  refine gd_nil ?_
  refine go_u rfl rfl (o_store_arr (off := 0) (z' := (⟨x2.node, x2.branch⟩ : ScopeBinder)) 2 Try.sizeOf78 rfl rfl (idx_some hx3).2 rfl rfl rfl rfl rfl rfl (Nat.le_of_ble_eq_true rfl) rfl rfl) ?_
  rintro _ _ rfl
  refine go_ms (ms' := [box b1 40 [_, _, _, _, _, _, _, _, _], box b_q3 70 [_], _, box b_q4 131 [_]]) rfl ?_
  refine go_nil ?_
  refine g_seq ?_
  refine g_region ?_
  refine go_p rfl rfl rfl (o_fieldAddr_box fi_40_0 rfl) ?_
  refine go_p rfl rfl rfl (o_load_box 0 Try.isAgg3 rfl rfl rfl rfl) ?_
  refine go_nil ?_
  refine g_block ?_
  refine g_seq ?_
  refine g_region ?_
  refine go_p rfl rfl rfl (o_cmp rfl rfl rfl) ?_
  refine go_p rfl rfl rfl (o_assign rfl) ?_
  refine go_nil ?_
  refine g_cond rfl (fun hc1 => ?_) (fun hc1 => ?_)
  · replace hm := cond_t hc1 hm
    obtain ⟨x4, hx4, hm⟩ := bind_some hm
    obtain ⟨x5, hx5, hm⟩ := bind_some hm
    refine g_draw 7 Try_mixed (by decide +kernel) ?_
    refine gd_p rfl rfl rfl (o_load_box 1 Try.isAgg70 rfl rfl rfl rfl) ?_
    refine gd_p rfl rfl rfl (o_move rfl) ?_
    refine gd_p rfl rfl rfl (o_move rfl) ?_
    refine gd_p rfl rfl rfl (o_fieldAddr_box fi_40_5 rfl) ?_
    refine gd_p rfl rfl rfl (o_load_box 0 Try.isAgg9 rfl rfl rfl rfl) ?_
    refine gd_p rfl rfl rfl (o_call0 Try.call122 rfl (w_scope_reach_find hx4)) ?_
    refine gd_p rfl rfl rfl (o_indexAddr_arr 2 Try.runUnderlying70 Try.sizeOf78 rfl rfl rfl hx5) ?_
    refine gd_nil ?_
    refine go_u rfl rfl (o_store_arr (off := 0) (z' := (⟨x4.node, x4.branch⟩ : ScopeBinder)) 2 Try.sizeOf78 rfl rfl (idx_some hx5).2 rfl rfl rfl rfl rfl rfl (Nat.le_of_ble_eq_true rfl) rfl rfl) ?_
    rintro _ _ rfl
    refine go_ms (ms' := [box b1 40 [_, _, _, _, _, _, _, _, _], box b_q3 70 [_], _, box b_q4 131 [_]]) rfl ?_
    refine go_nil ?_
    obtain rfl := some_eq hm
    exact retKn (ret_none rfl (permA 1 rfl (permA 1 rfl (permA 1 rfl permN)))) ⟨rfl, rfl⟩
  · replace hm := cond_f hc1 hm
    refine g_seq ?_
    refine g_region ?_
    refine go_p rfl rfl rfl (o_cmp rfl rfl rfl) ?_
    refine go_p rfl rfl rfl (o_assign rfl) ?_
    refine go_nil ?_
    refine g_cond rfl (fun hc2 => ?_) (fun hc2 => ?_)
    · replace hm := cond_t hc2 hm
      obtain ⟨x6, hx6, hm⟩ := bind_some hm
      refine g_draw 8 Try_mixed (by decide +kernel) ?_
      refine gd_p rfl rfl rfl (o_load_box 3 Try.isAgg131 rfl rfl rfl rfl) ?_
      refine gd_p rfl rfl rfl (o_fieldAddr_box fi_40_1 rfl) ?_
      refine gd_p rfl rfl rfl (o_load_box 0 Try.isAgg3 rfl rfl rfl rfl) ?_
      refine gd_p rfl rfl rfl (o_move rfl) ?_
      refine gd_p rfl rfl rfl (o_fieldAddr_box fi_40_5 rfl) ?_
      refine gd_p rfl rfl rfl (o_load_box 0 Try.isAgg9 rfl rfl rfl rfl) ?_
      refine gd_p rfl rfl rfl (o_move rfl) ?_
      refine gd_p rfl rfl rfl (o_call0 Try.call123 rfl (w_scope_reach_with hx6)) ?_
      refine gd_nil ?_
      obtain ⟨z2, hx7, hm⟩ := bind_some hm
      refine go_op rfl rfl rfl (o_callv_own [1, 2, 3] rfl rfl rfl (getL_c rfl (getL_c rfl (getL_c rfl getL_n))) (fv_clo Try.call120 (hself hx7)) (by rintro _ _ ⟨rfl, rfl⟩; rfl)) ?_
      rintro _ _ ⟨_, ⟨rfl, rfl⟩, rfl⟩
      refine go_ms (ms' := [box b1 40 [_, _, _, _, _, _, _, _, _], box b_q3 70 [_], _, box b_q4 131 [_]]) rfl ?_
      refine go_nil ?_
      obtain rfl := some_eq hm
      exact retKn (ret_none rfl (permA 1 rfl (permA 1 rfl (permA 1 rfl permN)))) ⟨rfl, rfl⟩
    · replace hm := cond_f hc2 hm
      refine g_seq ?_
      refine g_region ?_
      refine go_p rfl rfl rfl (o_cmp rfl rfl rfl) ?_
      refine go_p rfl rfl rfl (o_assign rfl) ?_
      refine go_nil ?_
      refine g_cond rfl (fun hc3 => ?_) (fun hc3 => ?_)
      · replace hm := cond_t hc3 hm
        refine g_seq ?_
        refine g_region ?_
        refine go_p rfl rfl rfl (o_load_box 3 Try.isAgg131 rfl rfl rfl rfl) ?_
        refine go_p rfl rfl rfl (o_fieldAddr_box fi_40_1 rfl) ?_
        refine go_p rfl rfl rfl (o_load_box 0 Try.isAgg3 rfl rfl rfl rfl) ?_
        refine go_p rfl rfl rfl (o_move rfl) ?_
        obtain ⟨z3, hx8, hm⟩ := bind_some hm
        refine go_op rfl rfl rfl (o_callv_own [1, 2, 3] rfl rfl rfl (getL_c rfl (getL_c rfl (getL_c rfl getL_n))) (fv_clo Try.call120 (hself hx8)) (by rintro _ _ ⟨rfl, rfl⟩; rfl)) ?_
        rintro _ _ ⟨_, ⟨rfl, rfl⟩, rfl⟩
        refine go_ms (ms' := [box b1 40 [_, _, _, _, _, _, _, _, _], box b_q3 70 [_], _, box b_q4 131 [_]]) rfl ?_
        refine go_nil ?_
        obtain ⟨x7, hx9, hm⟩ := bind_some hm
        refine g_draw 8 Try_mixed (by decide +kernel) ?_
        refine gd_p rfl rfl rfl (o_load_box 3 Try.isAgg131 rfl rfl rfl rfl) ?_
        refine gd_p rfl rfl rfl (o_fieldAddr_box fi_40_2 rfl) ?_
        refine gd_p rfl rfl rfl (o_load_box 0 Try.isAgg3 rfl rfl rfl rfl) ?_
        refine gd_p rfl rfl rfl (o_move rfl) ?_
        refine gd_p rfl rfl rfl (o_fieldAddr_box fi_40_5 rfl) ?_
        refine gd_p rfl rfl rfl (o_load_box 0 Try.isAgg9 rfl rfl rfl rfl) ?_
        refine gd_p rfl rfl rfl (o_move rfl) ?_
        refine gd_p rfl rfl rfl (o_call0 Try.call123 rfl (w_scope_reach_with hx9)) ?_
        refine gd_nil ?_
        obtain ⟨z4, hx10, hm⟩ := bind_some hm
        refine go_op rfl rfl rfl (o_callv_own [1, 2, 3] rfl rfl rfl (getL_c rfl (getL_c rfl (getL_c rfl getL_n))) (fv_clo Try.call120 (hself hx10)) (by rintro _ _ ⟨rfl, rfl⟩; rfl)) ?_
        rintro _ _ ⟨_, ⟨rfl, rfl⟩, rfl⟩
        refine go_ms (ms' := [box b1 40 [_, _, _, _, _, _, _, _, _], box b_q3 70 [_], _, box b_q4 131 [_]]) rfl ?_
        refine go_nil ?_
        obtain rfl := some_eq hm
        exact retKn (ret_none rfl (permA 1 rfl (permA 1 rfl (permA 1 rfl permN)))) ⟨rfl, rfl⟩
      · replace hm := cond_f hc3 hm
        refine g_seq ?_
        refine g_region ?_
        refine go_p rfl rfl rfl (o_cmp rfl rfl rfl) ?_
        refine go_p rfl rfl rfl (o_assign rfl) ?_
        refine go_nil ?_
        refine g_cond rfl (fun hc4 => ?_) (fun hc4 => ?_)
        · replace hm := cond_t hc4 hm
          refine g_seq ?_
          refine g_region ?_
          refine go_p rfl rfl rfl (o_move rfl) ?_
          refine go_p rfl rfl rfl (o_fieldAddr_box fi_40_5 rfl) ?_
          refine go_p rfl rfl rfl (o_load_box 0 Try.isAgg9 rfl rfl rfl rfl) ?_
          refine go_p rfl rfl rfl (o_move rfl) ?_
          obtain ⟨x8, hx11, hm⟩ := bind_some hm
          refine go_p rfl rfl rfl (o_call0 Try.call123 rfl (w_scope_reach_with hx11)) ?_
          refine go_p rfl rfl rfl (o_assign rfl) ?_
          refine go_nil ?_
          refine g_seq ?_
          refine g_region ?_
          refine go_p rfl rfl rfl (o_load_box 3 Try.isAgg131 rfl rfl rfl rfl) ?_
          refine go_p rfl rfl rfl (o_fieldAddr_box fi_40_1 rfl) ?_
          refine go_p rfl rfl rfl (o_load_box 0 Try.isAgg3 rfl rfl rfl rfl) ?_
          refine go_p rfl rfl rfl (o_move rfl) ?_
          obtain ⟨z5, hx12, hm⟩ := bind_some hm
          refine go_op rfl rfl rfl (o_callv_own [1, 2, 3] rfl rfl rfl (getL_c rfl (getL_c rfl (getL_c rfl getL_n))) (fv_clo Try.call120 (hself hx12)) (by rintro _ _ ⟨rfl, rfl⟩; rfl)) ?_
          rintro _ _ ⟨_, ⟨rfl, rfl⟩, rfl⟩
          refine go_ms (ms' := [box b1 40 [_, _, _, _, _, _, _, _, _], box b_q3 70 [_], _, box b_q4 131 [_]]) rfl ?_
          refine go_nil ?_
          refine g_region ?_
          refine go_p rfl rfl rfl (o_load_box 3 Try.isAgg131 rfl rfl rfl rfl) ?_
          refine go_p rfl rfl rfl (o_fieldAddr_box fi_40_2 rfl) ?_
          refine go_p rfl rfl rfl (o_load_box 0 Try.isAgg3 rfl rfl rfl rfl) ?_
          refine go_p rfl rfl rfl (o_move rfl) ?_
          obtain ⟨z6, hx13, hm⟩ := bind_some hm
          refine go_op rfl rfl rfl (o_callv_own [1, 2, 3] rfl rfl rfl (getL_c rfl (getL_c rfl (getL_c rfl getL_n))) (fv_clo Try.call120 (hself hx13)) (by rintro _ _ ⟨rfl, rfl⟩; rfl)) ?_
          rintro _ _ ⟨_, ⟨rfl, rfl⟩, rfl⟩
          refine go_ms (ms' := [box b1 40 [_, _, _, _, _, _, _, _, _], box b_q3 70 [_], _, box b_q4 131 [_]]) rfl ?_
          refine go_nil ?_
          obtain rfl := some_eq hm
          exact retKn (ret_none rfl (permA 1 rfl (permA 1 rfl (permA 1 rfl permN)))) ⟨rfl, rfl⟩
        · replace hm := cond_f hc4 hm
          refine g_seq ?_
          refine g_region ?_
          refine go_p rfl rfl rfl (o_cmp rfl rfl rfl) ?_
          refine go_p rfl rfl rfl (o_assign rfl) ?_
          refine go_nil ?_
          refine g_cond rfl (fun hc5 => ?_) (fun hc5 => ?_)
          · replace hm := cond_t hc5 hm
            refine g_seq ?_
            refine g_region ?_
            refine go_p rfl rfl rfl (o_load_box 3 Try.isAgg131 rfl rfl rfl rfl) ?_
            refine go_p rfl rfl rfl (o_fieldAddr_box fi_40_1 rfl) ?_
            refine go_p rfl rfl rfl (o_load_box 0 Try.isAgg3 rfl rfl rfl rfl) ?_
            refine go_p rfl rfl rfl (o_move rfl) ?_
            obtain ⟨z7, hx14, hm⟩ := bind_some hm
            refine go_op rfl rfl rfl (o_callv_own [1, 2, 3] rfl rfl rfl (getL_c rfl (getL_c rfl (getL_c rfl getL_n))) (fv_clo Try.call120 (hself hx14)) (by rintro _ _ ⟨rfl, rfl⟩; rfl)) ?_
            rintro _ _ ⟨_, ⟨rfl, rfl⟩, rfl⟩
            refine go_ms (ms' := [box b1 40 [_, _, _, _, _, _, _, _, _], box b_q3 70 [_], _, box b_q4 131 [_]]) rfl ?_
            refine go_nil ?_
            refine g_seq ?_
            refine g_region ?_
            refine go_p rfl rfl rfl (o_fieldAddr_box fi_40_7 rfl) ?_
            refine go_p rfl rfl rfl (o_load_box 0 Try.isAgg38 rfl rfl rfl rfl) ?_
            refine go_p rfl rfl rfl (o_len Try.runUnderlying38 rfl) ?_
            refine go_p rfl rfl rfl (o_move rfl) ?_
            refine go_nil ?_
            refine g_block ?_
            refine g_loop_m [(0, _), (1, _), (4, _), (97, _), (98, _)] [(0, _), (3, _)] (fun (st : (Int × (List ScopeBinder))) (hid : Unit) => match st, hid with | (x9, l1), _ => [(99, .i64 x9)]) (fun F (st : (Int × (List ScopeBinder))) (hid : Unit) => match st, hid with | (x9, l1), _ => [(nthF F 0), box b_q3 70 [.v (.slice a_q3c0 m_q3c0 cap_q3c0)], arr a_q3c0 m_q3c0 cap_q3c0 78 2 ScopeBinder.d l1, (nthF F 1)]) () hm (fun _ => rfl) ⟨rfl, rfl, rfl, rfl, rfl, trivial⟩ ⟨rfl, rfl, trivial⟩ ⟨rfl, trivial⟩ rfl ?_
            rintro n ⟨x9, l1⟩ ⟨⟩ hm
            rw [m_scope_binders_1_l1] at hm
            refine g_norm (L' := [(99, .i64 x9), (0, _), (1, _), (4, _), (97, _), (98, _)]) (ms' := [_, box b_q3 70 [.v (.slice a_q3c0 m_q3c0 cap_q3c0)], arr a_q3c0 m_q3c0 cap_q3c0 78 2 ScopeBinder.d l1, _]) rfl rfl ?_
            refine g_seq ?_
            refine g_region ?_
            refine go_p rfl rfl rfl (o_cmp rfl rfl rfl) ?_
            refine go_nil ?_
            refine g_seq ?_
            refine g_cond rfl (fun hc6 => ?_) (fun hc6 => ?_)
            · replace hm := cond_t hc6 hm
              refine g_skip ?_
              refine g_seq ?_
              refine g_block ?_
              refine g_seq ?_
              refine g_region ?_
              refine go_p rfl rfl rfl (o_move rfl) ?_
              obtain ⟨x10, hx15, hm⟩ := bind_some hm
              refine go_p rfl rfl rfl (o_indexAddr_m Try.runUnderlying38 Try.sizeOf102 rfl rfl hx15) ?_
              refine go_p rfl rfl rfl (o_load_agg Try.isAgg102 Try.sizeOf102 rfl rfl) ?_
              refine go_op rfl rfl rfl (o_alloc_own Try.zeroValue102 (cs := [.str ([] : List UInt8), .str ([] : List UInt8), .i64 0]) rfl) ?_
              rintro _ _ ⟨b2, rfl, rfl⟩
              refine go_p rfl rfl rfl (o_assign rfl) ?_
              refine go_u rfl rfl (o_store_box 0 Try.sizeOf102 rfl rfl rfl rfl rfl rfl rfl rfl (Nat.le_of_ble_eq_true rfl)) ?_
              rintro _ _ rfl
              refine go_ms (ms' := [box b2 102 [_, _, _], box b1 40 [_, _, _, _, _, _, _, _, _], box b_q3 70 [_], _, box b_q4 131 [_]]) rfl ?_
              refine go_nil ?_
              obtain ⟨x11, hx16, hm⟩ := bind_some hm
              refine g_draw 9 Try_mixed (by decide +kernel) ?_
              refine gd_p rfl rfl rfl (o_load_box 4 Try.isAgg131 rfl rfl rfl rfl) ?_
              refine gd_p rfl rfl rfl (o_fieldAddr_box fi_102_2 rfl) ?_
              refine gd_p rfl rfl rfl (o_load_box 0 Try.isAgg3 rfl rfl rfl rfl) ?_
              refine gd_p rfl rfl rfl (o_move rfl) ?_
              refine gd_p rfl rfl rfl (o_fieldAddr_box fi_102_1 rfl) ?_
              refine gd_p rfl rfl rfl (o_load_box 0 Try.isAgg9 rfl rfl rfl rfl) ?_
              refine gd_p rfl rfl rfl (o_move rfl) ?_
              refine gd_p rfl rfl rfl (o_move rfl) ?_
              refine gd_p rfl rfl rfl (o_call0 Try.call123 rfl (w_scope_reach_with hx16)) ?_
              refine gd_nil ?_
              obtain ⟨z8, hx17, hm⟩ := bind_some hm
              refine go_op rfl rfl rfl (o_callv_own [2, 3, 4] rfl rfl rfl (getL_c rfl (getL_c rfl (getL_c rfl getL_n))) (fv_clo Try.call120 (hself hx17)) (by rintro _ _ ⟨rfl, rfl⟩; rfl)) ?_
              rintro _ _ ⟨_, ⟨rfl, rfl⟩, rfl⟩
              refine go_ms (ms' := [box b2 102 [_, _, _], box b1 40 [_, _, _, _, _, _, _, _, _], box b_q3 70 [_], _, box b_q4 131 [_]]) rfl ?_
              refine go_nil ?_
              refine g_region ?_
              obtain ⟨hg18, hm⟩ := grd_some hm
              refine go_p rfl rfl rfl (o_add rfl rfl (i64_id hg18)) ?_
              refine go_p rfl rfl rfl (o_move rfl) ?_
              refine go_nil ?_
              exact ⟨_, (), hm, ⟨rfl, trivial⟩, ⟨rfl, rfl, rfl, rfl, rfl, trivial⟩, [_], rfl⟩
            · replace hm := cond_f hc6 hm
              refine g_exit ?_
              obtain rfl := some_eq hm
              exact retKn (ret_none rfl (permA 1 rfl (permA 1 rfl (permA 1 rfl permN)))) ⟨rfl, rfl⟩
          · replace hm := cond_f hc5 hm
            refine g_seq ?_
            refine g_region ?_
            refine go_p rfl rfl rfl (o_load_box_agg 0 Try.isAgg40 Try.sizeOf40 rfl rfl rfl rfl (Nat.le_of_ble_eq_true rfl)) ?_
            obtain ⟨x12, hx19, hm⟩ := bind_some hm
            refine go_p rfl rfl rfl (o_call0 Try.call31 rfl (w_tree_Kids hx19)) ?_
            refine go_p rfl rfl rfl (o_len Try.runUnderlying46 rfl) ?_
            refine go_p rfl rfl rfl (o_move rfl) ?_
            refine go_nil ?_
            refine g_block ?_
            refine g_loop_m [(1, _), (4, _), (25, _), (26, _)] [(0, _), (3, _)] (fun (st : (Int × (List ScopeBinder))) (hid : Unit) => match st, hid with | (x13, l2), _ => [(27, .i64 x13)]) (fun F (st : (Int × (List ScopeBinder))) (hid : Unit) => match st, hid with | (x13, l2), _ => [(nthF F 0), box b_q3 70 [.v (.slice a_q3c0 m_q3c0 cap_q3c0)], arr a_q3c0 m_q3c0 cap_q3c0 78 2 ScopeBinder.d l2, (nthF F 1)]) () hm (fun _ => rfl) ⟨rfl, rfl, rfl, rfl, trivial⟩ ⟨rfl, rfl, trivial⟩ ⟨rfl, trivial⟩ rfl ?_
            rintro n ⟨x13, l2⟩ ⟨⟩ hm
            rw [m_scope_binders_1_l2] at hm
            refine g_norm (L' := [(27, .i64 x13), (1, _), (4, _), (25, _), (26, _)]) (ms' := [_, box b_q3 70 [.v (.slice a_q3c0 m_q3c0 cap_q3c0)], arr a_q3c0 m_q3c0 cap_q3c0 78 2 ScopeBinder.d l2, _]) rfl rfl ?_
            refine g_seq ?_
            refine g_region ?_
            refine go_p rfl rfl rfl (o_cmp rfl rfl rfl) ?_
            refine go_nil ?_
            refine g_seq ?_
            refine g_cond rfl (fun hc7 => ?_) (fun hc7 => ?_)
            · replace hm := cond_t hc7 hm
              refine g_skip ?_
              refine g_seq ?_
              refine g_block ?_
              refine g_seq ?_
              refine g_region ?_
              obtain ⟨x14, hx20, hm⟩ := bind_some hm
              refine go_p rfl rfl rfl (o_indexAddr_m Try.runUnderlying46 Try.sizeOf3 rfl rfl hx20) ?_
              refine go_p rfl rfl rfl (o_load Try.isAgg3 rfl rfl) ?_
              refine go_p rfl rfl rfl (o_assign rfl) ?_
              refine go_nil ?_
              refine g_region ?_
              refine go_p rfl rfl rfl (o_load_box 3 Try.isAgg131 rfl rfl rfl rfl) ?_
              refine go_p rfl rfl rfl (o_move rfl) ?_
              refine go_p rfl rfl rfl (o_move rfl) ?_
              obtain ⟨z9, hx21, hm⟩ := bind_some hm
              refine go_op rfl rfl rfl (o_callv_own [1, 2, 3] rfl rfl rfl (getL_c rfl (getL_c rfl (getL_c rfl getL_n))) (fv_clo Try.call120 (hself hx21)) (by rintro _ _ ⟨rfl, rfl⟩; rfl)) ?_
              rintro _ _ ⟨_, ⟨rfl, rfl⟩, rfl⟩
              refine go_ms (ms' := [box b1 40 [_, _, _, _, _, _, _, _, _], box b_q3 70 [_], _, box b_q4 131 [_]]) rfl ?_
              refine go_nil ?_
              refine g_region ?_
              obtain ⟨hg22, hm⟩ := grd_some hm
              refine go_p rfl rfl rfl (o_add rfl rfl (i64_id hg22)) ?_
              refine go_p rfl rfl rfl (o_move rfl) ?_
              refine go_nil ?_
              exact ⟨_, (), hm, ⟨rfl, trivial⟩, ⟨rfl, rfl, rfl, rfl, trivial⟩, [], rfl⟩
            · replace hm := cond_f hc7 hm
              refine g_exit ?_
              obtain rfl := some_eq hm
              exact retKn (ret_none rfl (permA 1 rfl (permA 1 rfl (permA 1 rfl permN)))) ⟨rfl, rfl⟩
theorem wn_scope_binders_1 {c1 : ApiExpr} : ∀ (n : Nat) {i1 : Int} {r1 : (List ScopeKnown)} {z1 : (List ScopeBinder)} {s_1 : (List ScopeBinder)} {b_q3 : Nat} {a_q3c0 : Option Addr} {m_q3c0 : Nat} {cap_q3c0 : Nat} {b_q4 : Nat}, m_scope_binders_1 c1 n i1 r1 z1 = some s_1 → Go.V.Fn Try.prog 120 [.i64 i1, .list 3 ScopeKnown.d r1, .ref (ApiExpr.d c1), .v (.pointer (some ⟨b_q3, 0, none⟩)), .v (.pointer (some ⟨b_q4, 0, none⟩))] [box b_q3 70 [.v (.slice a_q3c0 m_q3c0 cap_q3c0)], arr a_q3c0 m_q3c0 cap_q3c0 78 2 ScopeBinder.d z1, box b_q4 131 [.clo (.func 120) [] [.ref (ApiExpr.d c1), .v (.pointer (some ⟨b_q3, 0, none⟩)), .v (.pointer (some ⟨b_q4, 0, none⟩))]]] (fun d ms' => d = .tup [] ∧ ms' = [box b_q3 70 [.v (.slice a_q3c0 m_q3c0 cap_q3c0)], arr a_q3c0 m_q3c0 cap_q3c0 78 2 ScopeBinder.d s_1, box b_q4 131 [.clo (.func 120) [] [.ref (ApiExpr.d c1), .v (.pointer (some ⟨b_q3, 0, none⟩)), .v (.pointer (some ⟨b_q4, 0, none⟩))]]])
  | 0 => by intros; rename_i h; cases h
  | n + 1 => by intros; rename_i h; exact wF_scope_binders_1 (m_scope_binders_1 c1 n) (fun h => wn_scope_binders_1 n h) h
theorem w_scope_binders_1 {c1 : ApiExpr} {i1 : Int} {r1 : (List ScopeKnown)} {z1 : (List ScopeBinder)} {s_1 : (List ScopeBinder)} {b_q3 : Nat} {a_q3c0 : Option Addr} {m_q3c0 : Nat} {cap_q3c0 : Nat} {b_q4 : Nat} (hm : m_scope_binders_1 c1 FU i1 r1 z1 = some s_1) : Go.V.Fn Try.prog 120 [.i64 i1, .list 3 ScopeKnown.d r1, .ref (ApiExpr.d c1), .v (.pointer (some ⟨b_q3, 0, none⟩)), .v (.pointer (some ⟨b_q4, 0, none⟩))] [box b_q3 70 [.v (.slice a_q3c0 m_q3c0 cap_q3c0)], arr a_q3c0 m_q3c0 cap_q3c0 78 2 ScopeBinder.d z1, box b_q4 131 [.clo (.func 120) [] [.ref (ApiExpr.d c1), .v (.pointer (some ⟨b_q3, 0, none⟩)), .v (.pointer (some ⟨b_q4, 0, none⟩))]]] (fun d ms' => d = .tup [] ∧ ms' = [box b_q3 70 [.v (.slice a_q3c0 m_q3c0 cap_q3c0)], arr a_q3c0 m_q3c0 cap_q3c0 78 2 ScopeBinder.d s_1, box b_q4 131 [.clo (.func 120) [] [.ref (ApiExpr.d c1), .v (.pointer (some ⟨b_q3, 0, none⟩)), .v (.pointer (some ⟨b_q4, 0, none⟩))]]]) := wn_scope_binders_1 FU hm
def m_scope_binders (e1 : ApiExpr) : Option (List ScopeBinder) :=
  grd (0 ≤ (e1.l.length : Int)) <|
  grd (((e1.l.length : Int)).toNat * 16 ≤ 140737488355328) <|
  grd (InR ((e1.l.length : Int) - 1)) <|
  (m_scope_binders_1 e1 FU ((e1.l.length : Int) - 1) [] (List.replicate ((e1.l.length : Int)).toNat ((⟨0, 0⟩ : ScopeBinder) : ScopeBinder))).bind fun z1 =>
  some z1
theorem w_scope_binders {e1 : ApiExpr} {r_1 : (List ScopeBinder)} (hm : m_scope_binders e1 = some r_1) : Fn0 Try.prog 86 [ApiExpr.d e1] (.list 2 ScopeBinder.d r_1) := by
  unfold m_scope_binders at hm
  refine fn_intro Try.func86 rfl Try.ntmps86 rfl fun H0 fr w0 => ?_
  refine g_seq ?_
  refine g_region ?_
  refine go_p rfl rfl rfl (o_box rfl rfl) ?_
  refine go_p rfl rfl rfl (o_assign rfl) ?_
  refine go_conv (nilE (i := 2) (sz := 2) (f := ScopeBinder.d) rfl).refines ?_
  refine go_nil ?_
  refine g_seq ?_
  refine g_region ?_
  refine go_p rfl rfl rfl (o_fieldAddr fi_37_0 rfl rfl rfl) ?_
  refine go_p rfl rfl rfl (o_load Try.isAgg35 rfl rfl) ?_
  refine go_p rfl rfl rfl (o_len Try.runUnderlying35 rfl) ?_
  obtain ⟨hg1, hm⟩ := grd_some hm
  obtain ⟨hg2, hm⟩ := grd_some hm
  refine go_op rfl rfl rfl (o_makeSlice (f := ScopeBinder.d) (z0 := (⟨0, 0⟩ : ScopeBinder)) Try.underlying70 Try.type78 rfl rfl rfl (Nat.le_of_ble_eq_true rfl) rfl rfl hg1 hg2 (Nat.le_of_ble_eq_true rfl)) ?_
  rintro _ _ ⟨a_r1, m_r1, cap_r1, rfl, rfl⟩
  refine go_op rfl rfl rfl (o_alloc_own Try.zeroValue70 (cs := [.list 2 ScopeBinder.d []]) rfl) ?_
  rintro _ _ ⟨b1, rfl, rfl⟩
  refine go_u rfl rfl (o_store_box 0 Try.sizeOf70 rfl rfl rfl rfl rfl rfl rfl rfl (Nat.le_of_ble_eq_true rfl)) ?_
  rintro _ _ rfl
  refine go_ms (ms' := [box b1 70 [_], _]) rfl ?_
  refine go_nil ?_
  refine g_seq ?_
  refine g_region ?_
  refine go_op rfl rfl rfl (o_alloc_own Try.zeroValue131 (cs := [.v .nilFunc]) rfl) ?_
  rintro _ _ ⟨b2, rfl, rfl⟩
  refine go_nil ?_
  refine g_seq ?_
  refine g_region ?_
  refine go_p rfl rfl rfl (o_makeFunc rfl rfl) ?_
  refine go_u rfl rfl (o_store_box 0 Try.sizeOf131 rfl rfl rfl rfl rfl rfl rfl rfl (Nat.le_of_ble_eq_true rfl)) ?_
  rintro _ _ rfl
  refine go_ms (ms' := [box b2 131 [_], box b1 70 [_], _]) rfl ?_
  refine go_nil ?_
  refine g_seq ?_
  refine g_region ?_
  refine go_p rfl rfl rfl (o_load_box 0 Try.isAgg131 rfl rfl rfl rfl) ?_
  refine go_p rfl rfl rfl (o_fieldAddr fi_37_0 rfl rfl rfl) ?_
  refine go_p rfl rfl rfl (o_load Try.isAgg35 rfl rfl) ?_
  refine go_p rfl rfl rfl (o_len Try.runUnderlying35 rfl) ?_
  obtain ⟨hg3, hm⟩ := grd_some hm
  refine go_p rfl rfl rfl (o_sub rfl rfl (i64_id hg3)) ?_
  obtain ⟨z1, hx4, hm⟩ := bind_some hm
  refine go_op rfl rfl rfl (o_callv_own [1, 2, 0] rfl rfl rfl (getL_c rfl (getL_c rfl (getL_c rfl getL_n))) (fv_clo Try.call120 (Fn.ent (w_scope_binders_1 hx4) ⟨ent_rfl, ⟨ent_nil, ⟨ent_rfl, ⟨ent_rfl, ⟨ent_rfl, trivial⟩⟩⟩⟩⟩)) (by rintro _ _ ⟨rfl, rfl⟩; rfl)) ?_
  rintro _ _ ⟨_, ⟨rfl, rfl⟩, rfl⟩
  refine go_ms (ms' := [box b2 131 [_], box b1 70 [_], _]) rfl ?_
  refine go_nil ?_
  refine g_seq ?_
  refine g_region ?_
  refine go_p rfl rfl rfl (o_load_box 1 Try.isAgg70 rfl rfl rfl rfl) ?_
  refine go_p rfl rfl rfl (o_assign rfl) ?_
  refine go_nil ?_
  refine g_thaw 2 rfl rfl ?_
  rintro rfl
  refine g_conv (peekE (i := 2) 2 rfl rfl rfl).refines ?_
  refine g_ret ?_
  exact retK (ret_one' rfl (ret_tmp rfl) (perm_drop _)) (congrArg (fun (p : (List ScopeBinder)) => (.list 2 ScopeBinder.d p : D)) (some_eq hm))
theorem fi_78_0 : FieldIs Try.prog 78 0 0 1 false := ⟨⟨_, _, Try.runUnderlying78, rfl, rfl, Try.sizeOf3, by decide, Try.isAgg3⟩⟩
def m_free_l1 (c1 : ApiExpr) (x1 : (List ScopeBinder)) : Nat → Int → Option (List Int)
  | 0, _ => none
  | n + 1, x2 =>
    bif (decide (x2 < (x1.length : Int))) then
      (idx x1 x2).bind fun x3 =>
      (idx c1.l x2).bind fun x4 =>
      bif ((decide (x4.kind = 4)) && (decide (x3.node < 0))) then ((grd (InR (x2 + 1)) <|
      m_free_l1 c1 x1 n (x2 + 1)).bind fun ys => some (x2 :: ys)) else (grd (InR (x2 + 1)) <|
      m_free_l1 c1 x1 n (x2 + 1))
    else
      some []
def m_free (c1 : ApiExpr) : Option (List Int) :=
  (m_scope_binders c1).bind fun x1 =>
  m_free_l1 c1 x1 FU 0
theorem it_free {c1 : ApiExpr} {xs : (List Int)} (hm : m_free c1 = some xs) : Iter Try.prog 118 [.ref (ApiExpr.d c1)] (xs.map fun (p : Int) => [.i64 p]) := by
  intro y hys J Jx hy tl_0 hJ_0
  have hk_0 : 0 ≤ xs.length := Nat.zero_le _
  replace hm : _ = some (xs.drop 0) := hm
  unfold m_free at hm
  refine fn_intro Try.func118 rfl Try.ntmps118 rfl fun H0 fr w0 => ?_
  refine g_seq ?_
  refine g_region ?_
  refine go_p rfl rfl rfl (o_load_agg Try.isAgg37 Try.sizeOf37 rfl rfl) ?_
  obtain ⟨x1, hx1, hm⟩ := bind_some hm
  refine go_p rfl rfl rfl (o_call0 Try.call86 rfl (w_scope_binders hx1)) ?_
  refine go_p rfl rfl rfl (o_len Try.runUnderlying70 rfl) ?_
  refine go_p rfl rfl rfl (o_move rfl) ?_
  refine go_nil ?_
  refine g_block ?_
  refine g_loop_y (fun (hid : {p : Nat × List Asrt // p.1 ≤ xs.length ∧ J p.1 p.2}) => xs.drop hid.1.1) [(0, _), (1, _), (6, _), (7, _)] [] (fun (st : Int) (hid : {p : Nat × List Asrt // p.1 ≤ xs.length ∧ J p.1 p.2}) => match st, hid with | x2, ⟨(k_3, tl_3), hk_3, hJ_3⟩ => [(8, .i64 x2)]) (fun F (st : Int) (hid : {p : Nat × List Asrt // p.1 ≤ xs.length ∧ J p.1 p.2}) => match st, hid with | x2, ⟨(k_3, tl_3), hk_3, hJ_3⟩ => [] ++ tl_3) ⟨(0, tl_0), hk_0, hJ_0⟩ hm rfl (fun _ => rfl) ⟨rfl, rfl, rfl, rfl, trivial⟩ trivial ⟨rfl, trivial⟩ rfl ?_
  rintro n x2 ⟨⟨k_3, tl_3⟩, hk_3, hJ_3⟩ hm
  replace hm : _ = some (xs.drop k_3) := hm
  rw [m_free_l1] at hm
  refine g_norm (L' := [(8, .i64 x2), (0, _), (1, _), (6, _), (7, _)]) (ms' := [] ++ tl_3) rfl rfl ?_
  refine g_seq ?_
  refine g_region ?_
  refine go_p rfl rfl rfl (o_cmp rfl rfl rfl) ?_
  refine go_nil ?_
  refine g_seq ?_
  refine g_cond rfl (fun hc1 => ?_) (fun hc1 => ?_)
  · replace hm := cond_t hc1 hm
    refine g_skip ?_
    refine g_seq ?_
    refine g_block ?_
    refine g_seq ?_
    refine g_region ?_
    refine go_p rfl rfl rfl (o_move rfl) ?_
    obtain ⟨x3, hx2, hm⟩ := bind_some hm
    refine go_p rfl rfl rfl (o_indexAddr_m Try.runUnderlying70 Try.sizeOf78 rfl rfl hx2) ?_
    refine go_p rfl rfl rfl (o_load_agg Try.isAgg78 Try.sizeOf78 rfl rfl) ?_
    refine go_op rfl rfl rfl (o_alloc_own Try.zeroValue78 (cs := [.i64 0, .i64 0]) rfl) ?_
    rintro _ _ ⟨b1, rfl, rfl⟩
    refine go_p rfl rfl rfl (o_assign rfl) ?_
    refine go_u rfl rfl (o_store_box 0 Try.sizeOf78 rfl rfl rfl rfl rfl rfl rfl rfl (Nat.le_of_ble_eq_true rfl)) ?_
    rintro _ _ rfl
    refine go_ms (ms' := [box b1 78 [_, _]] ++ tl_3) rfl ?_
    refine go_nil ?_
    refine g_seq ?_
    refine g_region ?_
    refine go_p rfl rfl rfl (o_fieldAddr fi_37_0 rfl rfl rfl) ?_
    refine go_p rfl rfl rfl (o_load Try.isAgg35 rfl rfl) ?_
    refine go_p rfl rfl rfl (o_move rfl) ?_
    obtain ⟨x4, hx3, hm⟩ := bind_some hm
    refine go_p rfl rfl rfl (o_indexAddr_m Try.runUnderlying35 Try.sizeOf40 rfl rfl hx3) ?_
    refine go_p rfl rfl rfl (o_fieldAddr fi_40_0 rfl rfl rfl) ?_
    refine go_p rfl rfl rfl (o_load Try.isAgg3 rfl rfl) ?_
    refine go_p rfl rfl rfl (o_cmp rfl rfl rfl) ?_
    refine go_p rfl rfl rfl (o_move rfl) ?_
    apply go_and [(0, _), (1, _), (3, _), (6, _), (7, _), (8, _)] 4 24 (t := 20) ⟨rfl, rfl, rfl, rfl, rfl, rfl, trivial⟩ rfl
    · intro hg_1 hk1
      refine go_wantp rfl rfl rfl hg_1 rfl rfl (o_fieldAddr_box fi_78_0 rfl) ?_
      refine go_wantp rfl rfl rfl hg_1 rfl rfl (o_load_box 0 Try.isAgg3 rfl rfl rfl rfl) ?_
      refine go_wantp rfl rfl rfl hg_1 rfl rfl (o_cmp rfl rfl rfl) ?_
      refine go_p rfl rfl rfl (o_pickT rfl hg_1 rfl) ?_
      exact go_meet hk1 (rfl) ⟨rfl, rfl, rfl, rfl, rfl, rfl, trivial⟩
    · intro hg_1 hk1
      refine go_skip rfl rfl rfl hg_1 rfl rfl ?_
      refine go_skip rfl rfl rfl hg_1 rfl rfl ?_
      refine go_skip rfl rfl rfl hg_1 rfl rfl ?_
      refine go_p rfl rfl rfl (o_pickF rfl hg_1 rfl) ?_
      exact go_meet hk1 (rfl) ⟨rfl, rfl, rfl, rfl, rfl, rfl, trivial⟩
    refine go_p rfl rfl rfl (o_move rfl) ?_
    rcases cond_split hm with ⟨hg_2, hm⟩ | ⟨hg_2, hm⟩
    · skip
      refine go_wantp rfl rfl rfl hg_2 rfl rfl (o_move rfl) ?_
      refine go_wantp rfl rfl rfl hg_2 rfl rfl (o_move rfl) ?_
      obtain ⟨ys_5, hm, he_5⟩ := bind_some hm
      obtain ⟨hy_5, hk_5, rfl⟩ := yield_at he_5
      refine go_want rfl rfl rfl hg_2 rfl rfl (o_yield [_] tl_3 rfl rfl (hy k_3 _ tl_3 (map_at hy_5) hJ_3)) ?_
      rintro _ _ ⟨_ | _, tl_5, rfl, rfl, hJ_5, hs_5⟩
      · skip
        refine go_wantp rfl rfl rfl hg_2 rfl rfl (o_not rfl) ?_
        refine go_p rfl rfl rfl (o_pickT rfl hg_2 rfl) ?_
        refine go_nil ?_
        refine g_cond_true rfl rfl ?_
        refine g_ret ?_
        exact retK (ret_none (ms' := tl_5) (drop := [_]) rfl (List.Perm.refl _)) (.inr (hs_5 rfl))
      · skip
        refine go_wantp rfl rfl rfl hg_2 rfl rfl (o_not rfl) ?_
        refine go_p rfl rfl rfl (o_pickT rfl hg_2 rfl) ?_
        refine go_nil ?_
        refine g_cond_false rfl rfl ?_
        refine g_skip ?_
        refine g_region ?_
        obtain ⟨hg4, hm⟩ := grd_some hm
        refine go_p rfl rfl rfl (o_add rfl rfl (i64_id hg4)) ?_
        refine go_p rfl rfl rfl (o_move rfl) ?_
        refine go_nil ?_
        exact ⟨_, ⟨((k_3 + 1), tl_5), hk_5, (hJ_5 rfl)⟩, hm, ⟨rfl, trivial⟩, ⟨rfl, rfl, rfl, rfl, trivial⟩, [_], rfl⟩
    · skip
      refine go_skip rfl rfl rfl hg_2 rfl rfl ?_
      refine go_skip rfl rfl rfl hg_2 rfl rfl ?_
      refine go_skip rfl rfl rfl hg_2 rfl rfl ?_
      refine go_skip rfl rfl rfl hg_2 rfl rfl ?_
      refine go_p rfl rfl rfl (o_pickF rfl hg_2 rfl) ?_
      refine go_nil ?_
      refine g_cond_false rfl rfl ?_
      refine g_skip ?_
      refine g_region ?_
      obtain ⟨hg5, hm⟩ := grd_some hm
      refine go_p rfl rfl rfl (o_add rfl rfl (i64_id hg5)) ?_
      refine go_p rfl rfl rfl (o_move rfl) ?_
      refine go_nil ?_
      exact ⟨_, ⟨(k_3, tl_3), hk_3, hJ_3⟩, hm, ⟨rfl, trivial⟩, ⟨rfl, rfl, rfl, rfl, trivial⟩, [_], rfl⟩
  · replace hm := cond_f hc1 hm
    refine g_exit ?_
    exact retKn (ret_none (ms' := tl_3) (drop := []) rfl (List.Perm.refl _)) (.inl (yield_end hm hk_3 hJ_3 _))
theorem w_free {p0 : ApiExpr} :
    Fn0 Try.prog 84 [ApiExpr.d p0] (.clo (.func 118) [] [.ref (ApiExpr.d p0)]) := by
  refine fn_intro Try.func84 rfl Try.ntmps84 rfl fun H0 fr w0 => ?_
  refine g_seq ?_
  refine g_region ?_
  refine go_p rfl rfl rfl (o_box rfl rfl) ?_
  refine go_p rfl rfl rfl (o_assign rfl) ?_
  refine go_nil ?_
  refine g_seq ?_
  refine g_region ?_
  refine go_p rfl rfl rfl (o_makeFunc rfl rfl) ?_
  refine go_p rfl rfl rfl (o_assign rfl) ?_
  refine go_nil ?_
  refine g_ret ?_
  exact retK (ret_one' rfl (ret_tmp rfl) (perm_drop _)) (by rfl) -- ret1 
def m_below_walk_l1 (self : Int → Option (List Int)) (i1 : Int) (x2 : (List Int)) : Nat → Int → Option (List Int)
  | 0, _ => none
  | n + 1, x3 =>
    bif (decide (x3 < (x2.length : Int))) then
      (idx x2 x3).bind fun x4 =>
      (self x4).bind fun yz =>
      (grd (InR (x3 + 1)) <|
      m_below_walk_l1 self i1 x2 n (x3 + 1)).bind fun ys => some (yz ++ ys)
    else
      (some []).bind fun ys => some (i1 :: ys)
def m_below_walkF (self : Int → Option (List Int)) (i1 : Int) (c1 : ApiExpr) : Option (List Int) :=
  (idx c1.l i1).bind fun x1 =>
  (m_tree_Kids x1).bind fun x2 =>
  m_below_walk_l1 self i1 x2 FU 0
def m_below_walk (c1 : ApiExpr) : Nat → Int → Option (List Int)
  | 0 => fun _ => none
  | n + 1 => fun i1 => m_below_walkF (m_below_walk c1 n) i1 c1
theorem wF_below_walk {c1 : ApiExpr} (self : Int → Option (List Int)) (hself : ∀ {i1 : Int} {ys_0 : List Int}, self i1 = some ys_0 → ∀ (y : D), (y.storable = true ∧ y.isAgg = false) → ∀ (J : Nat → List Asrt → Prop) (Jx : List Asrt → Prop) (xs : List Int), (∀ k ds ms, (xs.map (fun (p : Int) => [.i64 p]))[k]? = some ds → J k ms → FV Try.prog y ds ms (fun r ms' => (r = .bool true ∧ J (k + 1) ms') ∨ (r = .bool false ∧ Jx ms'))) → ∀ (rest : List Int) (k_0 : Nat) (tl_0 : List Asrt) (bw : Nat), ys_0 ++ rest = xs.drop k_0 → k_0 ≤ xs.length → J k_0 tl_0 → Go.V.Fn Try.prog 148 [.i64 i1, .ref (ApiExpr.d c1), .v (.pointer (some ⟨bw, 0, none⟩)), .ref y] (box bw 96 [.clo (.func 148) [] [.ref (ApiExpr.d c1), .v (.pointer (some ⟨bw, 0, none⟩)), .ref y]] :: tl_0) (fun d ms' => ∃ b tl', d = .bool b ∧ ms' = box bw 96 [.clo (.func 148) [] [.ref (ApiExpr.d c1), .v (.pointer (some ⟨bw, 0, none⟩)), .ref y]] :: tl' ∧ (b = true → J (k_0 + ys_0.length) tl') ∧ (b = false → Jx tl'))) {i1 : Int} {ys_0 : List Int} (hm : m_below_walkF self i1 c1 = some ys_0) : ∀ (y : D), (y.storable = true ∧ y.isAgg = false) → ∀ (J : Nat → List Asrt → Prop) (Jx : List Asrt → Prop) (xs : List Int), (∀ k ds ms, (xs.map (fun (p : Int) => [.i64 p]))[k]? = some ds → J k ms → FV Try.prog y ds ms (fun r ms' => (r = .bool true ∧ J (k + 1) ms') ∨ (r = .bool false ∧ Jx ms'))) → ∀ (rest : List Int) (k_0 : Nat) (tl_0 : List Asrt) (bw : Nat), ys_0 ++ rest = xs.drop k_0 → k_0 ≤ xs.length → J k_0 tl_0 → Go.V.Fn Try.prog 148 [.i64 i1, .ref (ApiExpr.d c1), .v (.pointer (some ⟨bw, 0, none⟩)), .ref y] (box bw 96 [.clo (.func 148) [] [.ref (ApiExpr.d c1), .v (.pointer (some ⟨bw, 0, none⟩)), .ref y]] :: tl_0) (fun d ms' => ∃ b tl', d = .bool b ∧ ms' = box bw 96 [.clo (.func 148) [] [.ref (ApiExpr.d c1), .v (.pointer (some ⟨bw, 0, none⟩)), .ref y]] :: tl' ∧ (b = true → J (k_0 + ys_0.length) tl') ∧ (b = false → Jx tl')) := by
  intro y hys J Jx xs hy rest k_0 tl_0 bw he_0 hk_0 hJ_0
  unfold m_below_walkF at hm
  refine fn_intro Try.func148 rfl Try.ntmps148 rfl fun H0 fr w0 => ?_
  refine g_norm (ms' := [box bw 96 [_]] ++ tl_0) rfl rfl ?_
  refine g_seq ?_
  refine g_region ?_
  refine go_p rfl rfl rfl (o_assign rfl) ?_
  refine go_nil ?_
  refine g_seq ?_
  refine g_seq ?_
  refine g_region ?_
  refine go_p rfl rfl rfl (o_fieldAddr fi_37_0 rfl rfl rfl) ?_
  refine go_p rfl rfl rfl (o_load Try.isAgg35 rfl rfl) ?_
  refine go_p rfl rfl rfl (o_move rfl) ?_
  obtain ⟨x1, hx1, hm⟩ := bind_some hm
  refine go_p rfl rfl rfl (o_indexAddr_m Try.runUnderlying35 Try.sizeOf40 rfl rfl hx1) ?_
  refine go_p rfl rfl rfl (o_load_agg Try.isAgg40 Try.sizeOf40 rfl rfl) ?_
  obtain ⟨x2, hx2, hm⟩ := bind_some hm
  refine go_p rfl rfl rfl (o_call0 Try.call31 rfl (w_tree_Kids hx2)) ?_
  refine go_p rfl rfl rfl (o_len Try.runUnderlying46 rfl) ?_
  refine go_p rfl rfl rfl (o_move rfl) ?_
  refine go_nil ?_
  refine g_block ?_
  refine g_loop_y (fun (hid : {p : Nat × List Asrt × List Int // p.1 ≤ xs.length ∧ J p.1 p.2.1 ∧ p.2.2 ++ rest = xs.drop p.1}) => hid.1.2.2) [(0, _), (2, _), (3, _), (13, _), (14, _)] [(0, _)] (fun (st : Int) (hid : {p : Nat × List Asrt × List Int // p.1 ≤ xs.length ∧ J p.1 p.2.1 ∧ p.2.2 ++ rest = xs.drop p.1}) => match st, hid with | x3, ⟨(k_3, tl_3, ys_3), hk_3, hJ_3, he_3⟩ => [(15, .i64 x3)]) (fun F (st : Int) (hid : {p : Nat × List Asrt × List Int // p.1 ≤ xs.length ∧ J p.1 p.2.1 ∧ p.2.2 ++ rest = xs.drop p.1}) => match st, hid with | x3, ⟨(k_3, tl_3, ys_3), hk_3, hJ_3, he_3⟩ => [(nthF F 0)] ++ tl_3) ⟨(k_0, tl_0, ys_0), hk_0, hJ_0, he_0⟩ hm rfl (fun _ => rfl) ⟨rfl, rfl, rfl, rfl, rfl, trivial⟩ ⟨rfl, trivial⟩ ⟨rfl, trivial⟩ rfl ?_
  rintro n x3 ⟨⟨k_3, tl_3, ys_3⟩, hk_3, hJ_3, he_3⟩ hm
  replace hm : _ = some ys_3 := hm
  rw [m_below_walk_l1] at hm
  refine g_norm (L' := [(15, .i64 x3), (0, _), (2, _), (3, _), (13, _), (14, _)]) (ms' := [_] ++ tl_3) rfl rfl ?_
  refine g_seq ?_
  refine g_region ?_
  refine go_p rfl rfl rfl (o_cmp rfl rfl rfl) ?_
  refine go_nil ?_
  refine g_seq ?_
  refine g_cond rfl (fun hc1 => ?_) (fun hc1 => ?_)
  · replace hm := cond_t hc1 hm
    refine g_skip ?_
    refine g_seq ?_
    refine g_block ?_
    refine g_seq ?_
    refine g_region ?_
    obtain ⟨x4, hx3, hm⟩ := bind_some hm
    refine go_p rfl rfl rfl (o_indexAddr_m Try.runUnderlying46 Try.sizeOf3 rfl rfl hx3) ?_
    refine go_p rfl rfl rfl (o_load Try.isAgg3 rfl rfl) ?_
    refine go_p rfl rfl rfl (o_assign rfl) ?_
    refine go_nil ?_
    refine g_seq ?_
    refine g_region ?_
    refine go_p rfl rfl rfl (o_load_box 0 Try.isAgg96 rfl rfl rfl rfl) ?_
    refine go_p rfl rfl rfl (o_move rfl) ?_
    obtain ⟨yz_4, hx_4, hm⟩ := bind_some hm
    obtain ⟨ys_4, hm, he_4⟩ := bind_some hm
    obtain ⟨hz_4, hk_4, he_4⟩ := sub_call he_4 he_3 hk_3
    refine go_op rfl rfl rfl (o_callva rfl rfl (fv_clo Try.call148 (hself hx_4 y hys J Jx xs hy (ys_4 ++ rest) k_3 tl_3 bw hz_4 hk_3 hJ_3))) ?_
    rintro _ _ ⟨_ | _, tl_4, rfl, rfl, hJ_4, hs_4⟩
    · skip
      refine go_ms (ms' := [box bw 96 [_]] ++ tl_4) rfl ?_
      refine go_p rfl rfl rfl (o_not rfl) ?_
      refine go_nil ?_
      refine g_cond_true rfl rfl ?_
      refine g_seq ?_
      refine g_region ?_
      refine go_p rfl rfl rfl (o_assign rfl) ?_
      refine go_nil ?_
      refine g_ret ?_
      exact retK (ret_one' rfl (ret_tmp rfl) (permT 0 rfl)) ⟨false, _, rfl, rfl, (fun e => by cases e), fun _ => hs_4 rfl⟩
    · skip
      refine go_ms (ms' := [box bw 96 [_]] ++ tl_4) rfl ?_
      refine go_p rfl rfl rfl (o_not rfl) ?_
      refine go_nil ?_
      refine g_cond_false rfl rfl ?_
      refine g_skip ?_
      refine g_region ?_
      obtain ⟨hg4, hm⟩ := grd_some hm
      refine go_p rfl rfl rfl (o_add rfl rfl (i64_id hg4)) ?_
      refine go_p rfl rfl rfl (o_move rfl) ?_
      refine go_nil ?_
      exact ⟨_, ⟨((k_3 + yz_4.length), tl_4, ys_4), hk_4, (hJ_4 rfl), he_4⟩, hm, ⟨rfl, trivial⟩, ⟨rfl, rfl, rfl, rfl, rfl, trivial⟩, [], rfl⟩
  · replace hm := cond_f hc1 hm
    refine g_exit ?_
    refine g_seq ?_
    refine g_region ?_
    refine go_p rfl rfl rfl (o_load Try.isAgg96 rfl hys.2) ?_
    refine go_p rfl rfl rfl (o_move rfl) ?_
    obtain ⟨ys_5, hm, he_5⟩ := bind_some hm
    obtain ⟨hy_5, hk_5, he_5⟩ := yield_sub he_5 he_3
    refine go_op rfl rfl rfl (o_yield [_] tl_3 rfl rfl (hy k_3 _ tl_3 (map_at hy_5) hJ_3)) ?_
    rintro _ _ ⟨_ | _, tl_5, rfl, rfl, hJ_5, hs_5⟩
    · skip
      refine go_p rfl rfl rfl (o_assign rfl) ?_
      refine go_nil ?_
      refine g_ret ?_
      exact retK (ret_one' rfl (ret_tmp rfl) (permT 0 rfl)) ⟨false, _, rfl, rfl, (fun e => by cases e), fun _ => hs_5 rfl⟩
    · skip
      refine go_p rfl rfl rfl (o_assign rfl) ?_
      refine go_nil ?_
      refine g_ret ?_
      exact retK (ret_one' rfl (ret_tmp rfl) (permT 0 rfl)) ⟨true, _, rfl, rfl, (fun _ => sub_fin hm he_5 hk_5 he_0 hk_0 (hJ_5 rfl)), fun e => by cases e⟩
theorem wn_below_walk {c1 : ApiExpr} : ∀ (n : Nat) {i1 : Int} {ys_0 : List Int}, m_below_walk c1 n i1 = some ys_0 → ∀ (y : D), (y.storable = true ∧ y.isAgg = false) → ∀ (J : Nat → List Asrt → Prop) (Jx : List Asrt → Prop) (xs : List Int), (∀ k ds ms, (xs.map (fun (p : Int) => [.i64 p]))[k]? = some ds → J k ms → FV Try.prog y ds ms (fun r ms' => (r = .bool true ∧ J (k + 1) ms') ∨ (r = .bool false ∧ Jx ms'))) → ∀ (rest : List Int) (k_0 : Nat) (tl_0 : List Asrt) (bw : Nat), ys_0 ++ rest = xs.drop k_0 → k_0 ≤ xs.length → J k_0 tl_0 → Go.V.Fn Try.prog 148 [.i64 i1, .ref (ApiExpr.d c1), .v (.pointer (some ⟨bw, 0, none⟩)), .ref y] (box bw 96 [.clo (.func 148) [] [.ref (ApiExpr.d c1), .v (.pointer (some ⟨bw, 0, none⟩)), .ref y]] :: tl_0) (fun d ms' => ∃ b tl', d = .bool b ∧ ms' = box bw 96 [.clo (.func 148) [] [.ref (ApiExpr.d c1), .v (.pointer (some ⟨bw, 0, none⟩)), .ref y]] :: tl' ∧ (b = true → J (k_0 + ys_0.length) tl') ∧ (b = false → Jx tl'))
  | 0, _, _, h => by cases h
  | n + 1, _, _, h => wF_below_walk (m_below_walk c1 n) (fun h => wn_below_walk n h) h
theorem w_below_walk {c1 : ApiExpr} {i1 : Int} {ys_0 : List Int} (hm : m_below_walk c1 FU i1 = some ys_0) : ∀ (y : D), (y.storable = true ∧ y.isAgg = false) → ∀ (J : Nat → List Asrt → Prop) (Jx : List Asrt → Prop) (xs : List Int), (∀ k ds ms, (xs.map (fun (p : Int) => [.i64 p]))[k]? = some ds → J k ms → FV Try.prog y ds ms (fun r ms' => (r = .bool true ∧ J (k + 1) ms') ∨ (r = .bool false ∧ Jx ms'))) → ∀ (rest : List Int) (k_0 : Nat) (tl_0 : List Asrt) (bw : Nat), ys_0 ++ rest = xs.drop k_0 → k_0 ≤ xs.length → J k_0 tl_0 → Go.V.Fn Try.prog 148 [.i64 i1, .ref (ApiExpr.d c1), .v (.pointer (some ⟨bw, 0, none⟩)), .ref y] (box bw 96 [.clo (.func 148) [] [.ref (ApiExpr.d c1), .v (.pointer (some ⟨bw, 0, none⟩)), .ref y]] :: tl_0) (fun d ms' => ∃ b tl', d = .bool b ∧ ms' = box bw 96 [.clo (.func 148) [] [.ref (ApiExpr.d c1), .v (.pointer (some ⟨bw, 0, none⟩)), .ref y]] :: tl' ∧ (b = true → J (k_0 + ys_0.length) tl') ∧ (b = false → Jx tl')) := wn_below_walk FU hm
def m_below (c1 : ApiExpr) (c2 : Int) : Option (List Int) :=
  (m_below_walk c1 FU c2).bind fun yz =>
  (some []).bind fun ys => some (yz ++ ys)
theorem it_below {c1 : ApiExpr} {c2 : Int} {xs : (List Int)} (hm : m_below c1 c2 = some xs) : Iter Try.prog 147 [.ref (ApiExpr.d c1), .ref (.i64 c2)] (xs.map fun (p : Int) => [.i64 p]) := by
  intro y hys J Jx hy tl_0 hJ_0
  have hk_0 : 0 ≤ xs.length := Nat.zero_le _
  replace hm : _ = some (xs.drop 0) := hm
  unfold m_below at hm
  refine fn_intro Try.func147 rfl Try.ntmps147 rfl fun H0 fr w0 => ?_
  refine g_seq ?_
  refine g_region ?_
  refine go_p rfl rfl rfl (o_box rfl hys.1) ?_
  refine go_nil ?_
  refine g_seq ?_
  refine g_region ?_
  refine go_op rfl rfl rfl (o_alloc_own Try.zeroValue96 (cs := [.v .nilFunc]) rfl) ?_
  rintro _ _ ⟨b1, rfl, rfl⟩
  refine go_nil ?_
  refine g_seq ?_
  refine g_region ?_
  refine go_p rfl rfl rfl (o_makeFunc rfl rfl) ?_
  refine go_u rfl rfl (o_store_box 0 Try.sizeOf96 rfl rfl rfl rfl rfl rfl rfl rfl (Nat.le_of_ble_eq_true rfl)) ?_
  rintro _ _ rfl
  refine go_ms (ms' := [box b1 96 [_]] ++ tl_0) rfl ?_
  refine go_nil ?_
  refine g_region ?_
  refine go_p rfl rfl rfl (o_load_box 0 Try.isAgg96 rfl rfl rfl rfl) ?_
  refine go_p rfl rfl rfl (o_load Try.isAgg3 rfl rfl) ?_
  obtain ⟨yz_1, hx_1, hm⟩ := bind_some hm
  obtain ⟨ys_1, hm, he_1⟩ := bind_some hm
  obtain ⟨hz_1, hk_1, he_1⟩ := sub_call (rest := []) he_1 (List.append_nil _) hk_0
  refine go_op rfl rfl rfl (o_callva rfl rfl (fv_clo Try.call148 (w_below_walk hx_1 y hys J Jx xs hy (ys_1 ++ []) 0 tl_0 b1 hz_1 hk_0 hJ_0))) ?_
  rintro _ _ ⟨_ | _, tl_1, rfl, rfl, hJ_1, hs_1⟩
  · skip
    refine go_ms (ms' := [box b1 96 [_]] ++ tl_1) rfl ?_
    refine go_nil ?_
    exact retKn (ret_none (ms' := tl_1) (drop := [_]) rfl (List.Perm.refl _)) (.inr (hs_1 rfl))
  · skip
    refine go_ms (ms' := [box b1 96 [_]] ++ tl_1) rfl ?_
    rw [List.append_nil] at he_1
    rw [he_1] at hm
    refine go_nil ?_
    exact retKn (ret_none (ms' := tl_1) (drop := [_]) rfl (List.Perm.refl _)) (.inl (yield_end hm hk_1 (hJ_1 rfl) _))
theorem w_below {p0 : ApiExpr} {p1 : Int} :
    Fn0 Try.prog 116 [ApiExpr.d p0, .i64 p1] (.clo (.func 147) [] [.ref (ApiExpr.d p0), .ref (.i64 p1)]) := by
  refine fn_intro Try.func116 rfl Try.ntmps116 rfl fun H0 fr w0 => ?_
  refine g_seq ?_
  refine g_region ?_
  refine go_p rfl rfl rfl (o_box rfl rfl) ?_
  refine go_p rfl rfl rfl (o_box rfl rfl) ?_
  refine go_p rfl rfl rfl (o_assign rfl) ?_
  refine go_nil ?_
  refine g_seq ?_
  refine g_region ?_
  refine go_p rfl rfl rfl (o_makeFunc rfl rfl) ?_
  refine go_p rfl rfl rfl (o_assign rfl) ?_
  refine go_nil ?_
  refine g_ret ?_
  exact retK (ret_one' rfl (ret_tmp rfl) (perm_drop _)) (by rfl) -- ret1 
theorem pl_37 : ∀ fs, (∀ w, (underlying 37).run Try.prog w = .ok (.struct fs) w) → placesOf Try.prog fs [(0, 1)] := by
  intro fs h w
  have := (h w).symm.trans (Try.runUnderlying37 w)
  simp only [Result.ok.injEq, TypeDesc.struct.injEq, and_true] at this
  subst this
  simp [Try.sizeOf35, Sem.run]
def m_syntagmalaw05_Few_l1 (e1 : ApiExpr) : Nat → (Int × (List ApiNode)) → Option (List ApiNode)
  | 0, _ => none
  | n + 1, (i1, l2) =>
    bif ((decide (i1 < (e1.l.length : Int))) && (decide (i1 < 700))) then
      (idx e1.l i1).bind fun x1 =>
      (sli x1.l 0 (if 60 < (x1.l.length : Int) then 60 else (x1.l.length : Int))).bind fun l3 =>
      grd ((0 + l3.length) * 40 ≤ 140737488355328) <|
      grd ((l2.length + ([(⟨x1.kind, x1.a, x1.b, x1.c, x1.n_, x1.name, x1.s, ([] ++ l3), x1.pos⟩ : ApiNode)] : List _).length) * 104 ≤ 140737488355328) <|
      grd (InR (i1 + 1)) <|
      m_syntagmalaw05_Few_l1 e1 n ((i1 + 1), (l2 ++ [(⟨x1.kind, x1.a, x1.b, x1.c, x1.n_, x1.name, x1.s, ([] ++ l3), x1.pos⟩ : ApiNode)]))
    else
      some l2
def m_syntagmalaw05_Few (e1 : ApiExpr) : Option ApiExpr :=
  (m_syntagmalaw05_Few_l1 e1 FU (0, ([] : List ApiNode)) : Option (List ApiNode)).bind fun l1 =>
  some (⟨l1⟩ : ApiExpr)
theorem w_syntagmalaw05_Few {e1 : ApiExpr} {r_1 : ApiExpr} (hm : m_syntagmalaw05_Few e1 = some r_1) : Fn0 Try.prog 25 [ApiExpr.d e1] (ApiExpr.d r_1) := by
  unfold m_syntagmalaw05_Few at hm
  refine fn_intro Try.func25 rfl Try.ntmps25 rfl fun H0 fr w0 => ?_
  refine g_seq ?_
  refine g_region ?_
  refine go_p rfl rfl rfl (o_box rfl rfl) ?_
  refine go_op rfl rfl rfl (o_alloc_own Try.zeroValue37 (cs := [.list 9 ApiNode.d []]) rfl) ?_
  rintro _ _ ⟨b1, rfl, rfl⟩
  refine go_nil ?_
  refine g_seq ?_
  refine g_region ?_
  refine go_p rfl rfl rfl (o_build (zs := [.v (.slice none 0 0)]) Try.runUnderlying37 Try.zeroValue37 (pl_37 _ Try.runUnderlying37) rfl rfl rfl rfl) ?_
  refine go_op rfl rfl rfl (o_alloc_own Try.zeroValue37 (cs := [.list 9 ApiNode.d []]) rfl) ?_
  rintro _ _ ⟨b2, rfl, rfl⟩
  refine go_u rfl rfl (o_store_box 0 Try.sizeOf37 rfl rfl rfl rfl rfl rfl rfl rfl (Nat.le_of_ble_eq_true rfl)) ?_
  rintro _ _ rfl
  refine go_conv (refines_newrow (T := 40) (sz := 9) (f := ApiNode.d)) ?_
  refine go_ms (ms' := [_, box b2 37 [_], box b1 37 [_]]) rfl ?_
  refine go_nil ?_
  refine g_seq ?_
  refine g_seq ?_
  refine g_region ?_
  refine go_p rfl rfl rfl (o_assign rfl) ?_
  refine go_nil ?_
  obtain ⟨o_1, hj1, hm1⟩ := bind_some hm
  refine g_cut_m [(2, _), (3, _)] [(2, _)] (fun (st : (List ApiNode)) (hid : (Option Addr × Nat)) => match st, hid with | l1, (a_r1, cap_r1) => []) (fun F (st : (List ApiNode)) (hid : (Option Addr × Nat)) => match st, hid with | l1, (a_r1, cap_r1) => [row a_r1 cap_r1 40 9 ApiNode.d l1, box b2 37 [.v (.slice a_r1 l1.length cap_r1)], (nthF F 0)]) (fun st => st = o_1) ⟨rfl, rfl, trivial⟩ ⟨rfl, trivial⟩ ?_ ?_
  · skip
    refine g_block ?_
    refine g_loop_m [(1, _), (2, _), (3, _)] [(2, _)] (fun (st : (Int × (List ApiNode))) (hid : (Option Addr × Nat)) => match st, hid with | (i1, l2), (a_r1, cap_r1) => [(4, .i64 i1)]) (fun F (st : (Int × (List ApiNode))) (hid : (Option Addr × Nat)) => match st, hid with | (i1, l2), (a_r1, cap_r1) => [row a_r1 cap_r1 40 9 ApiNode.d l2, box b2 37 [.v (.slice a_r1 l2.length cap_r1)], (nthF F 0)]) (_, _) hj1 (fun _ => rfl) ⟨rfl, rfl, rfl, trivial⟩ ⟨rfl, trivial⟩ ⟨rfl, trivial⟩ rfl ?_
    rintro n ⟨i1, l2⟩ ⟨a_r1, cap_r1⟩ hj1
    rw [m_syntagmalaw05_Few_l1] at hj1
    refine g_norm (L' := [(4, .i64 i1), (1, _), (2, _), (3, _)]) (ms' := [row a_r1 cap_r1 40 9 ApiNode.d l2, box b2 37 [.v (.slice a_r1 l2.length cap_r1)], _]) rfl rfl ?_
    refine g_seq ?_
    refine g_seq ?_
    refine g_region ?_
    refine go_p rfl rfl rfl (o_move rfl) ?_
    refine go_p rfl rfl rfl (o_fieldAddr fi_37_0 rfl rfl rfl) ?_
    refine go_p rfl rfl rfl (o_load Try.isAgg35 rfl rfl) ?_
    refine go_p rfl rfl rfl (o_len Try.runUnderlying35 rfl) ?_
    refine go_p rfl rfl rfl (o_cmp rfl rfl rfl) ?_
    refine go_p rfl rfl rfl (o_move rfl) ?_
    apply go_and [(1, _), (2, _), (3, _), (4, _)] 3 15 (t := 12) ⟨rfl, rfl, rfl, rfl, trivial⟩ rfl
    · intro hg_1 hk1
      refine go_wantp rfl rfl rfl hg_1 rfl rfl (o_move rfl) ?_
      refine go_wantp rfl rfl rfl hg_1 rfl rfl (o_cmp rfl rfl rfl) ?_
      refine go_p rfl rfl rfl (o_pickT rfl hg_1 rfl) ?_
      exact go_meet hk1 (rfl) ⟨rfl, rfl, rfl, rfl, trivial⟩
    · intro hg_1 hk1
      refine go_skip rfl rfl rfl hg_1 rfl rfl ?_
      refine go_skip rfl rfl rfl hg_1 rfl rfl ?_
      refine go_p rfl rfl rfl (o_pickF rfl hg_1 rfl) ?_
      exact go_meet hk1 (rfl) ⟨rfl, rfl, rfl, rfl, trivial⟩
    refine go_nil ?_
    refine g_cond rfl (fun hc1 => ?_) (fun hc1 => ?_)
    · replace hj1 := cond_t hc1 hj1
      refine g_skip ?_
      refine g_seq ?_
      refine g_block ?_
      refine g_seq ?_
      refine g_region ?_
      refine go_p rfl rfl rfl (o_fieldAddr fi_37_0 rfl rfl rfl) ?_
      refine go_p rfl rfl rfl (o_load Try.isAgg35 rfl rfl) ?_
      refine go_p rfl rfl rfl (o_move rfl) ?_
      obtain ⟨x1, hx1, hj1⟩ := bind_some hj1
      refine go_p rfl rfl rfl (o_indexAddr_m Try.runUnderlying35 Try.sizeOf40 rfl rfl hx1) ?_
      refine go_p rfl rfl rfl (o_load_agg Try.isAgg40 Try.sizeOf40 rfl rfl) ?_
      refine go_op rfl rfl rfl (o_alloc_own Try.zeroValue40 (cs := [.i64 0, .i64 0, .i64 0, .i64 0, .i64 0, .str ([] : List UInt8), .str ([] : List UInt8), .list 3 ApiField.d [], .i64 0]) rfl) ?_
      rintro _ _ ⟨b3, rfl, rfl⟩
      refine go_u rfl rfl (o_store_box 0 Try.sizeOf40 rfl rfl rfl rfl rfl rfl rfl rfl (Nat.le_of_ble_eq_true rfl)) ?_
      rintro _ _ rfl
      refine go_ms (ms' := [box b3 40 [_, _, _, _, _, _, _, _, _], _, box b2 37 [_], box b1 37 [_]]) rfl ?_
      refine go_nil ?_
      refine g_seq ?_
      refine g_region ?_
      refine go_op rfl rfl rfl (o_buildSlice_row (xs := []) (f := ApiField.d) (l := []) Try.runUnderlying38 Try.sizeOf102 Try.zeroValue102 rfl rfl rfl (fun _ => ⟨rfl, rfl, rfl⟩) rfl (by simp [maxLen])) ?_
      rintro _ _ ⟨a_r2, rfl, rfl⟩
      refine go_p rfl rfl rfl (o_fieldAddr_box fi_40_7 rfl) ?_
      refine go_p rfl rfl rfl (o_load_box 1 Try.isAgg38 rfl rfl rfl rfl) ?_
      refine go_p rfl rfl rfl (o_fieldAddr_box fi_40_7 rfl) ?_
      refine go_p rfl rfl rfl (o_load_box 1 Try.isAgg38 rfl rfl rfl rfl) ?_
      refine go_p rfl rfl rfl (o_len Try.runUnderlying38 rfl) ?_
      refine go_p rfl rfl rfl (o_min rfl rfl) ?_
      obtain ⟨l3, hx2, hj1⟩ := bind_some hj1
      refine go_p rfl rfl rfl (o_slice_m Try.runUnderlying38 Try.sizeOf102 rfl rfl ⟨_, rfl⟩ hx2) ?_
      obtain ⟨hg3, hj1⟩ := grd_some hj1
      refine go_op rfl rfl rfl (o_append (a := _) 0 Try.underlying38 Try.type102 rfl rfl rfl rfl rfl rfl rfl (fun _ => rfl) (fun _ => rfl) hg3 (app_len hg3 rfl)) ?_
      rintro _ _ ⟨a_r2, cap_r2, rfl, rfl⟩
      refine go_ms (ms' := [_, box b3 40 [_, _, _, _, _, _, _, _, _], _, box b2 37 [_], box b1 37 [_]]) rfl ?_
      refine go_p rfl rfl rfl (o_fieldAddr_box fi_40_7 rfl) ?_
      refine go_u rfl rfl (o_store_box 1 Try.sizeOf38 rfl rfl rfl rfl rfl rfl rfl rfl (Nat.le_of_ble_eq_true rfl)) ?_
      rintro _ _ rfl
      refine go_ms (ms' := [_, box b3 40 [_, _, _, _, _, _, _, _, _], _, box b2 37 [_], box b1 37 [_]]) rfl ?_
      refine go_nil ?_
      refine g_region ?_
      refine go_p rfl rfl rfl (o_fieldAddr_box fi_37_0 rfl) ?_
      refine go_p rfl rfl rfl (o_load_box 3 Try.isAgg35 rfl rfl rfl rfl) ?_
      refine go_p rfl rfl rfl (o_load_box_agg 1 Try.isAgg40 Try.sizeOf40 rfl rfl rfl rfl (Nat.le_of_ble_eq_true rfl)) ?_
      refine go_conv (peekAggE (i := 35) (q := 7) 0 rfl rfl rfl rfl rfl).refines ?_
      refine go_p rfl rfl rfl (o_buildSlice (xs := [_]) (f := ApiNode.d) (l := [(⟨x1.kind, x1.a, x1.b, x1.c, x1.n_, x1.name, x1.s, ([] ++ l3), x1.pos⟩ : ApiNode)]) Try.runUnderlying35 Try.sizeOf40 Try.zeroValue40 rfl rfl rfl (fun _ => ⟨rfl, rfl, rfl⟩) rfl) ?_
      obtain ⟨hg4, hj1⟩ := grd_some hj1
      refine go_op rfl rfl rfl (o_append (a := _) 2 Try.underlying35 Try.type40 rfl rfl rfl rfl rfl rfl rfl (fun _ => rfl) (fun _ => rfl) hg4 (app_len hg4 rfl)) ?_
      rintro _ _ ⟨a_r1, cap_r1, rfl, rfl⟩
      refine go_ms (ms' := [_, box b3 40 [_, _, _, _, _, _, _, _, _], _, box b2 37 [_], box b1 37 [_]]) rfl ?_
      refine go_p rfl rfl rfl (o_fieldAddr_box fi_37_0 rfl) ?_
      refine go_u rfl rfl (o_store_box 3 Try.sizeOf35 rfl rfl rfl rfl rfl rfl rfl rfl (Nat.le_of_ble_eq_true rfl)) ?_
      rintro _ _ rfl
      refine go_ms (ms' := [_, box b3 40 [_, _, _, _, _, _, _, _, _], _, box b2 37 [_], box b1 37 [_]]) rfl ?_
      refine go_nil ?_
      refine g_region ?_
      refine go_p rfl rfl rfl (o_move rfl) ?_
      obtain ⟨hg5, hj1⟩ := grd_some hj1
      refine go_p rfl rfl rfl (o_add rfl rfl (i64_id hg5)) ?_
      refine go_p rfl rfl rfl (o_assign rfl) ?_
      refine go_nil ?_
      exact ⟨_, (_, _), hj1, ⟨rfl, trivial⟩, ⟨rfl, rfl, rfl, trivial⟩, [_, _], rfl⟩
    · replace hj1 := cond_f hc1 hj1
      refine g_exit ?_
      exact ⟨_, (_, _), some_eq hj1, trivial, ⟨rfl, rfl, trivial⟩, [], rfl⟩
  · rintro l1 ⟨a_r1, cap_r1⟩ hst
    subst hst
    refine k_norm (L' := [(2, _), (3, _)]) (ms' := [row a_r1 cap_r1 40 9 ApiNode.d l1, box b2 37 [.v (.slice a_r1 l1.length cap_r1)], _]) rfl rfl ?_
    refine g_seq ?_
    refine g_region ?_
    refine go_p rfl rfl rfl (o_load_box_agg 1 Try.isAgg37 Try.sizeOf37 rfl rfl rfl rfl (Nat.le_of_ble_eq_true rfl)) ?_
    refine go_conv (peekAggE (i := 39) (q := 0) 0 rfl rfl rfl rfl rfl).refines ?_
    refine go_u rfl rfl (o_store_box 2 Try.sizeOf37 rfl rfl rfl rfl rfl rfl rfl rfl (Nat.le_of_ble_eq_true rfl)) ?_
    rintro _ _ rfl
    refine go_ms (ms' := [_, box b2 37 [_], box b1 37 [_]]) rfl ?_
    refine go_nil ?_
    refine g_ret ?_
    exact retK (ret_one' rfl (ret_cell 2 rfl rfl rfl Try.isAgg37 Try.sizeOf37 rfl) (perm_drop _)) (congrArg (fun (p : ApiExpr) => (ApiExpr.d p : D)) (some_eq hm1))
def m_syntagmaref05_Kids_l1 (n1 : ApiNode) : Nat → (Int × (List Int)) → Option (List Int)
  | 0, _ => none
  | n + 1, (i1, l3) =>
    bif (decide (i1 < (n1.l.length : Int))) then
      (idx n1.l i1).bind fun x3 =>
      grd ((l3.length + ([x3.at_] : List _).length) * 8 ≤ 140737488355328) <|
      grd (InR (i1 + 1)) <|
      m_syntagmaref05_Kids_l1 n1 n ((i1 + 1), (l3 ++ [x3.at_]))
    else
      some l3
def m_syntagmaref05_Kids (n1 : ApiNode) : Option (List Int) :=
  ((bif (decide (n1.kind = 5)) then
    some (decide (n1.kind = 5))
  else
    bif (decide (n1.kind = 12)) then
      some (decide (n1.kind = 12))
    else
      some (decide (n1.kind = 13)) : Option Bool).bind fun x1 =>
  bif x1 then
    some [n1.a]
  else
    (bif (decide (n1.kind = 6)) then
      some (decide (n1.kind = 6))
    else
      bif (decide (n1.kind = 7)) then
        some (decide (n1.kind = 7))
      else
        bif (decide (n1.kind = 8)) then
          some (decide (n1.kind = 8))
        else
          some (decide (n1.kind = 10)) : Option Bool).bind fun x2 =>
    bif x2 then
      some [n1.a, n1.b]
    else
      bif (decide (n1.kind = 9)) then
        some [n1.a, n1.b, n1.c]
      else
        bif (decide (n1.kind = 14)) then
          some [n1.a]
        else
          some [] : Option (List Int)).bind fun l1 =>
  bif ((decide (n1.kind = 11)) || (decide (n1.kind = 14))) then
    (m_syntagmaref05_Kids_l1 n1 FU (0, l1) : Option (List Int)).bind fun l2 =>
    some l2
  else
    some l1
theorem w_syntagmaref05_Kids {n1 : ApiNode} {r_1 : (List Int)} (hm : m_syntagmaref05_Kids n1 = some r_1) : Fn0 Try.prog 32 [ApiNode.d n1] (.list 1 D.i64 r_1) := by
  unfold m_syntagmaref05_Kids at hm
  refine fn_intro Try.func32 rfl Try.ntmps32 rfl fun H0 fr w0 => ?_
  refine g_seq ?_
  refine g_region ?_
  refine go_p rfl rfl rfl (o_box rfl rfl) ?_
  refine go_p rfl rfl rfl (o_assign rfl) ?_
  refine go_conv (nilE (i := 2) (sz := 1) (f := D.i64) rfl).refines ?_
  refine go_nil ?_
  refine g_seq ?_
  refine g_region ?_
  refine go_op rfl rfl rfl (o_buildSlice_row (xs := []) (f := D.i64) (l := []) Try.runUnderlying46 Try.sizeOf3 Try.zeroValue3 rfl rfl rfl (fun _ => ⟨rfl, rfl, rfl⟩) rfl (by simp [maxLen])) ?_
  rintro _ _ ⟨a_r1, rfl, rfl⟩
  refine go_p rfl rfl rfl (o_assign rfl) ?_
  refine go_nil ?_
  refine g_seq ?_
  refine g_seq ?_
  refine g_region ?_
  refine go_p rfl rfl rfl (o_fieldAddr fi_40_0 rfl rfl rfl) ?_
  refine go_p rfl rfl rfl (o_load Try.isAgg3 rfl rfl) ?_
  refine go_nil ?_
  obtain ⟨o_1, hj1, hm1⟩ := bind_some hm
  refine g_cut_m [(1, _)] [] (fun (st : (List Int)) (hid : (Option Addr × Nat)) => match st, hid with | l1, (a_r1, cap_r1) => [(3, .v (.slice a_r1 l1.length cap_r1))]) (fun F (st : (List Int)) (hid : (Option Addr × Nat)) => match st, hid with | l1, (a_r1, cap_r1) => [row a_r1 cap_r1 3 1 D.i64 l1]) (fun st => st = o_1) ⟨rfl, trivial⟩ trivial ?_ ?_
  · skip
    refine g_block ?_
    refine g_seq ?_
    refine g_seq ?_
    refine g_region ?_
    refine go_p rfl rfl rfl (o_cmp rfl rfl rfl) ?_
    refine go_p rfl rfl rfl (o_assign rfl) ?_
    refine go_nil ?_
    obtain ⟨o_2, hj2, hm2⟩ := bind_some hj1
    refine g_cut_m [(1, _), (3, _), (7, _)] [(0, _)] (fun (st : Bool) (hid : Unit) => match st, hid with | x1, _ => [(8, .bool x1)]) (fun F (st : Bool) (hid : Unit) => match st, hid with | x1, _ => [(nthF F 0)]) (fun st => st = o_2) ⟨rfl, rfl, rfl, trivial⟩ ⟨rfl, trivial⟩ ?_ ?_
    · skip
      refine g_cond rfl (fun hc1 => ?_) (fun hc1 => ?_)
      · replace hj2 := cond_t hc1 hj2
        refine g_skip ?_
        exact ⟨_, (), some_eq hj2, ⟨rfl, trivial⟩, ⟨rfl, rfl, rfl, trivial⟩, [], rfl⟩
      · replace hj2 := cond_f hc1 hj2
        refine g_seq ?_
        refine g_region ?_
        refine go_p rfl rfl rfl (o_cmp rfl rfl rfl) ?_
        refine go_p rfl rfl rfl (o_assign rfl) ?_
        refine go_nil ?_
        refine g_cond rfl (fun hc2 => ?_) (fun hc2 => ?_)
        · replace hj2 := cond_t hc2 hj2
          refine g_skip ?_
          exact ⟨_, (), some_eq hj2, ⟨rfl, trivial⟩, ⟨rfl, rfl, rfl, trivial⟩, [], rfl⟩
        · replace hj2 := cond_f hc2 hj2
          refine g_region ?_
          refine go_p rfl rfl rfl (o_cmp rfl rfl rfl) ?_
          refine go_p rfl rfl rfl (o_assign rfl) ?_
          refine go_nil ?_
          exact ⟨_, (), some_eq hj2, ⟨rfl, trivial⟩, ⟨rfl, rfl, rfl, trivial⟩, [], rfl⟩
    · rintro x1 _ hst
      subst hst
      refine k_norm (L' := [(8, .bool x1), (1, _), (3, _), (7, _)]) (ms' := [_]) rfl rfl ?_
      refine g_cond rfl (fun hc3 => ?_) (fun hc3 => ?_)
      · replace hm2 := cond_t hc3 hm2
        refine g_region ?_
        refine go_p rfl rfl rfl (o_fieldAddr fi_40_1 rfl rfl rfl) ?_
        refine go_p rfl rfl rfl (o_load Try.isAgg3 rfl rfl) ?_
        refine go_op rfl rfl rfl (o_buildSlice_row (xs := [_]) (f := D.i64) (l := [_]) Try.runUnderlying46 Try.sizeOf3 Try.zeroValue3 rfl rfl rfl (fun _ => ⟨rfl, rfl, rfl⟩) rfl (by simp [maxLen])) ?_
        rintro _ _ ⟨a_r2, rfl, rfl⟩
        refine go_p rfl rfl rfl (o_assign rfl) ?_
        refine go_conv (refines_shift 0 1 rfl rfl rfl rfl) ?_
        refine go_nil ?_
        exact ⟨_, (_, _), some_eq hm2, ⟨rfl, trivial⟩, ⟨rfl, trivial⟩, [], rfl⟩
      · replace hm2 := cond_f hc3 hm2
        refine g_seq ?_
        refine g_seq ?_
        refine g_region ?_
        refine go_p rfl rfl rfl (o_cmp rfl rfl rfl) ?_
        refine go_p rfl rfl rfl (o_assign rfl) ?_
        refine go_nil ?_
        obtain ⟨o_3, hj3, hm3⟩ := bind_some hm2
        refine g_cut_m [(1, _), (3, _), (7, _)] [(0, _)] (fun (st : Bool) (hid : Unit) => match st, hid with | x2, _ => [(15, .bool x2)]) (fun F (st : Bool) (hid : Unit) => match st, hid with | x2, _ => [(nthF F 0)]) (fun st => st = o_3) ⟨rfl, rfl, rfl, trivial⟩ ⟨rfl, trivial⟩ ?_ ?_
        · skip
          refine g_cond rfl (fun hc4 => ?_) (fun hc4 => ?_)
          · replace hj3 := cond_t hc4 hj3
            refine g_skip ?_
            exact ⟨_, (), some_eq hj3, ⟨rfl, trivial⟩, ⟨rfl, rfl, rfl, trivial⟩, [], rfl⟩
          · replace hj3 := cond_f hc4 hj3
            refine g_seq ?_
            refine g_region ?_
            refine go_p rfl rfl rfl (o_cmp rfl rfl rfl) ?_
            refine go_p rfl rfl rfl (o_assign rfl) ?_
            refine go_nil ?_
            refine g_cond rfl (fun hc5 => ?_) (fun hc5 => ?_)
            · replace hj3 := cond_t hc5 hj3
              refine g_skip ?_
              exact ⟨_, (), some_eq hj3, ⟨rfl, trivial⟩, ⟨rfl, rfl, rfl, trivial⟩, [], rfl⟩
            · replace hj3 := cond_f hc5 hj3
              refine g_seq ?_
              refine g_region ?_
              refine go_p rfl rfl rfl (o_cmp rfl rfl rfl) ?_
              refine go_p rfl rfl rfl (o_assign rfl) ?_
              refine go_nil ?_
              refine g_cond rfl (fun hc6 => ?_) (fun hc6 => ?_)
              · replace hj3 := cond_t hc6 hj3
                refine g_skip ?_
                exact ⟨_, (), some_eq hj3, ⟨rfl, trivial⟩, ⟨rfl, rfl, rfl, trivial⟩, [], rfl⟩
              · replace hj3 := cond_f hc6 hj3
                refine g_region ?_
                refine go_p rfl rfl rfl (o_cmp rfl rfl rfl) ?_
                refine go_p rfl rfl rfl (o_assign rfl) ?_
                refine go_nil ?_
                exact ⟨_, (), some_eq hj3, ⟨rfl, trivial⟩, ⟨rfl, rfl, rfl, trivial⟩, [], rfl⟩
        · rintro x2 _ hst
          subst hst
          refine k_norm (L' := [(15, .bool x2), (1, _), (3, _), (7, _)]) (ms' := [_]) rfl rfl ?_
          refine g_cond rfl (fun hc7 => ?_) (fun hc7 => ?_)
          · replace hm3 := cond_t hc7 hm3
            refine g_region ?_
            refine go_p rfl rfl rfl (o_fieldAddr fi_40_1 rfl rfl rfl) ?_
            refine go_p rfl rfl rfl (o_load Try.isAgg3 rfl rfl) ?_
            refine go_p rfl rfl rfl (o_fieldAddr fi_40_2 rfl rfl rfl) ?_
            refine go_p rfl rfl rfl (o_load Try.isAgg3 rfl rfl) ?_
            refine go_op rfl rfl rfl (o_buildSlice_row (xs := [_, _]) (f := D.i64) (l := [_, _]) Try.runUnderlying46 Try.sizeOf3 Try.zeroValue3 rfl rfl rfl (fun _ => ⟨rfl, rfl, rfl⟩) rfl (by simp [maxLen])) ?_
            rintro _ _ ⟨a_r3, rfl, rfl⟩
            refine go_p rfl rfl rfl (o_assign rfl) ?_
            refine go_conv (refines_shift 0 1 rfl rfl rfl rfl) ?_
            refine go_nil ?_
            exact ⟨_, (_, _), some_eq hm3, ⟨rfl, trivial⟩, ⟨rfl, trivial⟩, [], rfl⟩
          · replace hm3 := cond_f hc7 hm3
            refine g_seq ?_
            refine g_region ?_
            refine go_p rfl rfl rfl (o_cmp rfl rfl rfl) ?_
            refine go_p rfl rfl rfl (o_assign rfl) ?_
            refine go_nil ?_
            refine g_cond rfl (fun hc8 => ?_) (fun hc8 => ?_)
            · replace hm3 := cond_t hc8 hm3
              refine g_region ?_
              refine go_p rfl rfl rfl (o_fieldAddr fi_40_1 rfl rfl rfl) ?_
              refine go_p rfl rfl rfl (o_load Try.isAgg3 rfl rfl) ?_
              refine go_p rfl rfl rfl (o_fieldAddr fi_40_2 rfl rfl rfl) ?_
              refine go_p rfl rfl rfl (o_load Try.isAgg3 rfl rfl) ?_
              refine go_p rfl rfl rfl (o_fieldAddr fi_40_3 rfl rfl rfl) ?_
              refine go_p rfl rfl rfl (o_load Try.isAgg3 rfl rfl) ?_
              refine go_op rfl rfl rfl (o_buildSlice_row (xs := [_, _, _]) (f := D.i64) (l := [_, _, _]) Try.runUnderlying46 Try.sizeOf3 Try.zeroValue3 rfl rfl rfl (fun _ => ⟨rfl, rfl, rfl⟩) rfl (by simp [maxLen])) ?_
              rintro _ _ ⟨a_r4, rfl, rfl⟩
              refine go_p rfl rfl rfl (o_assign rfl) ?_
              refine go_conv (refines_shift 0 1 rfl rfl rfl rfl) ?_
              refine go_nil ?_
              exact ⟨_, (_, _), some_eq hm3, ⟨rfl, trivial⟩, ⟨rfl, trivial⟩, [], rfl⟩
            · replace hm3 := cond_f hc8 hm3
              refine g_seq ?_
              refine g_region ?_
              refine go_p rfl rfl rfl (o_cmp rfl rfl rfl) ?_
              refine go_p rfl rfl rfl (o_assign rfl) ?_
              refine go_nil ?_
              refine g_cond rfl (fun hc9 => ?_) (fun hc9 => ?_)
              · replace hm3 := cond_t hc9 hm3
                refine g_region ?_
                refine go_p rfl rfl rfl (o_fieldAddr fi_40_1 rfl rfl rfl) ?_
                refine go_p rfl rfl rfl (o_load Try.isAgg3 rfl rfl) ?_
                refine go_op rfl rfl rfl (o_buildSlice_row (xs := [_]) (f := D.i64) (l := [_]) Try.runUnderlying46 Try.sizeOf3 Try.zeroValue3 rfl rfl rfl (fun _ => ⟨rfl, rfl, rfl⟩) rfl (by simp [maxLen])) ?_
                rintro _ _ ⟨a_r5, rfl, rfl⟩
                refine go_p rfl rfl rfl (o_assign rfl) ?_
                refine go_conv (refines_shift 0 1 rfl rfl rfl rfl) ?_
                refine go_nil ?_
                exact ⟨_, (_, _), some_eq hm3, ⟨rfl, trivial⟩, ⟨rfl, trivial⟩, [], rfl⟩
              · replace hm3 := cond_f hc9 hm3
                refine g_skip ?_
                exact ⟨_, (_, _), some_eq hm3, ⟨rfl, trivial⟩, ⟨rfl, trivial⟩, [], rfl⟩
  · rintro l1 ⟨a_r1, cap_r1⟩ hst
    subst hst
    refine k_norm (L' := [(3, .v (.slice a_r1 l1.length cap_r1)), (1, _)]) (ms' := [row a_r1 cap_r1 3 1 D.i64 l1]) rfl rfl ?_
    refine g_seq ?_
    refine g_seq ?_
    refine g_region ?_
    refine go_p rfl rfl rfl (o_fieldAddr fi_40_0 rfl rfl rfl) ?_
    refine go_p rfl rfl rfl (o_load Try.isAgg3 rfl rfl) ?_
    refine go_p rfl rfl rfl (o_cmp rfl rfl rfl) ?_
    refine go_p rfl rfl rfl (o_move rfl) ?_
    apply go_or [(1, _), (3, _)] 4 46 (t := 42) ⟨rfl, rfl, trivial⟩ rfl
    · intro hg_1 hk1
      refine go_wantp rfl rfl rfl hg_1 rfl rfl (o_fieldAddr fi_40_0 rfl rfl rfl) ?_
      refine go_wantp rfl rfl rfl hg_1 rfl rfl (o_load Try.isAgg3 rfl rfl) ?_
      refine go_wantp rfl rfl rfl hg_1 rfl rfl (o_cmp rfl rfl rfl) ?_
      refine go_p rfl rfl rfl (o_pickF rfl hg_1 rfl) ?_
      exact go_meet hk1 (rfl) ⟨rfl, rfl, trivial⟩
    · intro hg_1 hk1
      refine go_skip rfl rfl rfl hg_1 rfl rfl ?_
      refine go_skip rfl rfl rfl hg_1 rfl rfl ?_
      refine go_skip rfl rfl rfl hg_1 rfl rfl ?_
      refine go_p rfl rfl rfl (o_pickT rfl hg_1 rfl) ?_
      exact go_meet hk1 (rfl) ⟨rfl, rfl, trivial⟩
    refine go_nil ?_
    refine g_cond rfl (fun hc10 => ?_) (fun hc10 => ?_)
    · replace hm1 := cond_t hc10 hm1
      refine g_seq ?_
      refine g_region ?_
      refine go_p rfl rfl rfl (o_assign rfl) ?_
      refine go_nil ?_
      obtain ⟨o_4, hj4, hm4⟩ := bind_some hm1
      refine g_cut_m [] [] (fun (st : (List Int)) (hid : (Option Addr × Nat)) => match st, hid with | l2, (a_r1, cap_r1) => [(3, .v (.slice a_r1 l2.length cap_r1))]) (fun F (st : (List Int)) (hid : (Option Addr × Nat)) => match st, hid with | l2, (a_r1, cap_r1) => [row a_r1 cap_r1 3 1 D.i64 l2]) (fun st => st = o_4) trivial trivial ?_ ?_
      · skip
        refine g_block ?_
        refine g_loop_m [(1, _)] [] (fun (st : (Int × (List Int))) (hid : (Option Addr × Nat)) => match st, hid with | (i1, l3), (a_r1, cap_r1) => [(3, .v (.slice a_r1 l3.length cap_r1)), (4, .i64 i1)]) (fun F (st : (Int × (List Int))) (hid : (Option Addr × Nat)) => match st, hid with | (i1, l3), (a_r1, cap_r1) => [row a_r1 cap_r1 3 1 D.i64 l3]) (_, _) hj4 (fun _ => rfl) ⟨rfl, trivial⟩ trivial ⟨rfl, rfl, trivial⟩ rfl ?_
        rintro n ⟨i1, l3⟩ ⟨a_r1, cap_r1⟩ hj4
        rw [m_syntagmaref05_Kids_l1] at hj4
        refine g_norm (L' := [(3, .v (.slice a_r1 l3.length cap_r1)), (4, .i64 i1), (1, _)]) (ms' := [row a_r1 cap_r1 3 1 D.i64 l3]) rfl rfl ?_
        refine g_seq ?_
        refine g_seq ?_
        refine g_region ?_
        refine go_p rfl rfl rfl (o_move rfl) ?_
        refine go_p rfl rfl rfl (o_fieldAddr fi_40_7 rfl rfl rfl) ?_
        refine go_p rfl rfl rfl (o_load Try.isAgg38 rfl rfl) ?_
        refine go_p rfl rfl rfl (o_len Try.runUnderlying38 rfl) ?_
        refine go_p rfl rfl rfl (o_cmp rfl rfl rfl) ?_
        refine go_nil ?_
        refine g_cond rfl (fun hc11 => ?_) (fun hc11 => ?_)
        · replace hj4 := cond_t hc11 hj4
          refine g_skip ?_
          refine g_seq ?_
          refine g_block ?_
          refine g_region ?_
          refine go_p rfl rfl rfl (o_move rfl) ?_
          refine go_p rfl rfl rfl (o_fieldAddr fi_40_7 rfl rfl rfl) ?_
          refine go_p rfl rfl rfl (o_load Try.isAgg38 rfl rfl) ?_
          refine go_p rfl rfl rfl (o_move rfl) ?_
          obtain ⟨x3, hx1, hj4⟩ := bind_some hj4
          refine go_p rfl rfl rfl (o_indexAddr_m Try.runUnderlying38 Try.sizeOf102 rfl rfl hx1) ?_
          refine go_p rfl rfl rfl (o_fieldAddr fi_102_2 rfl rfl rfl) ?_
          refine go_p rfl rfl rfl (o_load Try.isAgg3 rfl rfl) ?_
          refine go_p rfl rfl rfl (o_buildSlice (xs := [_]) (f := D.i64) (l := [_]) Try.runUnderlying46 Try.sizeOf3 Try.zeroValue3 rfl rfl rfl (fun _ => ⟨rfl, rfl, rfl⟩) rfl) ?_
          obtain ⟨hg2, hj4⟩ := grd_some hj4
          refine go_op rfl rfl rfl (o_append (a := _) 0 Try.underlying46 Try.type3 rfl rfl rfl rfl rfl rfl rfl (fun _ => rfl) (fun _ => rfl) hg2 (app_len hg2 rfl)) ?_
          rintro _ _ ⟨a_r1, cap_r1, rfl, rfl⟩
          refine go_ms (ms' := [_]) rfl ?_
          refine go_p rfl rfl rfl (o_assign rfl) ?_
          refine go_nil ?_
          refine g_region ?_
          refine go_p rfl rfl rfl (o_move rfl) ?_
          obtain ⟨hg3, hj4⟩ := grd_some hj4
          refine go_p rfl rfl rfl (o_add rfl rfl (i64_id hg3)) ?_
          refine go_p rfl rfl rfl (o_assign rfl) ?_
          refine go_nil ?_
          exact ⟨_, (_, _), hj4, ⟨rfl, rfl, trivial⟩, ⟨rfl, trivial⟩, [], rfl⟩
        · replace hj4 := cond_f hc11 hj4
          refine g_exit ?_
          exact ⟨_, (_, _), some_eq hj4, ⟨rfl, trivial⟩, trivial, [], rfl⟩
      · rintro l2 ⟨a_r1, cap_r1⟩ hst
        subst hst
        refine k_norm (L' := [(3, .v (.slice a_r1 l2.length cap_r1))]) (ms' := [row a_r1 cap_r1 3 1 D.i64 l2]) rfl rfl ?_
        refine g_seq ?_
        refine g_region ?_
        refine go_p rfl rfl rfl (o_move rfl) ?_
        refine go_p rfl rfl rfl (o_assign rfl) ?_
        refine go_nil ?_
        refine g_conv (peekE (i := 2) 0 rfl rfl rfl).refines ?_
        refine g_ret ?_
        exact retK (ret_one' rfl (ret_tmp rfl) (perm_drop _)) (congrArg (fun (p : (List Int)) => (.list 1 D.i64 p : D)) (some_eq hm4))
    · replace hm1 := cond_f hc10 hm1
      refine g_skip ?_
      refine g_seq ?_
      refine g_region ?_
      refine go_p rfl rfl rfl (o_move rfl) ?_
      refine go_p rfl rfl rfl (o_assign rfl) ?_
      refine go_nil ?_
      refine g_conv (peekE (i := 2) 0 rfl rfl rfl).refines ?_
      refine g_ret ?_
      exact retK (ret_one' rfl (ret_tmp rfl) (perm_drop _)) (congrArg (fun (p : (List Int)) => (.list 1 D.i64 p : D)) (some_eq hm1))
def m_syntagmaref03_small (c1 : UInt8) : Option Bool :=
  some (((decide (97 ≤ (c1.toNat : Int))) && (decide ((c1.toNat : Int) ≤ 122))) || (decide ((c1.toNat : Int) = 95)))
theorem w_syntagmaref03_small {c1 : UInt8} {r_1 : Bool} (hm : m_syntagmaref03_small c1 = some r_1) : Fn0 Try.prog 96 [.u8 c1] (.bool r_1) := by
  unfold m_syntagmaref03_small at hm
  refine fn_intro Try.func96 rfl Try.ntmps96 rfl fun H0 fr w0 => ?_
  refine g_seq ?_
  refine g_region ?_
  refine go_p rfl rfl rfl (o_assign rfl) ?_
  refine go_nil ?_
  refine g_seq ?_
  refine g_region ?_
  refine go_p rfl rfl rfl (o_move rfl) ?_
  refine go_p rfl rfl rfl (o_cmp rfl rfl rfl) ?_
  refine go_p rfl rfl rfl (o_move rfl) ?_
  apply go_and [(0, _)] 3 8 (t := 5) ⟨rfl, trivial⟩ rfl
  · intro hg_1 hk1
    refine go_wantp rfl rfl rfl hg_1 rfl rfl (o_move rfl) ?_
    refine go_wantp rfl rfl rfl hg_1 rfl rfl (o_cmp rfl rfl rfl) ?_
    refine go_p rfl rfl rfl (o_pickT rfl hg_1 rfl) ?_
    exact go_meet hk1 (rfl) ⟨rfl, trivial⟩
  · intro hg_1 hk1
    refine go_skip rfl rfl rfl hg_1 rfl rfl ?_
    refine go_skip rfl rfl rfl hg_1 rfl rfl ?_
    refine go_p rfl rfl rfl (o_pickF rfl hg_1 rfl) ?_
    exact go_meet hk1 (rfl) ⟨rfl, trivial⟩
  refine go_p rfl rfl rfl (o_move rfl) ?_
  apply go_or [] 3 12 (t := 9) trivial rfl
  · intro hg_2 hk2
    refine go_wantp rfl rfl rfl hg_2 rfl rfl (o_move rfl) ?_
    refine go_wantp rfl rfl rfl hg_2 rfl rfl (o_cmp rfl rfl rfl) ?_
    refine go_p rfl rfl rfl (o_pickF rfl hg_2 rfl) ?_
    exact go_meet hk2 (rfl) trivial
  · intro hg_2 hk2
    refine go_skip rfl rfl rfl hg_2 rfl rfl ?_
    refine go_skip rfl rfl rfl hg_2 rfl rfl ?_
    refine go_p rfl rfl rfl (o_pickT rfl hg_2 rfl) ?_
    exact go_meet hk2 (rfl) trivial
  refine go_p rfl rfl rfl (o_assign rfl) ?_
  refine go_nil ?_
  refine g_ret ?_
  exact retK (ret_one' rfl (ret_tmp rfl) (perm_drop _)) (congrArg (fun (p : Bool) => (.bool p : D)) (some_eq hm))
def m_syntagmaref03_great (c1 : UInt8) : Option Bool :=
  some ((decide (65 ≤ (c1.toNat : Int))) && (decide ((c1.toNat : Int) ≤ 90)))
theorem w_syntagmaref03_great {c1 : UInt8} {r_1 : Bool} (hm : m_syntagmaref03_great c1 = some r_1) : Fn0 Try.prog 130 [.u8 c1] (.bool r_1) := by
  unfold m_syntagmaref03_great at hm
  refine fn_intro Try.func130 rfl Try.ntmps130 rfl fun H0 fr w0 => ?_
  refine g_seq ?_
  refine g_region ?_
  refine go_p rfl rfl rfl (o_assign rfl) ?_
  refine go_nil ?_
  refine g_seq ?_
  refine g_region ?_
  refine go_p rfl rfl rfl (o_move rfl) ?_
  refine go_p rfl rfl rfl (o_cmp rfl rfl rfl) ?_
  refine go_p rfl rfl rfl (o_move rfl) ?_
  apply go_and [] 3 8 (t := 5) trivial rfl
  · intro hg_1 hk1
    refine go_wantp rfl rfl rfl hg_1 rfl rfl (o_move rfl) ?_
    refine go_wantp rfl rfl rfl hg_1 rfl rfl (o_cmp rfl rfl rfl) ?_
    refine go_p rfl rfl rfl (o_pickT rfl hg_1 rfl) ?_
    exact go_meet hk1 (rfl) trivial
  · intro hg_1 hk1
    refine go_skip rfl rfl rfl hg_1 rfl rfl ?_
    refine go_skip rfl rfl rfl hg_1 rfl rfl ?_
    refine go_p rfl rfl rfl (o_pickF rfl hg_1 rfl) ?_
    exact go_meet hk1 (rfl) trivial
  refine go_p rfl rfl rfl (o_assign rfl) ?_
  refine go_nil ?_
  refine g_ret ?_
  exact retK (ret_one' rfl (ret_tmp rfl) (perm_drop _)) (congrArg (fun (p : Bool) => (.bool p : D)) (some_eq hm))
def m_syntagmaref03_Word_l1 (s1 : (List UInt8)) : Nat → Int → Option Int
  | 0, _ => none
  | n + 1, n2 =>
    (bif (decide (n2 < (s1.length : Int))) then ((idx s1 n2).bind fun c3 =>
    (m_syntagmaref03_small c3).bind fun x3 =>
    (bif x3 then (some true) else ((idx s1 n2).bind fun c4 =>
    (m_syntagmaref03_great c4).bind fun x4 =>
    some x4)).bind fun p4 =>
    (bif p4 then (some true) else ((idx s1 n2).bind fun c5 =>
    (bif (decide (48 ≤ (c5.toNat : Int))) then ((idx s1 n2).bind fun c6 =>
    some (decide ((c6.toNat : Int) ≤ 57))) else (some false)).bind fun p6 =>
    some p6)).bind fun p5 =>
    some p5) else (some false)).bind fun p3 =>
    bif p3 then
      grd (InR (n2 + 1)) <|
      m_syntagmaref03_Word_l1 s1 n (n2 + 1)
    else
      some n2
def m_syntagmaref03_Word (s1 : (List UInt8)) : Option Int :=
  (bif (decide ((s1.length : Int) = 0)) then (some true) else ((idx s1 0).bind fun c1 =>
  (m_syntagmaref03_small c1).bind fun x1 =>
  (bif (!x1) then ((idx s1 0).bind fun c2 =>
  (m_syntagmaref03_great c2).bind fun x2 =>
  some (!x2)) else (some false)).bind fun p2 =>
  some p2)).bind fun p1 =>
  bif p1 then
    some 0
  else
    (m_syntagmaref03_Word_l1 s1 FU 1 : Option Int).bind fun n1 =>
    some n1
theorem w_syntagmaref03_Word {s1 : (List UInt8)} {r_1 : Int} (hm : m_syntagmaref03_Word s1 = some r_1) : Fn0 Try.prog 95 [.str s1] (.i64 r_1) := by
  unfold m_syntagmaref03_Word at hm
  refine fn_intro Try.func95 rfl Try.ntmps95 rfl fun H0 fr w0 => ?_
  refine g_seq ?_
  refine g_region ?_
  refine go_p rfl rfl rfl (o_assign rfl) ?_
  refine go_nil ?_
  refine g_seq ?_
  refine g_seq ?_
  refine g_region ?_
  refine go_p rfl rfl rfl (o_move rfl) ?_
  refine go_p rfl rfl rfl (o_len_str Try.runUnderlying9 rfl) ?_
  refine go_p rfl rfl rfl (o_cmp rfl rfl rfl) ?_
  refine go_p rfl rfl rfl (o_move rfl) ?_
  obtain ⟨p1, hp_1, hm⟩ := bind_some hm
  refine go_two [(0, _)] 11 18 p1 (t := 7) ⟨rfl, trivial⟩ rfl (fun hg_1 hk1 => ?_) (fun hg_1 hk1 => ?_) ?_
  · replace hp_1 := cond_t hg_1 hp_1
    refine go_skip rfl rfl rfl hg_1 rfl rfl ?_
    refine go_skip rfl rfl rfl hg_1 rfl rfl ?_
    refine go_skip rfl rfl rfl hg_1 rfl rfl ?_
    refine go_skip rfl rfl rfl hg_1 rfl rfl ?_
    refine go_skip rfl rfl rfl hg_1 rfl rfl ?_
    refine go_skipu rfl rfl rfl rfl rfl ?_
    refine go_skipu rfl rfl rfl rfl rfl ?_
    refine go_skipu rfl rfl rfl rfl rfl ?_
    refine go_skipu rfl rfl rfl rfl rfl ?_
    refine go_skip rfl rfl rfl hg_1 rfl rfl ?_
    refine go_p rfl rfl rfl (o_pickT rfl hg_1 rfl) ?_
    exact go_meet hk1 (congrArg (fun b => some (D.bool b)) (some_eq hp_1)) ⟨rfl, trivial⟩
  · replace hp_1 := cond_f hg_1 hp_1
    refine go_wantp rfl rfl rfl hg_1 rfl rfl (o_move rfl) ?_
    obtain ⟨c1, hx1, hp_1⟩ := bind_some hp_1
    refine go_wantp rfl rfl rfl hg_1 rfl rfl (o_index_m Try.runUnderlying9 rfl rfl hx1) ?_
    obtain ⟨x1, hx2, hp_1⟩ := bind_some hp_1
    refine go_wantp rfl rfl rfl hg_1 rfl rfl (o_call0 Try.call96 rfl (w_syntagmaref03_small hx2)) ?_
    refine go_wantp rfl rfl rfl hg_1 rfl rfl (o_not rfl) ?_
    refine go_wantp rfl rfl rfl hg_1 rfl rfl (o_move rfl) ?_
    obtain ⟨p2, hp_2, hp_1⟩ := bind_some hp_1
    refine go_two [(0, _), (7, _)] 5 17 p2 (t := 12) ⟨rfl, rfl, trivial⟩ rfl (fun hg_2 hk2 => ?_) (fun hg_2 hk2 => ?_) ?_
    · replace hp_2 := cond_t hg_2 hp_2
      refine go_wantp rfl rfl rfl hg_2 rfl rfl (o_move rfl) ?_
      obtain ⟨c2, hx3, hp_2⟩ := bind_some hp_2
      refine go_wantp rfl rfl rfl hg_2 rfl rfl (o_index_m Try.runUnderlying9 rfl rfl hx3) ?_
      obtain ⟨x2, hx4, hp_2⟩ := bind_some hp_2
      refine go_wantp rfl rfl rfl hg_2 rfl rfl (o_call0 Try.call130 rfl (w_syntagmaref03_great hx4)) ?_
      refine go_wantp rfl rfl rfl hg_2 rfl rfl (o_not rfl) ?_
      refine go_wantp rfl rfl rfl hg_1 rfl rfl (o_pickT rfl hg_2 rfl) ?_
      exact go_meet hk2 (congrArg (fun b => some (D.bool b)) (some_eq hp_2)) ⟨rfl, rfl, trivial⟩
    · replace hp_2 := cond_f hg_2 hp_2
      refine go_skip rfl rfl rfl hg_2 rfl rfl ?_
      refine go_skip rfl rfl rfl hg_2 rfl rfl ?_
      refine go_skip rfl rfl rfl hg_2 rfl rfl ?_
      refine go_skip rfl rfl rfl hg_2 rfl rfl ?_
      refine go_wantp rfl rfl rfl hg_1 rfl rfl (o_pickF rfl hg_2 rfl) ?_
      exact go_meet hk2 (congrArg (fun b => some (D.bool b)) (some_eq hp_2)) ⟨rfl, rfl, trivial⟩
    refine go_p rfl rfl rfl (o_pickF rfl hg_1 rfl) ?_
    exact go_meet hk1 (congrArg (fun b => some (D.bool b)) (some_eq hp_1)) ⟨rfl, trivial⟩
  refine go_nil ?_
  refine g_cond rfl (fun hc1 => ?_) (fun hc1 => ?_)
  · replace hm := cond_t hc1 hm
    refine g_seq ?_
    refine g_region ?_
    refine go_p rfl rfl rfl (o_assign rfl) ?_
    refine go_nil ?_
    refine g_ret ?_
    exact retK (ret_one' rfl (ret_tmp rfl) (perm_drop _)) (congrArg (fun (p : Int) => (.i64 p : D)) (some_eq hm))
  · replace hm := cond_f hc1 hm
    refine g_skip ?_
    refine g_seq ?_
    refine g_region ?_
    refine go_p rfl rfl rfl (o_assign rfl) ?_
    refine go_nil ?_
    refine g_seq ?_
    obtain ⟨o_1, hj1, hm1⟩ := bind_some hm
    refine g_cut_m [] [] (fun (st : Int) (hid : Unit) => match st, hid with | n1, _ => [(3, .i64 n1)]) (fun F (st : Int) (hid : Unit) => match st, hid with | n1, _ => []) (fun st => st = o_1) trivial trivial ?_ ?_
    · skip
      refine g_block ?_
      refine g_loop_m [(0, _)] [] (fun (st : Int) (hid : Unit) => match st, hid with | n2, _ => [(3, .i64 n2)]) (fun F (st : Int) (hid : Unit) => match st, hid with | n2, _ => []) () hj1 (fun _ => rfl) ⟨rfl, trivial⟩ trivial ⟨rfl, trivial⟩ rfl ?_
      rintro n n2 _ hj1
      rw [m_syntagmaref03_Word_l1] at hj1
      refine g_norm (L' := [(3, .i64 n2), (0, _)]) (ms' := []) rfl rfl ?_
      refine g_seq ?_
      refine g_seq ?_
      refine g_region ?_
      refine go_p rfl rfl rfl (o_move rfl) ?_
      refine go_p rfl rfl rfl (o_move rfl) ?_
      refine go_p rfl rfl rfl (o_len_str Try.runUnderlying9 rfl) ?_
      refine go_p rfl rfl rfl (o_cmp rfl rfl rfl) ?_
      refine go_p rfl rfl rfl (o_move rfl) ?_
      obtain ⟨p3, hp_3, hj1⟩ := bind_some hj1
      refine go_two [(0, _), (3, _)] 23 46 p3 (t := 23) ⟨rfl, rfl, trivial⟩ rfl (fun hg_3 hk3 => ?_) (fun hg_3 hk3 => ?_) ?_
      · replace hp_3 := cond_t hg_3 hp_3
        refine go_wantp rfl rfl rfl hg_3 rfl rfl (o_move rfl) ?_
        refine go_wantp rfl rfl rfl hg_3 rfl rfl (o_move rfl) ?_
        obtain ⟨c3, hx5, hp_3⟩ := bind_some hp_3
        refine go_wantp rfl rfl rfl hg_3 rfl rfl (o_index_m Try.runUnderlying9 rfl rfl hx5) ?_
        obtain ⟨x3, hx6, hp_3⟩ := bind_some hp_3
        refine go_wantp rfl rfl rfl hg_3 rfl rfl (o_call0 Try.call96 rfl (w_syntagmaref03_small hx6)) ?_
        refine go_wantp rfl rfl rfl hg_3 rfl rfl (o_move rfl) ?_
        obtain ⟨p4, hp_4, hp_3⟩ := bind_some hp_3
        refine go_two [(0, _), (3, _), (23, _)] 5 33 p4 (t := 28) ⟨rfl, rfl, rfl, trivial⟩ rfl (fun hg_4 hk4 => ?_) (fun hg_4 hk4 => ?_) ?_
        · replace hp_4 := cond_t hg_4 hp_4
          refine go_skip rfl rfl rfl hg_4 rfl rfl ?_
          refine go_skip rfl rfl rfl hg_4 rfl rfl ?_
          refine go_skip rfl rfl rfl hg_4 rfl rfl ?_
          refine go_skip rfl rfl rfl hg_4 rfl rfl ?_
          refine go_wantp rfl rfl rfl hg_3 rfl rfl (o_pickT rfl hg_4 rfl) ?_
          exact go_meet hk4 (congrArg (fun b => some (D.bool b)) (some_eq hp_4)) ⟨rfl, rfl, rfl, trivial⟩
        · replace hp_4 := cond_f hg_4 hp_4
          refine go_wantp rfl rfl rfl hg_4 rfl rfl (o_move rfl) ?_
          refine go_wantp rfl rfl rfl hg_4 rfl rfl (o_move rfl) ?_
          obtain ⟨c4, hx7, hp_4⟩ := bind_some hp_4
          refine go_wantp rfl rfl rfl hg_4 rfl rfl (o_index_m Try.runUnderlying9 rfl rfl hx7) ?_
          obtain ⟨x4, hx8, hp_4⟩ := bind_some hp_4
          refine go_wantp rfl rfl rfl hg_4 rfl rfl (o_call0 Try.call130 rfl (w_syntagmaref03_great hx8)) ?_
          refine go_wantp rfl rfl rfl hg_3 rfl rfl (o_pickF rfl hg_4 rfl) ?_
          exact go_meet hk4 (congrArg (fun b => some (D.bool b)) (some_eq hp_4)) ⟨rfl, rfl, rfl, trivial⟩
        refine go_wantp rfl rfl rfl hg_3 rfl rfl (o_move rfl) ?_
        obtain ⟨p5, hp_5, hp_3⟩ := bind_some hp_3
        refine go_two [(0, _), (3, _), (23, _)] 11 45 p5 (t := 34) ⟨rfl, rfl, rfl, trivial⟩ rfl (fun hg_5 hk5 => ?_) (fun hg_5 hk5 => ?_) ?_
        · replace hp_5 := cond_t hg_5 hp_5
          refine go_skip rfl rfl rfl hg_5 rfl rfl ?_
          refine go_skip rfl rfl rfl hg_5 rfl rfl ?_
          refine go_skip rfl rfl rfl hg_5 rfl rfl ?_
          refine go_skip rfl rfl rfl hg_5 rfl rfl ?_
          refine go_skip rfl rfl rfl hg_5 rfl rfl ?_
          refine go_skipu rfl rfl rfl rfl rfl ?_
          refine go_skipu rfl rfl rfl rfl rfl ?_
          refine go_skipu rfl rfl rfl rfl rfl ?_
          refine go_skipu rfl rfl rfl rfl rfl ?_
          refine go_skip rfl rfl rfl hg_5 rfl rfl ?_
          refine go_wantp rfl rfl rfl hg_3 rfl rfl (o_pickT rfl hg_5 rfl) ?_
          exact go_meet hk5 (congrArg (fun b => some (D.bool b)) (some_eq hp_5)) ⟨rfl, rfl, rfl, trivial⟩
        · replace hp_5 := cond_f hg_5 hp_5
          refine go_wantp rfl rfl rfl hg_5 rfl rfl (o_move rfl) ?_
          refine go_wantp rfl rfl rfl hg_5 rfl rfl (o_move rfl) ?_
          obtain ⟨c5, hx9, hp_5⟩ := bind_some hp_5
          refine go_wantp rfl rfl rfl hg_5 rfl rfl (o_index_m Try.runUnderlying9 rfl rfl hx9) ?_
          refine go_wantp rfl rfl rfl hg_5 rfl rfl (o_cmp rfl rfl rfl) ?_
          refine go_wantp rfl rfl rfl hg_5 rfl rfl (o_move rfl) ?_
          obtain ⟨p6, hp_6, hp_5⟩ := bind_some hp_5
          refine go_two [(0, _), (3, _), (23, _), (34, _)] 5 44 p6 (t := 39) ⟨rfl, rfl, rfl, rfl, trivial⟩ rfl (fun hg_6 hk6 => ?_) (fun hg_6 hk6 => ?_) ?_
          · replace hp_6 := cond_t hg_6 hp_6
            refine go_wantp rfl rfl rfl hg_6 rfl rfl (o_move rfl) ?_
            refine go_wantp rfl rfl rfl hg_6 rfl rfl (o_move rfl) ?_
            obtain ⟨c6, hx10, hp_6⟩ := bind_some hp_6
            refine go_wantp rfl rfl rfl hg_6 rfl rfl (o_index_m Try.runUnderlying9 rfl rfl hx10) ?_
            refine go_wantp rfl rfl rfl hg_6 rfl rfl (o_cmp rfl rfl rfl) ?_
            refine go_wantp rfl rfl rfl hg_5 rfl rfl (o_pickT rfl hg_6 rfl) ?_
            exact go_meet hk6 (congrArg (fun b => some (D.bool b)) (some_eq hp_6)) ⟨rfl, rfl, rfl, rfl, trivial⟩
          · replace hp_6 := cond_f hg_6 hp_6
            refine go_skip rfl rfl rfl hg_6 rfl rfl ?_
            refine go_skip rfl rfl rfl hg_6 rfl rfl ?_
            refine go_skip rfl rfl rfl hg_6 rfl rfl ?_
            refine go_skip rfl rfl rfl hg_6 rfl rfl ?_
            refine go_wantp rfl rfl rfl hg_5 rfl rfl (o_pickF rfl hg_6 rfl) ?_
            exact go_meet hk6 (congrArg (fun b => some (D.bool b)) (some_eq hp_6)) ⟨rfl, rfl, rfl, rfl, trivial⟩
          refine go_wantp rfl rfl rfl hg_3 rfl rfl (o_pickF rfl hg_5 rfl) ?_
          exact go_meet hk5 (congrArg (fun b => some (D.bool b)) (some_eq hp_5)) ⟨rfl, rfl, rfl, trivial⟩
        refine go_p rfl rfl rfl (o_pickT rfl hg_3 rfl) ?_
        exact go_meet hk3 (congrArg (fun b => some (D.bool b)) (some_eq hp_3)) ⟨rfl, rfl, trivial⟩
      · replace hp_3 := cond_f hg_3 hp_3
        refine go_skip rfl rfl rfl hg_3 rfl rfl ?_
        refine go_skip rfl rfl rfl hg_3 rfl rfl ?_
        refine go_skip rfl rfl rfl hg_3 rfl rfl ?_
        refine go_skip rfl rfl rfl hg_3 rfl rfl ?_
        refine go_skip rfl rfl rfl hg_3 rfl rfl ?_
        refine go_skipu rfl rfl rfl rfl rfl ?_
        refine go_skipu rfl rfl rfl rfl rfl ?_
        refine go_skipu rfl rfl rfl rfl rfl ?_
        refine go_skipu rfl rfl rfl rfl rfl ?_
        refine go_skip rfl rfl rfl hg_3 rfl rfl ?_
        refine go_skip rfl rfl rfl hg_3 rfl rfl ?_
        refine go_skipu rfl rfl rfl rfl rfl ?_
        refine go_skipu rfl rfl rfl rfl rfl ?_
        refine go_skipu rfl rfl rfl rfl rfl ?_
        refine go_skipu rfl rfl rfl rfl rfl ?_
        refine go_skipu rfl rfl rfl rfl rfl ?_
        refine go_skipu rfl rfl rfl rfl rfl ?_
        refine go_skipu rfl rfl rfl rfl rfl ?_
        refine go_skipu rfl rfl rfl rfl rfl ?_
        refine go_skipu rfl rfl rfl rfl rfl ?_
        refine go_skipu rfl rfl rfl rfl rfl ?_
        refine go_skip rfl rfl rfl hg_3 rfl rfl ?_
        refine go_p rfl rfl rfl (o_pickF rfl hg_3 rfl) ?_
        exact go_meet hk3 (congrArg (fun b => some (D.bool b)) (some_eq hp_3)) ⟨rfl, rfl, trivial⟩
      refine go_nil ?_
      refine g_cond rfl (fun hc2 => ?_) (fun hc2 => ?_)
      · replace hj1 := cond_t hc2 hj1
        refine g_skip ?_
        refine g_block ?_
        refine g_region ?_
        refine go_p rfl rfl rfl (o_move rfl) ?_
        obtain ⟨hg11, hj1⟩ := grd_some hj1
        refine go_p rfl rfl rfl (o_add rfl rfl (i64_id hg11)) ?_
        refine go_p rfl rfl rfl (o_assign rfl) ?_
        refine go_nil ?_
        exact ⟨_, (), hj1, ⟨rfl, trivial⟩, ⟨rfl, trivial⟩, [], rfl⟩
      · replace hj1 := cond_f hc2 hj1
        refine g_exit ?_
        exact ⟨_, (), some_eq hj1, ⟨rfl, trivial⟩, trivial, [], rfl⟩
    · rintro n1 _ hst
      subst hst
      refine k_norm (L' := [(3, .i64 n1)]) (ms' := []) rfl rfl ?_
      refine g_seq ?_
      refine g_region ?_
      refine go_p rfl rfl rfl (o_move rfl) ?_
      refine go_p rfl rfl rfl (o_assign rfl) ?_
      refine go_nil ?_
      refine g_ret ?_
      exact retK (ret_one' rfl (ret_tmp rfl) (perm_drop _)) (congrArg (fun (p : Int) => (.i64 p : D)) (some_eq hm1))
def m_syntagmaref03_In_l1 (s1 : (List UInt8)) (l1 : (List (List UInt8))) : Nat → Int → Option (Out Bool Unit)
  | 0, _ => none
  | n + 1, i1 =>
    bif (decide (i1 < (l1.length : Int))) then
      (idx l1 i1).bind fun x1 =>
      bif (decide ((x1 : List UInt8) = s1)) then
        some (Out.ret true)
      else
        grd (InR (i1 + 1)) <|
        m_syntagmaref03_In_l1 s1 l1 n (i1 + 1)
    else
      some (Out.go (()))
def m_syntagmaref03_In (s1 : (List UInt8)) (l1 : (List (List UInt8))) : Option Bool :=
  ((m_syntagmaref03_In_l1 s1 l1 FU 0 : Option (Out Bool Unit))).bind (fun oo => oo.on (fun r1 => some r1) (fun _ =>
  some false))
theorem w_syntagmaref03_In {s1 : (List UInt8)} {l1 : (List (List UInt8))} {r_1 : Bool} (hm : m_syntagmaref03_In s1 l1 = some r_1) : Fn0 Try.prog 61 [.str s1, .list 1 D.str l1] (.bool r_1) := by
  unfold m_syntagmaref03_In at hm
  refine fn_intro Try.func61 rfl Try.ntmps61 rfl fun H0 fr w0 => ?_
  refine g_seq ?_
  refine g_region ?_
  refine go_p rfl rfl rfl (o_assign rfl) ?_
  refine go_nil ?_
  refine g_seq ?_
  refine g_seq ?_
  refine g_region ?_
  refine go_p rfl rfl rfl (o_assign rfl) ?_
  refine go_nil ?_
  obtain ⟨o_1, hj1, hm1⟩ := bind_some hm
  refine g_cut_m [] [] (fun (st : Unit) (hid : Unit) => match st, hid with | _, _ => []) (fun F (st : Unit) (hid : Unit) => match st, hid with | _, _ => []) (fun st => Out.go (st) = o_1) trivial trivial ?_ ?_
  · skip
    refine g_block ?_
    refine g_loop_m [(0, _), (1, _)] [] (fun (st : Int) (hid : Unit) => match st, hid with | i1, _ => [(5, .i64 i1)]) (fun F (st : Int) (hid : Unit) => match st, hid with | i1, _ => []) () hj1 (fun _ => rfl) ⟨rfl, rfl, trivial⟩ trivial ⟨rfl, trivial⟩ rfl ?_
    rintro n i1 _ hj1
    rw [m_syntagmaref03_In_l1] at hj1
    refine g_norm (L' := [(5, .i64 i1), (0, _), (1, _)]) (ms' := []) rfl rfl ?_
    refine g_seq ?_
    refine g_seq ?_
    refine g_region ?_
    refine go_p rfl rfl rfl (o_move rfl) ?_
    refine go_p rfl rfl rfl (o_move rfl) ?_
    refine go_p rfl rfl rfl (o_len Try.runUnderlying62 rfl) ?_
    refine go_p rfl rfl rfl (o_cmp rfl rfl rfl) ?_
    refine go_nil ?_
    refine g_cond rfl (fun hc1 => ?_) (fun hc1 => ?_)
    · replace hj1 := cond_t hc1 hj1
      refine g_skip ?_
      refine g_seq ?_
      refine g_block ?_
      refine g_seq ?_
      refine g_region ?_
      refine go_p rfl rfl rfl (o_move rfl) ?_
      refine go_p rfl rfl rfl (o_move rfl) ?_
      obtain ⟨x1, hx1, hj1⟩ := bind_some hj1
      refine go_p rfl rfl rfl (o_indexAddr_m Try.runUnderlying62 Try.sizeOf9 rfl rfl hx1) ?_
      refine go_p rfl rfl rfl (o_load Try.isAgg9 rfl rfl) ?_
      refine go_p rfl rfl rfl (o_move rfl) ?_
      refine go_p rfl rfl rfl (o_cmps rfl rfl rfl) ?_
      refine go_nil ?_
      refine g_cond rfl (fun hc2 => ?_) (fun hc2 => ?_)
      · replace hj1 := cond_t hc2 hj1
        refine g_seq ?_
        refine g_region ?_
        refine go_p rfl rfl rfl (o_assign rfl) ?_
        refine go_nil ?_
        refine g_ret ?_
        obtain rfl := some_eq hj1
        replace hm1 := on_ret hm1
        exact retK (ret_one' rfl (ret_tmp rfl) (perm_drop _)) (congrArg (fun (p : Bool) => (.bool p : D)) (some_eq hm1))
      · replace hj1 := cond_f hc2 hj1
        refine g_skip ?_
        refine g_region ?_
        refine go_p rfl rfl rfl (o_move rfl) ?_
        obtain ⟨hg2, hj1⟩ := grd_some hj1
        refine go_p rfl rfl rfl (o_add rfl rfl (i64_id hg2)) ?_
        refine go_p rfl rfl rfl (o_assign rfl) ?_
        refine go_nil ?_
        exact ⟨_, (), hj1, ⟨rfl, trivial⟩, ⟨rfl, rfl, trivial⟩, [], rfl⟩
    · replace hj1 := cond_f hc1 hj1
      refine g_exit ?_
      exact ⟨_, (), some_eq hj1, trivial, trivial, [], rfl⟩
  · rintro _ _ hst
    subst hst
    replace hm1 := on_go hm1
    refine k_norm (L' := []) (ms' := []) rfl rfl ?_
    refine g_seq ?_
    refine g_region ?_
    refine go_p rfl rfl rfl (o_assign rfl) ?_
    refine go_nil ?_
    refine g_ret ?_
    exact retK (ret_one' rfl (ret_tmp rfl) (perm_drop _)) (congrArg (fun (p : Bool) => (.bool p : D)) (some_eq hm1))
def m_syntagmaref03_Keywords  : Option (List (List UInt8)) :=
  some [([102, 117, 110] : List UInt8), ([108, 101, 116] : List UInt8), ([114, 101, 99] : List UInt8), ([105, 110] : List UInt8), ([105, 102] : List UInt8), ([116, 104, 101, 110] : List UInt8), ([101, 108, 115, 101] : List UInt8), ([99, 97, 115, 101] : List UInt8), ([111, 102] : List UInt8), ([101, 110, 100] : List UInt8), ([116, 114, 117, 101] : List UInt8), ([102, 97, 108, 115, 101] : List UInt8), ([99, 104, 101, 99, 107] : List UInt8), ([97, 115, 107] : List UInt8), ([116, 111, 112] : List UInt8), ([98, 111, 116] : List UInt8), ([105, 110, 116] : List UInt8), ([98, 111, 111, 108] : List UInt8), ([115, 116, 114, 105, 110, 103] : List UInt8), ([109, 117] : List UInt8)]
theorem w_syntagmaref03_Keywords  {r_1 : (List (List UInt8))} (hm : m_syntagmaref03_Keywords = some r_1) : Fn0 Try.prog 131 [] (.list 1 D.str r_1) := by
  unfold m_syntagmaref03_Keywords at hm
  refine fn_intro Try.func131 rfl Try.ntmps131 rfl fun H0 fr w0 => ?_
  refine g_seq ?_
  refine g_region ?_
  refine go_p rfl rfl rfl (o_assign rfl) ?_
  refine go_conv (nilE (i := 0) (sz := 1) (f := D.str) rfl).refines ?_
  refine go_nil ?_
  refine g_seq ?_
  refine g_region ?_
  refine go_p rfl rfl rfl (o_buildSlice (xs := [_, _, _, _, _, _, _, _, _, _, _, _, _, _, _, _, _, _, _, _]) (f := D.str) (l := [_, _, _, _, _, _, _, _, _, _, _, _, _, _, _, _, _, _, _, _]) Try.runUnderlying62 Try.sizeOf9 Try.zeroValue9 rfl rfl rfl (fun _ => ⟨rfl, rfl, rfl⟩) rfl) ?_
  refine go_p rfl rfl rfl (o_assign rfl) ?_
  refine go_nil ?_
  refine g_ret ?_
  exact retK (ret_one' rfl (ret_tmp rfl) (perm_drop _)) (congrArg (fun (p : (List (List UInt8))) => (.list 1 D.str p : D)) (some_eq hm))
def m_syntagmaref03_Keyword (s1 : (List UInt8)) : Option Bool :=
  (m_syntagmaref03_Keywords).bind fun x1 =>
  (m_syntagmaref03_In s1 x1).bind fun x2 =>
  some x2
theorem w_syntagmaref03_Keyword {s1 : (List UInt8)} {r_1 : Bool} (hm : m_syntagmaref03_Keyword s1 = some r_1) : Fn0 Try.prog 97 [.str s1] (.bool r_1) := by
  unfold m_syntagmaref03_Keyword at hm
  refine fn_intro Try.func97 rfl Try.ntmps97 rfl fun H0 fr w0 => ?_
  refine g_seq ?_
  refine g_region ?_
  refine go_p rfl rfl rfl (o_assign rfl) ?_
  refine go_nil ?_
  refine g_seq ?_
  refine g_region ?_
  refine go_p rfl rfl rfl (o_move rfl) ?_
  obtain ⟨x1, hx1, hm⟩ := bind_some hm
  refine go_p rfl rfl rfl (o_call0 Try.call131 rfl (w_syntagmaref03_Keywords hx1)) ?_
  obtain ⟨x2, hx2, hm⟩ := bind_some hm
  refine go_p rfl rfl rfl (o_call0 Try.call61 rfl (w_syntagmaref03_In hx2)) ?_
  refine go_p rfl rfl rfl (o_assign rfl) ?_
  refine go_nil ?_
  refine g_ret ?_
  exact retK (ret_one' rfl (ret_tmp rfl) (perm_drop _)) (congrArg (fun (p : Bool) => (.bool p : D)) (some_eq hm))
def m_syntagmaref03_Name (s1 : (List UInt8)) : Option Bool :=
  (bif ((decide (0 < (s1.length : Int))) && (decide ((s1.length : Int) ≤ 20))) then ((m_syntagmaref03_Word s1).bind fun x1 =>
  some (decide (x1 = (s1.length : Int)))) else (some false)).bind fun p1 =>
  (bif p1 then ((idx s1 0).bind fun c1 =>
  (m_syntagmaref03_small c1).bind fun x2 =>
  some x2) else (some false)).bind fun p2 =>
  (bif p2 then ((m_syntagmaref03_Keyword s1).bind fun x3 =>
  some (!x3)) else (some false)).bind fun p3 =>
  some p3
end Go.Proofs.Ytnnjgbcojdnhhaa
