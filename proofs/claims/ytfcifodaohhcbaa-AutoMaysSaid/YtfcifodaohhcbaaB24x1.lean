/- Part B24 of the proof: contracts of the functions that are walked, and what they compute; no condition. -/
import Derived.Test.YtfcifodaohhcbaaV34
import Derived.Test.YtfcifodaohhcbaaProg
set_option linter.unusedVariables false
set_option linter.unusedSimpArgs false
set_option maxRecDepth 100000
set_option maxHeartbeats 2000000
namespace Go.Proofs.Ytfcifodaohhcbaa
open Go.V


theorem Try_mixed : Try.prog.follows .mixedOrders = true := by kernel_rfl
structure AutoEdge where
  name : (List UInt8)
  to_ : Int
def AutoEdge.d (x : AutoEdge) : D := .agg [.str x.name, .i64 x.to_]
structure ApiField where
  name : (List UInt8)
  var : (List UInt8)
  at_ : Int
def ApiField.d (x : ApiField) : D := .agg [.str x.name, .str x.var, .i64 x.at_]
structure AutoState where
  plus : Bool
  all : Bool
  int : Bool
  bool : Bool
  str : Bool
  arrow : Bool
  rec_ : Bool
  tag : Bool
  vars : (List Int)
  dom : Int
  cod : Int
  fields : (List AutoEdge)
  tags : (List AutoEdge)
def AutoState.d (x : AutoState) : D := .agg [.bool x.plus, .bool x.all, .bool x.int, .bool x.bool, .bool x.str, .bool x.arrow, .bool x.rec_, .bool x.tag, .list 1 D.i64 x.vars, .i64 x.dom, .i64 x.cod, .list 2 AutoEdge.d x.fields, .list 2 AutoEdge.d x.tags]
structure AutoAuto where
  l : (List AutoState)
  start : Int
def AutoAuto.d (x : AutoAuto) : D := .agg [.list 13 AutoState.d x.l, .i64 x.start]
theorem w_Clone_102 {l : List Int} (hl : l.length * 8 ≤ 140737488355328) :
    Go.V.Fn Try.prog 102 [.list 1 D.i64 l] [] (fun d ms' => ∃ a cap, d = .v (.slice a l.length cap) ∧ ms' = [arr a l.length cap 3 1 D.i64 l]) := by
  refine fn_intro Try.func102 rfl Try.ntmps102 rfl fun H0 fr w0 => ?_
  refine g_seq ?_
  refine g_region ?_
  refine go_p rfl rfl rfl (o_assign rfl) ?_
  refine go_nil ?_
  refine g_seq ?_
  refine g_seq ?_
  refine g_region ?_
  refine go_p rfl rfl rfl (o_move rfl) ?_
  refine go_op rfl rfl rfl (o_eqnil_slice Try.underlying47 rfl rfl) ?_
  rintro _ _ ⟨b, rfl, rfl, hb⟩
  refine go_nil ?_
  refine g_cond rfl (fun hc1 => ?_) (fun hc1 => ?_)
  · -- 1T
    skip
    obtain rfl := hb hc1
    refine g_conv (refines_newarr (T := 3) (sz := 1) (f := D.i64)) ?_
    refine g_seq ?_
    refine g_region ?_
    refine go_p rfl rfl rfl (o_assign rfl) ?_
    refine go_nil ?_
    refine g_ret ?_
    exact retK (ret_one' rfl (ret_tmp rfl) (perm_none _)) (⟨none, 0, rfl, rfl⟩) -- ret1 1T.
  · -- 1F
    skip
    refine g_skip ?_
    refine g_seq ?_
    refine g_region ?_
    refine go_op rfl rfl rfl (o_buildSlice_row (xs := []) (f := D.i64) (l := []) Try.runUnderlying47 Try.sizeOf3 Try.zeroValue3 rfl rfl rfl (fun _ => ⟨rfl, rfl, rfl⟩) rfl (by simp [maxLen])) ?_
    rintro _ _ ⟨a1, rfl, rfl⟩
    refine go_p rfl rfl rfl (o_move rfl) ?_
    refine go_op rfl rfl rfl (o_append_arr (a := _) 0 Try.underlying47 Try.type3 rfl rfl rfl rfl rfl rfl rfl rfl hl (app_len hl rfl)) ?_
    rintro _ _ ⟨a2, cap2, rfl, rfl⟩
    refine go_p rfl rfl rfl (o_assign rfl) ?_
    refine go_nil ?_
    refine g_ret ?_
    exact retK (ret_one' rfl (ret_tmp rfl) (perm_none _)) (⟨_, _, rfl, rfl⟩) -- ret2 1F.

theorem w_Grow_117 {n : Int} (h0 : 0 ≤ n) (hb : n.toNat * 8 ≤ 140737488355328) :
    Go.V.Fn Try.prog 117 [.v (.slice none 0 0), .i64 n] [] (fun d ms' => ∃ a cap, d = .v (.slice a 0 cap) ∧ ms' = [row a cap 3 1 D.i64 []]) := by
  refine fn_intro Try.func117 rfl Try.ntmps117 rfl fun H0 fr w0 => ?_
  refine g_seq ?_
  refine g_region ?_
  refine go_p rfl rfl rfl (o_assign rfl) ?_
  refine go_nil ?_
  refine g_seq ?_
  refine g_seq ?_
  refine g_region ?_
  refine go_p rfl rfl rfl (o_move rfl) ?_
  refine go_p rfl rfl rfl (o_cmp rfl rfl rfl) ?_
  refine go_nil ?_
  refine g_cond rfl (fun hc1 => ?_) (fun hc1 => ?_)
  · -- 1T
    try simp only [decide_eq_true_eq, decide_eq_false_iff_not, Bool.not_eq_true', Bool.not_eq_false', Bool.and_eq_true, Bool.or_eq_true, Bool.and_eq_false_iff, Bool.or_eq_false_iff, Int.not_lt, Int.not_le, ne_eq, Decidable.not_not] at hc1
    omega
  · -- 1F
    try simp only [decide_eq_true_eq, decide_eq_false_iff_not, Bool.not_eq_true', Bool.not_eq_false', Bool.and_eq_true, Bool.or_eq_true, Bool.and_eq_false_iff, Bool.or_eq_false_iff, Int.not_lt, Int.not_le, ne_eq, Decidable.not_not] at hc1
    refine g_skip ?_
    refine g_seq ?_
    refine g_seq ?_
    refine g_region ?_
    refine go_p rfl rfl rfl (o_move rfl) ?_
    refine go_p rfl rfl rfl (o_move rfl) ?_
    refine go_p rfl rfl rfl (o_cap_raw Try.runUnderlying47 rfl) ?_
    refine go_p rfl rfl rfl (o_move rfl) ?_
    refine go_p rfl rfl rfl (o_len_raw Try.runUnderlying47 rfl) ?_
    refine go_p rfl rfl rfl (o_sub rfl rfl (i64_id (by omega))) ?_
    refine go_p rfl rfl rfl (o_sub rfl rfl (i64_id (by omega))) ?_
    refine go_p rfl rfl rfl (o_assign rfl) ?_
    refine go_nil ?_
    refine g_seq ?_
    refine g_region ?_
    refine go_p rfl rfl rfl (o_move rfl) ?_
    refine go_p rfl rfl rfl (o_cmp rfl rfl rfl) ?_
    refine go_nil ?_
    refine g_cond rfl (fun hc2 => ?_) (fun hc2 => ?_)
    · -- 1F.2T
      try simp only [decide_eq_true_eq, decide_eq_false_iff_not, Bool.not_eq_true', Bool.not_eq_false', Bool.and_eq_true, Bool.or_eq_true, Bool.and_eq_false_iff, Bool.or_eq_false_iff, Int.not_lt, Int.not_le, ne_eq, Decidable.not_not] at hc2
      have hn2 : n.toNat ≤ 140737488355328 := Nat.le_trans (Nat.le_mul_of_pos_right _ (by decide)) hb
      refine g_region ?_
      refine go_p rfl rfl rfl (o_move rfl) ?_
      refine go_p rfl rfl rfl (o_move rfl) ?_
      refine go_p rfl rfl rfl (o_cap_raw Try.runUnderlying47 rfl) ?_
      refine go_p rfl rfl rfl (o_slice_raw Try.runUnderlying47 Try.sizeOf3 rfl rfl (Nat.le_refl _) (Nat.le_refl _)) ?_
      refine go_p rfl rfl rfl (o_move rfl) ?_
      refine go_op rfl rfl rfl (o_append_zeros_i (f := D.i64) Try.underlying47 Try.underlying3 Try.type3 rfl rfl rfl rfl rfl rfl (by omega) (by simpa [Try.t3] using hb) rfl) ?_
      rintro _ _ ⟨a, cap, hcap, rfl, rfl⟩
      refine go_p rfl rfl rfl (o_move rfl) ?_
      refine go_p rfl rfl rfl (o_len_raw Try.runUnderlying47 rfl) ?_
      refine go_p rfl rfl rfl (o_slice_raw Try.runUnderlying47 Try.sizeOf3 rfl rfl (Nat.zero_le _) (hcap)) ?_
      refine go_p rfl rfl rfl (o_assign rfl) ?_
      refine go_nil ?_
      refine g_seq ?_
      refine g_region ?_
      refine go_p rfl rfl rfl (o_move rfl) ?_
      refine go_p rfl rfl rfl (o_assign rfl) ?_
      refine go_nil ?_
      refine g_ret ?_
      exact retK (ret_one' rfl (ret_tmp rfl) (perm_none _)) (⟨_, _, rfl, rfl⟩) -- ret1 1F.2T.
    · -- 1F.2F
      try simp only [decide_eq_true_eq, decide_eq_false_iff_not, Bool.not_eq_true', Bool.not_eq_false', Bool.and_eq_true, Bool.or_eq_true, Bool.and_eq_false_iff, Bool.or_eq_false_iff, Int.not_lt, Int.not_le, ne_eq, Decidable.not_not] at hc2
      refine g_conv (refines_newrow (T := 3) (sz := 1) (f := D.i64)) ?_
      refine g_skip ?_
      refine g_seq ?_
      refine g_region ?_
      refine go_p rfl rfl rfl (o_move rfl) ?_
      refine go_p rfl rfl rfl (o_assign rfl) ?_
      refine go_nil ?_
      refine g_ret ?_
      exact retK (ret_one' rfl (ret_tmp rfl) (perm_none _)) (⟨none, 0, rfl, rfl⟩) -- ret2 1F.2F.

theorem w_Clone_148 {l : List AutoEdge} (hl : l.length * 24 ≤ 140737488355328) :
    Go.V.Fn Try.prog 148 [.list 2 AutoEdge.d l] [] (fun d ms' => ∃ a cap, d = .v (.slice a l.length cap) ∧ ms' = [arr a l.length cap 145 2 AutoEdge.d l]) := by
  refine fn_intro Try.func148 rfl Try.ntmps148 rfl fun H0 fr w0 => ?_
  refine g_seq ?_
  refine g_region ?_
  refine go_p rfl rfl rfl (o_assign rfl) ?_
  refine go_nil ?_
  refine g_seq ?_
  refine g_seq ?_
  refine g_region ?_
  refine go_p rfl rfl rfl (o_move rfl) ?_
  refine go_op rfl rfl rfl (o_eqnil_slice Try.underlying87 rfl rfl) ?_
  rintro _ _ ⟨b, rfl, rfl, hb⟩
  refine go_nil ?_
  refine g_cond rfl (fun hc1 => ?_) (fun hc1 => ?_)
  · -- 1T
    skip
    obtain rfl := hb hc1
    refine g_conv (refines_newarr (T := 145) (sz := 2) (f := AutoEdge.d)) ?_
    refine g_seq ?_
    refine g_region ?_
    refine go_p rfl rfl rfl (o_assign rfl) ?_
    refine go_nil ?_
    refine g_ret ?_
    exact retK (ret_one' rfl (ret_tmp rfl) (perm_none _)) (⟨none, 0, rfl, rfl⟩) -- ret1 1T.
  · -- 1F
    skip
    refine g_skip ?_
    refine g_seq ?_
    refine g_region ?_
    refine go_op rfl rfl rfl (o_buildSlice_row (xs := []) (f := AutoEdge.d) (l := []) Try.runUnderlying87 Try.sizeOf145 Try.zeroValue145 rfl rfl rfl (fun _ => ⟨rfl, rfl, rfl⟩) rfl (by simp [maxLen])) ?_
    rintro _ _ ⟨a1, rfl, rfl⟩
    refine go_p rfl rfl rfl (o_move rfl) ?_
    refine go_op rfl rfl rfl (o_append_arr (a := _) 0 Try.underlying87 Try.type145 rfl rfl rfl rfl rfl rfl rfl rfl hl (app_len hl rfl)) ?_
    rintro _ _ ⟨a2, cap2, rfl, rfl⟩
    refine go_p rfl rfl rfl (o_assign rfl) ?_
    refine go_nil ?_
    refine g_ret ?_
    exact retK (ret_one' rfl (ret_tmp rfl) (perm_none _)) (⟨_, _, rfl, rfl⟩) -- ret2 1F.

theorem w_Clone_174 {l : List ApiField} (hl : l.length * 40 ≤ 140737488355328) :
    Go.V.Fn Try.prog 174 [.list 3 ApiField.d l] [] (fun d ms' => ∃ a cap, d = .v (.slice a l.length cap) ∧ ms' = [arr a l.length cap 174 3 ApiField.d l]) := by
  refine fn_intro Try.func174 rfl Try.ntmps174 rfl fun H0 fr w0 => ?_
  refine g_seq ?_
  refine g_region ?_
  refine go_p rfl rfl rfl (o_assign rfl) ?_
  refine go_nil ?_
  refine g_seq ?_
  refine g_seq ?_
  refine g_region ?_
  refine go_p rfl rfl rfl (o_move rfl) ?_
  refine go_op rfl rfl rfl (o_eqnil_slice Try.underlying109 rfl rfl) ?_
  rintro _ _ ⟨b, rfl, rfl, hb⟩
  refine go_nil ?_
  refine g_cond rfl (fun hc1 => ?_) (fun hc1 => ?_)
  · -- 1T
    skip
    obtain rfl := hb hc1
    refine g_conv (refines_newarr (T := 174) (sz := 3) (f := ApiField.d)) ?_
    refine g_seq ?_
    refine g_region ?_
    refine go_p rfl rfl rfl (o_assign rfl) ?_
    refine go_nil ?_
    refine g_ret ?_
    exact retK (ret_one' rfl (ret_tmp rfl) (perm_none _)) (⟨none, 0, rfl, rfl⟩) -- ret1 1T.
  · -- 1F
    skip
    refine g_skip ?_
    refine g_seq ?_
    refine g_region ?_
    refine go_op rfl rfl rfl (o_buildSlice_row (xs := []) (f := ApiField.d) (l := []) Try.runUnderlying109 Try.sizeOf174 Try.zeroValue174 rfl rfl rfl (fun _ => ⟨rfl, rfl, rfl⟩) rfl (by simp [maxLen])) ?_
    rintro _ _ ⟨a1, rfl, rfl⟩
    refine go_p rfl rfl rfl (o_move rfl) ?_
    refine go_op rfl rfl rfl (o_append_arr (a := _) 0 Try.underlying109 Try.type174 rfl rfl rfl rfl rfl rfl rfl rfl hl (app_len hl rfl)) ?_
    rintro _ _ ⟨a2, cap2, rfl, rfl⟩
    refine go_p rfl rfl rfl (o_assign rfl) ?_
    refine go_nil ?_
    refine g_ret ?_
    exact retK (ret_one' rfl (ret_tmp rfl) (perm_none _)) (⟨_, _, rfl, rfl⟩) -- ret2 1F.

def m_slices_Concat_int_int_l1 (slices1 : (List (List Int))) : Nat → (Int × Int) → Option Int
  | 0, _ => none
  | n + 1, (size2, x1) =>
    bif (decide (x1 < (slices1.length : Int))) then
      (idx slices1 x1).bind fun x2 =>
      grd (InR (size2 + (x2.length : Int))) <|
      bif (decide ((size2 + (x2.length : Int)) < 0)) then
        none
      else
        grd (InR (x1 + 1)) <|
        m_slices_Concat_int_int_l1 slices1 n ((size2 + (x2.length : Int)), (x1 + 1))
    else
      some size2

def m_slices_Concat_int_int_l2 (slices1 : (List (List Int))) : Nat → (Int × (List Int)) → Option (List Int)
  | 0, _ => none
  | n + 1, (x3, l2) =>
    bif (decide (x3 < (slices1.length : Int))) then
      (idx slices1 x3).bind fun x4 =>
      grd ((l2.length + x4.length) * 8 ≤ 140737488355328) <|
      grd (InR (x3 + 1)) <|
      m_slices_Concat_int_int_l2 slices1 n ((x3 + 1), (l2 ++ x4))
    else
      some l2
def m_slices_Concat_int_int (slices1 : (List (List Int))) : Option (List Int) :=
  (m_slices_Concat_int_int_l1 slices1 FU (0, 0) : Option Int).bind fun size1 =>
  grd (0 ≤ size1) <|
  grd ((size1).toNat * 8 ≤ 140737488355328) <|
  (m_slices_Concat_int_int_l2 slices1 FU (0, ([] : List Int)) : Option (List Int)).bind fun l1 =>
  some l1
theorem w_slices_Concat_int_int {slices1 : (List (List Int))} {r : (List Int)} (hm : m_slices_Concat_int_int slices1 = some r) : Fn0 Try.prog 85 [.list 1 (D.list 1 D.i64) slices1] (.list 1 D.i64 r) := by
  unfold m_slices_Concat_int_int at hm
  refine fn_intro Try.func85 rfl Try.ntmps85 rfl fun H0 fr w0 => ?_
  refine g_seq ?_
  refine g_region ?_
  refine go_p rfl rfl rfl (o_assign rfl) ?_
  refine go_conv (nilE (i := 2) (sz := 1) (f := D.i64) rfl).refines ?_
  refine go_nil ?_
  refine g_seq ?_
  refine g_region ?_
  refine go_p rfl rfl rfl (o_assign rfl) ?_
  refine go_nil ?_
  refine g_seq ?_
  refine g_seq ?_
  refine g_region ?_
  refine go_p rfl rfl rfl (o_move rfl) ?_
  refine go_p rfl rfl rfl (o_len Try.runUnderlying186 rfl) ?_
  refine go_p rfl rfl rfl (o_move rfl) ?_
  refine go_nil ?_
  obtain ⟨o_1, hj1, hm1⟩ := bind_some hm
  refine g_cut_m [(0, _)] [] (fun (st : Int) (hid : Unit) => match st, hid with | size1, _ => [(3, .i64 size1)]) (fun F (st : Int) (hid : Unit) => match st, hid with | size1, _ => []) (fun st => st = o_1) ⟨rfl, trivial⟩ trivial ?_ ?_
  · skip
    refine g_block ?_
    refine g_loop_m [(0, _), (9, _), (10, _)] [] (fun (st : (Int × Int)) (hid : Unit) => match st, hid with | (size2, x1), _ => [(3, .i64 size2), (11, .i64 x1)]) (fun F (st : (Int × Int)) (hid : Unit) => match st, hid with | (size2, x1), _ => []) () hj1 (fun _ => rfl) ⟨rfl, rfl, rfl, trivial⟩ trivial ⟨rfl, rfl, trivial⟩ rfl ?_
    rintro n ⟨size2, x1⟩ _ hj1
    rw [m_slices_Concat_int_int_l1] at hj1
    refine g_norm (L' := [(3, .i64 size2), (11, .i64 x1), (0, _), (9, _), (10, _)]) (ms' := []) rfl rfl ?_
    refine g_seq ?_
    refine g_region ?_
    refine go_p rfl rfl rfl (o_cmp rfl rfl rfl) ?_
    refine go_nil ?_
    refine g_seq ?_
    refine g_cond rfl (fun hc1 => ?_) (fun hc1 => ?_)
    · replace hj1 := cond_t hc1 hj1
      refine g_skip ?_
      refine g_seq ?_
      refine g_block ?_
      refine g_seq ?_
      refine g_region ?_
      obtain ⟨x2, hx1, hj1⟩ := bind_some hj1
      refine go_p rfl rfl rfl (o_indexAddr_m Try.runUnderlying186 Try.sizeOf47 rfl rfl hx1) ?_
      refine go_p rfl rfl rfl (o_load Try.isAgg47 rfl rfl) ?_
      refine go_p rfl rfl rfl (o_assign rfl) ?_
      refine go_nil ?_
      refine g_seq ?_
      refine g_region ?_
      refine go_p rfl rfl rfl (o_move rfl) ?_
      refine go_p rfl rfl rfl (o_move rfl) ?_
      refine go_p rfl rfl rfl (o_len Try.runUnderlying47 rfl) ?_
      obtain ⟨hg2, hj1⟩ := grd_some hj1
      refine go_p rfl rfl rfl (o_add rfl rfl (i64_id hg2)) ?_
      refine go_p rfl rfl rfl (o_assign rfl) ?_
      refine go_nil ?_
      refine g_seq ?_
      refine g_region ?_
      refine go_p rfl rfl rfl (o_move rfl) ?_
      refine go_p rfl rfl rfl (o_cmp rfl rfl rfl) ?_
      refine go_nil ?_
      refine g_cond rfl (fun hc2 => ?_) (fun hc2 => ?_)
      · replace hj1 := cond_t hc2 hj1
        cases hj1
      · replace hj1 := cond_f hc2 hj1
        refine g_skip ?_
        refine g_region ?_
        obtain ⟨hg3, hj1⟩ := grd_some hj1
        refine go_p rfl rfl rfl (o_add rfl rfl (i64_id hg3)) ?_
        refine go_p rfl rfl rfl (o_move rfl) ?_
        refine go_nil ?_
        exact ⟨_, (), hj1, ⟨rfl, rfl, trivial⟩, ⟨rfl, rfl, rfl, trivial⟩, [], rfl⟩
    · replace hj1 := cond_f hc1 hj1
      refine g_exit ?_
      exact ⟨_, (), some_eq hj1, ⟨rfl, trivial⟩, ⟨rfl, trivial⟩, [], rfl⟩
  · rintro size1 _ hst
    subst hst
    refine k_norm (L' := [(3, .i64 size1), (0, _)]) (ms' := []) rfl rfl ?_
    refine g_seq ?_
    refine g_region ?_
    refine go_p rfl rfl rfl (o_move rfl) ?_
    obtain ⟨hg4, hm1⟩ := grd_some hm1
    obtain ⟨hg5, hm1⟩ := grd_some hm1
    refine go_op rfl rfl rfl (o_call (ms₁ := []) Try.call117 rfl (List.Perm.refl _) (w_Grow_117 hg4 hg5)) ?_
    rintro _ _ ⟨_, ⟨a_r1, cap_r1, rfl, rfl⟩, rfl⟩
    refine go_p rfl rfl rfl (o_assign rfl) ?_
    refine go_nil ?_
    refine g_seq ?_
    refine g_seq ?_
    refine g_region ?_
    refine go_p rfl rfl rfl (o_move rfl) ?_
    refine go_p rfl rfl rfl (o_len Try.runUnderlying186 rfl) ?_
    refine go_p rfl rfl rfl (o_move rfl) ?_
    refine go_nil ?_
    obtain ⟨o_2, hj2, hm2⟩ := bind_some hm1
    refine g_cut_m [] [] (fun (st : (List Int)) (hid : (Option Addr × Nat)) => match st, hid with | l1, (a_r1, cap_r1) => [(6, .v (.slice a_r1 l1.length cap_r1))]) (fun F (st : (List Int)) (hid : (Option Addr × Nat)) => match st, hid with | l1, (a_r1, cap_r1) => [row a_r1 cap_r1 3 1 D.i64 l1]) (fun st => st = o_2) trivial trivial ?_ ?_
    · skip
      refine g_block ?_
      refine g_loop_m [(25, _), (26, _)] [] (fun (st : (Int × (List Int))) (hid : (Option Addr × Nat)) => match st, hid with | (x3, l2), (a_r1, cap_r1) => [(6, .v (.slice a_r1 l2.length cap_r1)), (27, .i64 x3)]) (fun F (st : (Int × (List Int))) (hid : (Option Addr × Nat)) => match st, hid with | (x3, l2), (a_r1, cap_r1) => [row a_r1 cap_r1 3 1 D.i64 l2]) (_, _) hj2 (fun _ => rfl) ⟨rfl, rfl, trivial⟩ trivial ⟨rfl, rfl, trivial⟩ rfl ?_
      rintro n ⟨x3, l2⟩ ⟨a_r1, cap_r1⟩ hj2
      rw [m_slices_Concat_int_int_l2] at hj2
      refine g_norm (L' := [(6, .v (.slice a_r1 l2.length cap_r1)), (27, .i64 x3), (25, _), (26, _)]) (ms' := [row a_r1 cap_r1 3 1 D.i64 l2]) rfl rfl ?_
      refine g_seq ?_
      refine g_region ?_
      refine go_p rfl rfl rfl (o_cmp rfl rfl rfl) ?_
      refine go_nil ?_
      refine g_seq ?_
      refine g_cond rfl (fun hc3 => ?_) (fun hc3 => ?_)
      · replace hj2 := cond_t hc3 hj2
        refine g_skip ?_
        refine g_seq ?_
        refine g_block ?_
        refine g_seq ?_
        refine g_region ?_
        obtain ⟨x4, hx6, hj2⟩ := bind_some hj2
        refine go_p rfl rfl rfl (o_indexAddr_m Try.runUnderlying186 Try.sizeOf47 rfl rfl hx6) ?_
        refine go_p rfl rfl rfl (o_load Try.isAgg47 rfl rfl) ?_
        refine go_p rfl rfl rfl (o_assign rfl) ?_
        refine go_nil ?_
        refine g_region ?_
        refine go_p rfl rfl rfl (o_move rfl) ?_
        refine go_p rfl rfl rfl (o_move rfl) ?_
        obtain ⟨hg7, hj2⟩ := grd_some hj2
        refine go_op rfl rfl rfl (o_append (a := _) 0 Try.underlying47 Try.type3 rfl rfl rfl rfl rfl rfl rfl (fun _ => rfl) (fun _ => rfl) hg7 (app_len hg7 rfl)) ?_
        rintro _ _ ⟨a_r1, cap_r1, rfl, rfl⟩
        refine go_ms (ms' := [_]) rfl ?_
        refine go_p rfl rfl rfl (o_assign rfl) ?_
        refine go_nil ?_
        refine g_region ?_
        obtain ⟨hg8, hj2⟩ := grd_some hj2
        refine go_p rfl rfl rfl (o_add rfl rfl (i64_id hg8)) ?_
        refine go_p rfl rfl rfl (o_move rfl) ?_
        refine go_nil ?_
        exact ⟨_, (_, _), hj2, ⟨rfl, rfl, trivial⟩, ⟨rfl, rfl, trivial⟩, [], rfl⟩
      · replace hj2 := cond_f hc3 hj2
        refine g_exit ?_
        exact ⟨_, (_, _), some_eq hj2, ⟨rfl, trivial⟩, trivial, [], rfl⟩
    · rintro l1 ⟨a_r1, cap_r1⟩ hst
      subst hst
      refine k_norm (L' := [(6, .v (.slice a_r1 l1.length cap_r1))]) (ms' := [row a_r1 cap_r1 3 1 D.i64 l1]) rfl rfl ?_
      refine g_seq ?_
      refine g_region ?_
      refine go_p rfl rfl rfl (o_move rfl) ?_
      refine go_p rfl rfl rfl (o_assign rfl) ?_
      refine go_nil ?_
      refine g_conv (peekE (i := 2) 0 rfl rfl rfl).refines ?_
      refine g_ret ?_
      exact retK (ret_one' rfl (ret_tmp rfl) (perm_drop _)) (congrArg (fun (p : (List Int)) => (.list 1 D.i64 p : D)) (some_eq hm2))

theorem fi_145_1 : FieldIs Try.prog 145 1 1 1 false := ⟨⟨_, _, Try.runUnderlying145, rfl, rfl, Try.sizeOf3, by decide, Try.isAgg3⟩⟩
def m_auto_tos_l1 (l1 : (List AutoEdge)) : Nat → (Int × (List Int)) → Option (List Int)
  | 0, _ => none
  | n + 1, (x1, l3) =>
    bif (decide (x1 < (l1.length : Int))) then
      (idx l1 x1).bind fun x2 =>
      grd ((l3.length + ([x2.to_] : List _).length) * 8 ≤ 140737488355328) <|
      grd (InR (x1 + 1)) <|
      m_auto_tos_l1 l1 n ((x1 + 1), (l3 ++ [x2.to_]))
    else
      some l3
def m_auto_tos (l1 : (List AutoEdge)) : Option (List Int) :=
  (m_auto_tos_l1 l1 FU (0, []) : Option (List Int)).bind fun l2 =>
  some l2
theorem w_auto_tos {l1 : (List AutoEdge)} {r : (List Int)} (hm : m_auto_tos l1 = some r) : Fn0 Try.prog 86 [.list 2 AutoEdge.d l1] (.list 1 D.i64 r) := by
  unfold m_auto_tos at hm
  refine fn_intro Try.func86 rfl Try.ntmps86 rfl fun H0 fr w0 => ?_
  refine g_seq ?_
  refine g_region ?_
  refine go_p rfl rfl rfl (o_assign rfl) ?_
  refine go_conv (nilE (i := 2) (sz := 1) (f := D.i64) rfl).refines ?_
  refine go_nil ?_
  refine g_seq ?_
  refine g_region ?_
  refine go_p rfl rfl rfl (o_assign rfl) ?_
  refine go_conv (refines_newrow (T := 3) (sz := 1) (f := D.i64)) ?_
  refine go_nil ?_
  refine g_seq ?_
  refine g_seq ?_
  refine g_region ?_
  refine go_p rfl rfl rfl (o_move rfl) ?_
  refine go_p rfl rfl rfl (o_len Try.runUnderlying87 rfl) ?_
  refine go_p rfl rfl rfl (o_move rfl) ?_
  refine go_nil ?_
  obtain ⟨o_1, hj1, hm1⟩ := bind_some hm
  refine g_cut_m [] [] (fun (st : (List Int)) (hid : (Option Addr × Nat)) => match st, hid with | l2, (a_r1, cap_r1) => [(3, .v (.slice a_r1 l2.length cap_r1))]) (fun F (st : (List Int)) (hid : (Option Addr × Nat)) => match st, hid with | l2, (a_r1, cap_r1) => [row a_r1 cap_r1 3 1 D.i64 l2]) (fun st => st = o_1) trivial trivial ?_ ?_
  · skip
    refine g_block ?_
    refine g_loop_m [(6, _), (7, _)] [] (fun (st : (Int × (List Int))) (hid : (Option Addr × Nat)) => match st, hid with | (x1, l3), (a_r1, cap_r1) => [(3, .v (.slice a_r1 l3.length cap_r1)), (8, .i64 x1)]) (fun F (st : (Int × (List Int))) (hid : (Option Addr × Nat)) => match st, hid with | (x1, l3), (a_r1, cap_r1) => [row a_r1 cap_r1 3 1 D.i64 l3]) (_, _) hj1 (fun _ => rfl) ⟨rfl, rfl, trivial⟩ trivial ⟨rfl, rfl, trivial⟩ rfl ?_
    rintro n ⟨x1, l3⟩ ⟨a_r1, cap_r1⟩ hj1
    rw [m_auto_tos_l1] at hj1
    refine g_norm (L' := [(3, .v (.slice a_r1 l3.length cap_r1)), (8, .i64 x1), (6, _), (7, _)]) (ms' := [row a_r1 cap_r1 3 1 D.i64 l3]) rfl rfl ?_
    refine g_seq ?_
    refine g_region ?_
    refine go_p rfl rfl rfl (o_cmp rfl rfl rfl) ?_
    refine go_nil ?_
    refine g_seq ?_
    refine g_cond rfl (fun hc1 => ?_) (fun hc1 => ?_)
    · replace hj1 := cond_t hc1 hj1
      refine g_skip ?_
      refine g_seq ?_
      refine g_block ?_
      refine g_seq ?_
      refine g_region ?_
      obtain ⟨x2, hx1, hj1⟩ := bind_some hj1
      refine go_p rfl rfl rfl (o_indexAddr_m Try.runUnderlying87 Try.sizeOf145 rfl rfl hx1) ?_
      refine go_p rfl rfl rfl (o_load_agg Try.isAgg145 Try.sizeOf145 rfl rfl) ?_
      refine go_op rfl rfl rfl (o_alloc_own Try.zeroValue145 (cs := [.str ([] : List UInt8), .i64 0]) rfl) ?_
      rintro _ _ ⟨b1, rfl, rfl⟩
      refine go_u rfl rfl (o_store_box 0 Try.sizeOf145 rfl rfl rfl rfl rfl rfl rfl rfl (Nat.le_of_ble_eq_true rfl)) ?_
      rintro _ _ rfl
      refine go_ms (ms' := [box b1 145 [_, _], _]) rfl ?_
      refine go_nil ?_
      refine g_region ?_
      refine go_p rfl rfl rfl (o_move rfl) ?_
      refine go_p rfl rfl rfl (o_fieldAddr_box fi_145_1 rfl) ?_
      refine go_p rfl rfl rfl (o_load_box 0 Try.isAgg3 rfl rfl rfl rfl) ?_
      refine go_p rfl rfl rfl (o_buildSlice (xs := [_]) (f := D.i64) (l := [_]) Try.runUnderlying47 Try.sizeOf3 Try.zeroValue3 rfl rfl rfl (fun _ => ⟨rfl, rfl, rfl⟩) rfl) ?_
      obtain ⟨hg2, hj1⟩ := grd_some hj1
      refine go_op rfl rfl rfl (o_append (a := _) 1 Try.underlying47 Try.type3 rfl rfl rfl rfl rfl rfl rfl (fun _ => rfl) (fun _ => rfl) hg2 (app_len hg2 rfl)) ?_
      rintro _ _ ⟨a_r1, cap_r1, rfl, rfl⟩
      refine go_ms (ms' := [box b1 145 [_, _], _]) rfl ?_
      refine go_p rfl rfl rfl (o_assign rfl) ?_
      refine go_nil ?_
      refine g_region ?_
      obtain ⟨hg3, hj1⟩ := grd_some hj1
      refine go_p rfl rfl rfl (o_add rfl rfl (i64_id hg3)) ?_
      refine go_p rfl rfl rfl (o_move rfl) ?_
      refine go_nil ?_
      exact ⟨_, (_, _), hj1, ⟨rfl, rfl, trivial⟩, ⟨rfl, rfl, trivial⟩, [_], rfl⟩
    · replace hj1 := cond_f hc1 hj1
      refine g_exit ?_
      exact ⟨_, (_, _), some_eq hj1, ⟨rfl, trivial⟩, trivial, [], rfl⟩
  · rintro l2 ⟨a_r1, cap_r1⟩ hst
    subst hst
    refine k_norm (L' := [(3, .v (.slice a_r1 l2.length cap_r1))]) (ms' := [row a_r1 cap_r1 3 1 D.i64 l2]) rfl rfl ?_
    refine g_seq ?_
    refine g_region ?_
    refine go_p rfl rfl rfl (o_move rfl) ?_
    refine go_p rfl rfl rfl (o_assign rfl) ?_
    refine go_nil ?_
    refine g_conv (peekE (i := 2) 0 rfl rfl rfl).refines ?_
    refine g_ret ?_
    exact retK (ret_one' rfl (ret_tmp rfl) (perm_drop _)) (congrArg (fun (p : (List Int)) => (.list 1 D.i64 p : D)) (some_eq hm1))

theorem fi_89_5 : FieldIs Try.prog 89 5 5 1 false := ⟨⟨_, _, Try.runUnderlying89, rfl, rfl, Try.sizeOf4, by decide, Try.isAgg4⟩⟩
theorem fi_89_9 : FieldIs Try.prog 89 9 9 1 false := ⟨⟨_, _, Try.runUnderlying89, rfl, rfl, Try.sizeOf3, by decide, Try.isAgg3⟩⟩
theorem fi_89_10 : FieldIs Try.prog 89 10 10 1 false := ⟨⟨_, _, Try.runUnderlying89, rfl, rfl, Try.sizeOf3, by decide, Try.isAgg3⟩⟩
theorem fi_89_11 : FieldIs Try.prog 89 11 11 1 false := ⟨⟨_, _, Try.runUnderlying89, rfl, rfl, Try.sizeOf87, by decide, Try.isAgg87⟩⟩
theorem fi_89_12 : FieldIs Try.prog 89 12 12 1 false := ⟨⟨_, _, Try.runUnderlying89, rfl, rfl, Try.sizeOf87, by decide, Try.isAgg87⟩⟩
def m_auto_Next (s1 : AutoState) : Option (List Int) :=
  (bif s1.arrow then
    grd ((0 + ([s1.dom, s1.cod] : List _).length) * 8 ≤ 140737488355328) <|
    some ([] ++ [s1.dom, s1.cod])
  else
    some [] : Option (List Int)).bind fun l1 =>
  (m_auto_tos s1.fields).bind fun x1 =>
  (m_auto_tos s1.tags).bind fun x2 =>
  (m_slices_Concat_int_int [l1, x1, x2]).bind fun x3 =>
  some x3
theorem w_auto_Next {s1 : AutoState} {r : (List Int)} (hm : m_auto_Next s1 = some r) : Fn0 Try.prog 50 [AutoState.d s1] (.list 1 D.i64 r) := by
  unfold m_auto_Next at hm
  refine fn_intro Try.func50 rfl Try.ntmps50 rfl fun H0 fr w0 => ?_
  refine g_seq ?_
  refine g_region ?_
  refine go_p rfl rfl rfl (o_box rfl rfl) ?_
  refine go_p rfl rfl rfl (o_assign rfl) ?_
  refine go_conv (nilE (i := 2) (sz := 1) (f := D.i64) rfl).refines ?_
  refine go_nil ?_
  refine g_seq ?_
  refine g_region ?_
  refine go_p rfl rfl rfl (o_assign rfl) ?_
  refine go_conv (refines_newrow (T := 3) (sz := 1) (f := D.i64)) ?_
  refine go_nil ?_
  refine g_seq ?_
  refine g_seq ?_
  refine g_region ?_
  refine go_p rfl rfl rfl (o_fieldAddr fi_89_5 rfl rfl rfl) ?_
  refine go_p rfl rfl rfl (o_load Try.isAgg4 rfl rfl) ?_
  refine go_nil ?_
  obtain ⟨o_1, hj1, hm1⟩ := bind_some hm
  refine g_cut_m [(1, _)] [] (fun (st : (List Int)) (hid : (Option Addr × Nat)) => match st, hid with | l1, (a_r1, cap_r1) => [(3, .v (.slice a_r1 l1.length cap_r1))]) (fun F (st : (List Int)) (hid : (Option Addr × Nat)) => match st, hid with | l1, (a_r1, cap_r1) => [row a_r1 cap_r1 3 1 D.i64 l1]) (fun st => st = o_1) ⟨rfl, trivial⟩ trivial ?_ ?_
  · skip
    refine g_cond rfl (fun hc1 => ?_) (fun hc1 => ?_)
    · replace hj1 := cond_t hc1 hj1
      refine g_region ?_
      refine go_p rfl rfl rfl (o_move rfl) ?_
      refine go_p rfl rfl rfl (o_fieldAddr fi_89_9 rfl rfl rfl) ?_
      refine go_p rfl rfl rfl (o_load Try.isAgg3 rfl rfl) ?_
      refine go_p rfl rfl rfl (o_fieldAddr fi_89_10 rfl rfl rfl) ?_
      refine go_p rfl rfl rfl (o_load Try.isAgg3 rfl rfl) ?_
      refine go_p rfl rfl rfl (o_buildSlice (xs := [_, _]) (f := D.i64) (l := [_, _]) Try.runUnderlying47 Try.sizeOf3 Try.zeroValue3 rfl rfl rfl (fun _ => ⟨rfl, rfl, rfl⟩) rfl) ?_
      obtain ⟨hg1, hj1⟩ := grd_some hj1
      refine go_op rfl rfl rfl (o_append (a := _) 0 Try.underlying47 Try.type3 rfl rfl rfl rfl rfl rfl rfl (fun _ => rfl) (fun _ => rfl) hg1 (app_len hg1 rfl)) ?_
      rintro _ _ ⟨a_r1, cap_r1, rfl, rfl⟩
      refine go_ms (ms' := [_]) rfl ?_
      refine go_p rfl rfl rfl (o_assign rfl) ?_
      refine go_nil ?_
      exact ⟨_, (_, _), some_eq hj1, ⟨rfl, trivial⟩, ⟨rfl, trivial⟩, [], rfl⟩
    · replace hj1 := cond_f hc1 hj1
      refine g_skip ?_
      exact ⟨_, (_, _), some_eq hj1, ⟨rfl, trivial⟩, ⟨rfl, trivial⟩, [], rfl⟩
  · rintro l1 ⟨a_r1, cap_r1⟩ hst
    subst hst
    refine k_norm (L' := [(3, .v (.slice a_r1 l1.length cap_r1)), (1, _)]) (ms' := [row a_r1 cap_r1 3 1 D.i64 l1]) rfl rfl ?_
    refine g_seq ?_
    obtain ⟨x1, hx2, hm1⟩ := bind_some hm1
    obtain ⟨x2, hx3, hm1⟩ := bind_some hm1
    obtain ⟨x3, hx4, hm1⟩ := bind_some hm1
    refine g_draw 10 Try_mixed (by decide +kernel) ?_
    refine gd_p rfl rfl rfl (o_move rfl) ?_
    refine gd_p rfl rfl rfl (o_fieldAddr fi_89_11 rfl rfl rfl) ?_
    refine gd_p rfl rfl rfl (o_load Try.isAgg87 rfl rfl) ?_
    refine gd_p rfl rfl rfl (o_call0 Try.call86 rfl (w_auto_tos hx2)) ?_
    refine gd_p rfl rfl rfl (o_fieldAddr fi_89_12 rfl rfl rfl) ?_
    refine gd_p rfl rfl rfl (o_load Try.isAgg87 rfl rfl) ?_
    refine gd_p rfl rfl rfl (o_call0 Try.call86 rfl (w_auto_tos hx3)) ?_
    refine gd_p rfl rfl rfl (.view (peekE (i := 13) 0 rfl rfl rfl) (o_buildSlice (xs := [_, _, _]) (f := (D.list 1 D.i64)) (l := [_, _, _]) Try.runUnderlying186 Try.sizeOf47 Try.zeroValue47 rfl rfl rfl (fun _ => ⟨rfl, rfl, rfl⟩) rfl)) ?_
    refine gd_p rfl rfl rfl (o_call0 Try.call85 rfl (w_slices_Concat_int_int hx4)) ?_
    refine gd_p rfl rfl rfl (o_assign rfl) ?_
    refine gd_nil ?_
    refine go_nil ?_
    refine g_ret ?_
    exact retK (ret_one' rfl (ret_tmp rfl) (perm_drop _)) (congrArg (fun (p : (List Int)) => (.list 1 D.i64 p : D)) (some_eq hm1))

theorem fi_81_0 : FieldIs Try.prog 81 0 0 1 false := ⟨⟨_, _, Try.runUnderlying81, rfl, rfl, Try.sizeOf79, by decide, Try.isAgg79⟩⟩
theorem fi_81_1 : FieldIs Try.prog 81 1 1 1 false := ⟨⟨_, _, Try.runUnderlying81, rfl, rfl, Try.sizeOf3, by decide, Try.isAgg3⟩⟩
def m_reached_l2 (x4 : (List Int)) : Nat → (Int × (List Int) × (List Bool)) → Option ((List Int) × (List Bool))
  | 0, _ => none
  | n + 1, (x5, l6, l7) =>
    bif (decide (x5 < (x4.length : Int))) then
      (idx x4 x5).bind fun x6 =>
      (idx l7 x6).bind fun x7 =>
      bif (!x7) then
        (idx l7 x6).bind fun x8 =>
        grd ((l6.length + ([x6] : List _).length) * 8 ≤ 140737488355328) <|
        grd (InR (x5 + 1)) <|
        m_reached_l2 x4 n ((x5 + 1), (l6 ++ [x6]), (l7.set (x6).toNat true))
      else
        grd (InR (x5 + 1)) <|
        m_reached_l2 x4 n ((x5 + 1), l6, l7)
    else
      some (l6, l7)

def m_reached_l1 (c1 : AutoAuto) : Nat → ((List Int) × (List Bool)) → Option (List Int)
  | 0, _ => none
  | n + 1, (l1, l2) =>
    bif (decide (0 < (l1.length : Int))) then
      (idx l1 0).bind fun x2 =>
      (sli l1 1 (l1.length : Int)).bind fun l3 =>
      ((idx c1.l x2).bind fun x3 =>
      (m_auto_Next x3).bind fun x4 =>
      (m_reached_l2 x4 FU (0, l3, l2) : Option ((List Int) × (List Bool))).bind fun (l4, l5) =>
      m_reached_l1 c1 n (l4, l5)).bind fun ys => some (x2 :: ys)
    else
      some []
def m_reached (c1 : AutoAuto) : Option (List Int) :=
  grd (0 ≤ (c1.l.length : Int)) <|
  grd (((c1.l.length : Int)).toNat * 1 ≤ 140737488355328) <|
  (idx (List.replicate ((c1.l.length : Int)).toNat false) c1.start).bind fun x1 =>
  m_reached_l1 c1 FU ([c1.start], ((List.replicate ((c1.l.length : Int)).toNat false).set (c1.start).toNat true))
theorem it_reached {c1 : AutoAuto} {xs : (List Int)} (hm : m_reached c1 = some xs) : Iter Try.prog 147 [.ref (AutoAuto.d c1)] (xs.map fun (p : Int) => [.i64 p]) := by
  intro y J Jx hy tl_0 hJ_0
  have hk_0 : 0 ≤ xs.length := Nat.zero_le _
  replace hm : _ = some (xs.drop 0) := hm
  unfold m_reached at hm
  refine fn_intro Try.func147 rfl Try.ntmps147 rfl fun H0 fr w0 => ?_
  refine g_seq ?_
  refine g_region ?_
  refine go_p rfl rfl rfl (o_fieldAddr fi_81_0 rfl rfl rfl) ?_
  refine go_p rfl rfl rfl (o_load Try.isAgg79 rfl rfl) ?_
  refine go_p rfl rfl rfl (o_len Try.runUnderlying79 rfl) ?_
  obtain ⟨hg1, hm⟩ := grd_some hm
  obtain ⟨hg2, hm⟩ := grd_some hm
  refine go_op rfl rfl rfl (o_makeSlice (f := D.bool) (z0 := false) Try.underlying204 Try.type4 rfl rfl rfl (Nat.le_of_ble_eq_true rfl) rfl rfl hg1 hg2 (Nat.le_of_ble_eq_true rfl)) ?_
  rintro _ _ ⟨a_r1, m_r1, cap_r1, rfl, rfl⟩
  refine go_p rfl rfl rfl (o_assign rfl) ?_
  refine go_nil ?_
  refine g_seq ?_
  refine g_region ?_
  refine go_p rfl rfl rfl (o_move rfl) ?_
  refine go_p rfl rfl rfl (o_fieldAddr fi_81_1 rfl rfl rfl) ?_
  refine go_p rfl rfl rfl (o_load Try.isAgg3 rfl rfl) ?_
  obtain ⟨x1, hx3, hm⟩ := bind_some hm
  refine go_p rfl rfl rfl (o_indexAddr_arr 0 Try.runUnderlying204 Try.sizeOf4 rfl rfl rfl hx3) ?_
  refine go_u rfl rfl (o_store_arr (off := 0) (z' := true) 0 Try.sizeOf4 rfl rfl (idx_some hx3).2 rfl rfl rfl rfl rfl rfl (Nat.le_of_ble_eq_true rfl) rfl rfl) ?_
  rintro _ _ rfl
  refine go_ms (ms' := [_] ++ tl_0) rfl ?_
  refine go_nil ?_
  refine g_seq ?_
  refine g_region ?_
  refine go_p rfl rfl rfl (o_fieldAddr fi_81_1 rfl rfl rfl) ?_
  refine go_p rfl rfl rfl (o_load Try.isAgg3 rfl rfl) ?_
  refine go_op rfl rfl rfl (o_buildSlice_row (xs := [_]) (f := D.i64) (l := [_]) Try.runUnderlying47 Try.sizeOf3 Try.zeroValue3 rfl rfl rfl (fun _ => ⟨rfl, rfl, rfl⟩) rfl (by simp [maxLen])) ?_
  rintro _ _ ⟨a_r2, rfl, rfl⟩
  refine go_p rfl rfl rfl (o_assign rfl) ?_
  refine go_nil ?_
  refine g_block ?_
  refine g_conv (refines_que 0 rfl rfl) ?_
  refine g_loop_y (fun (hid : {p : Nat × List Asrt // p.1 ≤ xs.length ∧ J p.1 p.2} × (Option Addr × Nat) × Unit) => xs.drop hid.1.1.1) [(0, _), (1, _), (3, _)] [] (fun (st : ((List Int) × (List Bool))) (hid : {p : Nat × List Asrt // p.1 ≤ xs.length ∧ J p.1 p.2} × (Option Addr × Nat) × Unit) => match st, hid with | (l1, l2), (⟨(k_3, tl_3), hk_3, hJ_3⟩, (a_r2, cap_r2), _) => [(4, .v (.slice a_r2 l1.length cap_r2))]) (fun F (st : ((List Int) × (List Bool))) (hid : {p : Nat × List Asrt // p.1 ≤ xs.length ∧ J p.1 p.2} × (Option Addr × Nat) × Unit) => match st, hid with | (l1, l2), (⟨(k_3, tl_3), hk_3, hJ_3⟩, (a_r2, cap_r2), _) => [que a_r2 cap_r2 3 1 D.i64 l1, arr a_r1 m_r1 cap_r1 4 1 D.bool l2] ++ tl_3) (⟨(0, tl_0), hk_0, hJ_0⟩, (_, _), ()) hm rfl (fun _ => rfl) ⟨rfl, rfl, rfl, trivial⟩ trivial ⟨rfl, trivial⟩ rfl ?_
  rintro n ⟨l1, l2⟩ ⟨⟨⟨k_3, tl_3⟩, hk_3, hJ_3⟩, ⟨a_r2, cap_r2⟩, ⟨⟩⟩ hm
  replace hm : _ = some (xs.drop k_3) := hm
  rw [m_reached_l1] at hm
  refine g_norm (L' := [(4, .v (.slice a_r2 l1.length cap_r2)), (0, _), (1, _), (3, _)]) (ms' := [que a_r2 cap_r2 3 1 D.i64 l1, arr a_r1 m_r1 cap_r1 4 1 D.bool l2] ++ tl_3) rfl rfl ?_
  refine g_seq ?_
  refine g_seq ?_
  refine g_region ?_
  refine go_p rfl rfl rfl (o_move rfl) ?_
  refine go_p rfl rfl rfl (.view (peekQ (i := 19) 0 rfl rfl rfl) (o_len Try.runUnderlying47 rfl)) ?_
  refine go_p rfl rfl rfl (o_cmp rfl rfl rfl) ?_
  refine go_nil ?_
  refine g_cond rfl (fun hc1 => ?_) (fun hc1 => ?_)
  · replace hm := cond_t hc1 hm
    refine g_skip ?_
    refine g_block ?_
    refine g_seq ?_
    refine g_region ?_
    refine go_p rfl rfl rfl (o_move rfl) ?_
    obtain ⟨x2, hx4, hm⟩ := bind_some hm
    refine go_p rfl rfl rfl (.view (peekQ (i := 22) 0 rfl rfl rfl) (o_indexAddr_m Try.runUnderlying47 Try.sizeOf3 rfl rfl hx4)) ?_
    refine go_p rfl rfl rfl (o_load Try.isAgg3 rfl rfl) ?_
    refine go_p rfl rfl rfl (o_assign rfl) ?_
    refine go_nil ?_
    refine g_seq ?_
    refine g_region ?_
    refine go_p rfl rfl rfl (o_move rfl) ?_
    obtain ⟨l3, hx5, hm⟩ := bind_some hm
    refine go_op rfl rfl rfl (o_slice_que 0 Try.runUnderlying47 Try.sizeOf3 rfl rfl rfl rfl hx5) ?_
    rintro _ _ ⟨a_r2, cap_r2, rfl, rfl⟩
    refine go_p rfl rfl rfl (o_assign rfl) ?_
    refine go_nil ?_
    refine g_seq ?_
    refine g_seq ?_
    refine g_region ?_
    refine go_p rfl rfl rfl (o_move rfl) ?_
    refine go_p rfl rfl rfl (o_move rfl) ?_
    obtain ⟨ys_4, hm, he_4⟩ := bind_some hm
    obtain ⟨hy_4, hk_4, rfl⟩ := yield_at he_4
    refine go_op rfl rfl rfl (o_yield [_, _] tl_3 rfl rfl (hy k_3 _ tl_3 (map_at hy_4) hJ_3)) ?_
    rintro _ _ ⟨_ | _, tl_4, rfl, rfl, hJ_4, hs_4⟩
    · skip
      refine go_p rfl rfl rfl (o_not rfl) ?_
      refine go_nil ?_
      refine g_cond_true rfl rfl ?_
      refine g_ret ?_
      exact retK (ret_none (ms' := tl_4) (drop := [_, _]) rfl (List.Perm.refl _)) (.inr (hs_4 rfl))
    · skip
      refine go_p rfl rfl rfl (o_not rfl) ?_
      refine go_nil ?_
      refine g_cond_false rfl rfl ?_
      refine g_skip ?_
      refine g_seq ?_
      refine g_region ?_
      refine go_p rfl rfl rfl (o_fieldAddr fi_81_0 rfl rfl rfl) ?_
      refine go_p rfl rfl rfl (o_load Try.isAgg79 rfl rfl) ?_
      refine go_p rfl rfl rfl (o_move rfl) ?_
      obtain ⟨x3, hx6, hm⟩ := bind_some hm
      refine go_p rfl rfl rfl (o_indexAddr_m Try.runUnderlying79 Try.sizeOf89 rfl rfl hx6) ?_
      refine go_p rfl rfl rfl (o_load_agg Try.isAgg89 Try.sizeOf89 rfl rfl) ?_
      obtain ⟨x4, hx7, hm⟩ := bind_some hm
      refine go_p rfl rfl rfl (o_call0 Try.call50 rfl (w_auto_Next hx7)) ?_
      refine go_p rfl rfl rfl (o_len Try.runUnderlying47 rfl) ?_
      refine go_p rfl rfl rfl (o_move rfl) ?_
      refine go_nil ?_
      obtain ⟨o_1, hj1, hm1⟩ := bind_some hm
      refine g_cut_m [(0, _), (1, _), (3, _)] [] (fun (st : ((List Int) × (List Bool))) (hid : (Option Addr × Nat) × Unit) => match st, hid with | (l4, l5), ((a_r2, cap_r2), _) => [(4, .v (.slice a_r2 l4.length cap_r2))]) (fun F (st : ((List Int) × (List Bool))) (hid : (Option Addr × Nat) × Unit) => match st, hid with | (l4, l5), ((a_r2, cap_r2), _) => [que a_r2 cap_r2 3 1 D.i64 l4, arr a_r1 m_r1 cap_r1 4 1 D.bool l5] ++ tl_4) (fun st => st = o_1) ⟨rfl, rfl, rfl, trivial⟩ trivial ?_ ?_
      · skip
        refine g_block ?_
        refine g_loop_m [(0, _), (1, _), (3, _), (36, _), (37, _)] [] (fun (st : (Int × (List Int) × (List Bool))) (hid : (Option Addr × Nat) × Unit) => match st, hid with | (x5, l6, l7), ((a_r2, cap_r2), _) => [(4, .v (.slice a_r2 l6.length cap_r2)), (38, .i64 x5)]) (fun F (st : (Int × (List Int) × (List Bool))) (hid : (Option Addr × Nat) × Unit) => match st, hid with | (x5, l6, l7), ((a_r2, cap_r2), _) => [que a_r2 cap_r2 3 1 D.i64 l6, arr a_r1 m_r1 cap_r1 4 1 D.bool l7] ++ tl_4) ((_, _), ()) hj1 (fun _ => rfl) ⟨rfl, rfl, rfl, rfl, rfl, trivial⟩ trivial ⟨rfl, rfl, trivial⟩ rfl ?_
        rintro n ⟨x5, l6, l7⟩ ⟨⟨a_r2, cap_r2⟩, ⟨⟩⟩ hj1
        rw [m_reached_l2] at hj1
        refine g_norm (L' := [(4, .v (.slice a_r2 l6.length cap_r2)), (38, .i64 x5), (0, _), (1, _), (3, _), (36, _), (37, _)]) (ms' := [que a_r2 cap_r2 3 1 D.i64 l6, arr a_r1 m_r1 cap_r1 4 1 D.bool l7] ++ tl_4) rfl rfl ?_
        refine g_seq ?_
        refine g_region ?_
        refine go_p rfl rfl rfl (o_cmp rfl rfl rfl) ?_
        refine go_nil ?_
        refine g_seq ?_
        refine g_cond rfl (fun hc2 => ?_) (fun hc2 => ?_)
        · replace hj1 := cond_t hc2 hj1
          refine g_skip ?_
          refine g_seq ?_
          refine g_block ?_
          refine g_seq ?_
          refine g_region ?_
          obtain ⟨x6, hx8, hj1⟩ := bind_some hj1
          refine go_p rfl rfl rfl (o_indexAddr_m Try.runUnderlying47 Try.sizeOf3 rfl rfl hx8) ?_
          refine go_p rfl rfl rfl (o_load Try.isAgg3 rfl rfl) ?_
          refine go_p rfl rfl rfl (o_assign rfl) ?_
          refine go_nil ?_
          refine g_seq ?_
          refine g_region ?_
          refine go_p rfl rfl rfl (o_move rfl) ?_
          refine go_p rfl rfl rfl (o_move rfl) ?_
          obtain ⟨x7, hx9, hj1⟩ := bind_some hj1
          refine go_p rfl rfl rfl (o_indexAddr_arr 1 Try.runUnderlying204 Try.sizeOf4 rfl rfl rfl hx9) ?_
          refine go_p rfl rfl rfl (o_load_arr (off := 0) 1 Try.isAgg4 rfl rfl (idx_some hx9).2 rfl rfl rfl) ?_
          refine go_p rfl rfl rfl (o_not rfl) ?_
          refine go_nil ?_
          refine g_cond rfl (fun hc3 => ?_) (fun hc3 => ?_)
          · replace hj1 := cond_t hc3 hj1
            refine g_seq ?_
            refine g_region ?_
            refine go_p rfl rfl rfl (o_move rfl) ?_
            refine go_p rfl rfl rfl (o_move rfl) ?_
            obtain ⟨x8, hx10, hj1⟩ := bind_some hj1
            refine go_p rfl rfl rfl (o_indexAddr_arr 1 Try.runUnderlying204 Try.sizeOf4 rfl rfl rfl hx10) ?_
            refine go_u rfl rfl (o_store_arr (off := 0) (z' := true) 1 Try.sizeOf4 rfl rfl (idx_some hx10).2 rfl rfl rfl rfl rfl rfl (Nat.le_of_ble_eq_true rfl) rfl rfl) ?_
            rintro _ _ rfl
            refine go_ms (ms' := [_, _] ++ tl_4) rfl ?_
            refine go_nil ?_
            refine g_region ?_
            refine go_p rfl rfl rfl (o_move rfl) ?_
            refine go_p rfl rfl rfl (o_move rfl) ?_
            refine go_p rfl rfl rfl (o_buildSlice (xs := [_]) (f := D.i64) (l := [_]) Try.runUnderlying47 Try.sizeOf3 Try.zeroValue3 rfl rfl rfl (fun _ => ⟨rfl, rfl, rfl⟩) rfl) ?_
            obtain ⟨hg11, hj1⟩ := grd_some hj1
            refine go_op rfl rfl rfl (o_append_que (a := _) 0 Try.underlying47 Try.type3 rfl rfl rfl rfl rfl rfl rfl (fun _ => rfl) (fun _ => rfl) hg11 (app_len hg11 rfl)) ?_
            rintro _ _ ⟨a_r2, cap_r2, rfl, rfl⟩
            refine go_ms (ms' := [_, _] ++ tl_4) rfl ?_
            refine go_p rfl rfl rfl (o_assign rfl) ?_
            refine go_nil ?_
            refine g_region ?_
            obtain ⟨hg12, hj1⟩ := grd_some hj1
            refine go_p rfl rfl rfl (o_add rfl rfl (i64_id hg12)) ?_
            refine go_p rfl rfl rfl (o_move rfl) ?_
            refine go_nil ?_
            exact ⟨_, ((_, _), ()), hj1, ⟨rfl, rfl, trivial⟩, ⟨rfl, rfl, rfl, rfl, rfl, trivial⟩, [], rfl⟩
          · replace hj1 := cond_f hc3 hj1
            refine g_skip ?_
            refine g_region ?_
            obtain ⟨hg13, hj1⟩ := grd_some hj1
            refine go_p rfl rfl rfl (o_add rfl rfl (i64_id hg13)) ?_
            refine go_p rfl rfl rfl (o_move rfl) ?_
            refine go_nil ?_
            exact ⟨_, ((_, _), ()), hj1, ⟨rfl, rfl, trivial⟩, ⟨rfl, rfl, rfl, rfl, rfl, trivial⟩, [], rfl⟩
        · replace hj1 := cond_f hc2 hj1
          refine g_exit ?_
          exact ⟨_, ((_, _), ()), some_eq hj1, ⟨rfl, trivial⟩, ⟨rfl, rfl, rfl, trivial⟩, [], rfl⟩
      · rintro ⟨l4, l5⟩ ⟨⟨a_r2, cap_r2⟩, ⟨⟩⟩ hst
        subst hst
        refine k_norm (L' := [(4, .v (.slice a_r2 l4.length cap_r2)), (0, _), (1, _), (3, _)]) (ms' := [que a_r2 cap_r2 3 1 D.i64 l4, arr a_r1 m_r1 cap_r1 4 1 D.bool l5] ++ tl_4) rfl rfl ?_
        exact ⟨_, (⟨((k_3 + 1), tl_4), hk_4, (hJ_4 rfl)⟩, (_, _), ()), hm1, ⟨rfl, trivial⟩, ⟨rfl, rfl, rfl, trivial⟩, [], rfl⟩
  · replace hm := cond_f hc1 hm
    refine g_exit ?_
    exact retKn (ret_none (ms' := tl_3) (drop := [_, _]) rfl (List.Perm.refl _)) (.inl (yield_end hm hk_3 hJ_3 _))

theorem w_reached {p0 : AutoAuto} :
    Fn0 Try.prog 118 [AutoAuto.d p0] (.clo (.func 147) [] [.ref (AutoAuto.d p0)]) := by
  refine fn_intro Try.func118 rfl Try.ntmps118 rfl fun H0 fr w0 => ?_
  refine g_seq ?_
  refine g_region ?_
  refine go_p rfl rfl rfl (o_box rfl rfl) ?_
  refine go_p rfl rfl rfl (o_assign rfl) ?_
  refine go_nil ?_
  refine g_seq ?_
  refine g_region ?_
  refine go_p rfl rfl rfl (o_makeFunc rfl rfl) ?_
  refine go_p rfl rfl rfl (o_assign rfl) ?_
  refine go_nil ?_
  refine g_ret ?_
  exact retK (ret_one' rfl (ret_tmp rfl) (perm_drop _)) (by rfl) -- ret1 

def m_syntagmabase_Among (x1 : Int) (n1 : Int) : Option Int :=
  bif (decide (n1 < 1)) then
    some 0
  else
    grd ((IntKind.u64.wrap n1) ≠ 0) <|
    some (IntKind.i64.wrap (Int.tmod (IntKind.u64.wrap x1) (IntKind.u64.wrap n1)))
theorem w_syntagmabase_Among {x1 : Int} {n1 : Int} {r : Int} (hm : m_syntagmabase_Among x1 n1 = some r) : Fn0 Try.prog 25 [.i64 x1, .i64 n1] (.i64 r) := by
  unfold m_syntagmabase_Among at hm
  refine fn_intro Try.func25 rfl Try.ntmps25 rfl fun H0 fr w0 => ?_
  refine g_seq ?_
  refine g_region ?_
  refine go_p rfl rfl rfl (o_assign rfl) ?_
  refine go_nil ?_
  refine g_seq ?_
  refine g_seq ?_
  refine g_region ?_
  refine go_p rfl rfl rfl (o_move rfl) ?_
  refine go_p rfl rfl rfl (o_cmp rfl rfl rfl) ?_
  refine go_nil ?_
  refine g_cond rfl (fun hc1 => ?_) (fun hc1 => ?_)
  · replace hm := cond_t hc1 hm
    refine g_seq ?_
    refine g_region ?_
    refine go_p rfl rfl rfl (o_assign rfl) ?_
    refine go_nil ?_
    refine g_ret ?_
    exact retK (ret_one' rfl (ret_tmp rfl) (perm_drop _)) (congrArg (fun (p : Int) => (.i64 p : D)) (some_eq hm))
  · replace hm := cond_f hc1 hm
    refine g_skip ?_
    refine g_seq ?_
    refine g_region ?_
    refine go_p rfl rfl rfl (o_move rfl) ?_
    refine go_p rfl rfl rfl (o_conv Try.runUnderlying3 Try.runUnderlying125 rfl rfl) ?_
    refine go_p rfl rfl rfl (o_move rfl) ?_
    refine go_p rfl rfl rfl (o_conv Try.runUnderlying3 Try.runUnderlying125 rfl rfl) ?_
    obtain ⟨hg1, hm⟩ := grd_some hm
    refine go_p rfl rfl rfl (o_rem rfl rfl hg1) ?_
    refine go_p rfl rfl rfl (o_conv Try.runUnderlying125 Try.runUnderlying3 rfl rfl) ?_
    refine go_p rfl rfl rfl (o_assign rfl) ?_
    refine go_nil ?_
    refine g_ret ?_
    exact retK (ret_one' rfl (ret_tmp rfl) (perm_drop _)) (congrArg (fun (p : Int) => (.i64 p : D)) (some_eq hm))

def m_syntagmabase_SameInts_l1 (a1 : (List Int)) (b1 : (List Int)) : Nat → Int → Option (Out Bool Unit)
  | 0, _ => none
  | n + 1, i1 =>
    bif (decide (i1 < (a1.length : Int))) then
      (idx a1 i1).bind fun x1 =>
      (idx b1 i1).bind fun x2 =>
      bif (!decide (x1 = x2)) then
        some (Out.ret false)
      else
        grd (InR (i1 + 1)) <|
        m_syntagmabase_SameInts_l1 a1 b1 n (i1 + 1)
    else
      some (Out.go (()))
def m_syntagmabase_SameInts (a1 : (List Int)) (b1 : (List Int)) : Option Bool :=
  bif (!decide ((a1.length : Int) = (b1.length : Int))) then
    some false
  else
    ((m_syntagmabase_SameInts_l1 a1 b1 FU 0 : Option (Out Bool Unit))).bind (fun oo => oo.on (fun r1 => some r1) (fun _ =>
    some true))
theorem w_syntagmabase_SameInts {a1 : (List Int)} {b1 : (List Int)} {r : Bool} (hm : m_syntagmabase_SameInts a1 b1 = some r) : Fn0 Try.prog 28 [.list 1 D.i64 a1, .list 1 D.i64 b1] (.bool r) := by
  unfold m_syntagmabase_SameInts at hm
  refine fn_intro Try.func28 rfl Try.ntmps28 rfl fun H0 fr w0 => ?_
  refine g_seq ?_
  refine g_region ?_
  refine go_p rfl rfl rfl (o_assign rfl) ?_
  refine go_nil ?_
  refine g_seq ?_
  refine g_seq ?_
  refine g_region ?_
  refine go_p rfl rfl rfl (o_move rfl) ?_
  refine go_p rfl rfl rfl (o_len Try.runUnderlying47 rfl) ?_
  refine go_p rfl rfl rfl (o_move rfl) ?_
  refine go_p rfl rfl rfl (o_len Try.runUnderlying47 rfl) ?_
  refine go_p rfl rfl rfl (o_cmp rfl rfl rfl) ?_
  refine go_nil ?_
  refine g_cond rfl (fun hc1 => ?_) (fun hc1 => ?_)
  · replace hm := cond_t hc1 hm
    refine g_seq ?_
    refine g_region ?_
    refine go_p rfl rfl rfl (o_assign rfl) ?_
    refine go_nil ?_
    refine g_ret ?_
    exact retK (ret_one' rfl (ret_tmp rfl) (perm_drop _)) (congrArg (fun (p : Bool) => (.bool p : D)) (some_eq hm))
  · replace hm := cond_f hc1 hm
    refine g_skip ?_
    refine g_seq ?_
    refine g_seq ?_
    refine g_region ?_
    refine go_p rfl rfl rfl (o_assign rfl) ?_
    refine go_nil ?_
    obtain ⟨o_1, hj1, hm1⟩ := bind_some hm
    refine g_cut_m [] [] (fun (st : Unit) (hid : Unit) => match st, hid with | _, _ => []) (fun F (st : Unit) (hid : Unit) => match st, hid with | _, _ => []) (fun st => Out.go (st) = o_1) trivial trivial ?_ ?_
    · skip
      refine g_block ?_
      refine g_loop_m [(0, _), (1, _)] [] (fun (st : Int) (hid : Unit) => match st, hid with | i1, _ => [(5, .i64 i1)]) (fun F (st : Int) (hid : Unit) => match st, hid with | i1, _ => []) () hj1 (fun _ => rfl) ⟨rfl, rfl, trivial⟩ trivial ⟨rfl, trivial⟩ rfl ?_
      rintro n i1 _ hj1
      rw [m_syntagmabase_SameInts_l1] at hj1
      refine g_norm (L' := [(5, .i64 i1), (0, _), (1, _)]) (ms' := []) rfl rfl ?_
      refine g_seq ?_
      refine g_seq ?_
      refine g_region ?_
      refine go_p rfl rfl rfl (o_move rfl) ?_
      refine go_p rfl rfl rfl (o_move rfl) ?_
      refine go_p rfl rfl rfl (o_len Try.runUnderlying47 rfl) ?_
      refine go_p rfl rfl rfl (o_cmp rfl rfl rfl) ?_
      refine go_nil ?_
      refine g_cond rfl (fun hc2 => ?_) (fun hc2 => ?_)
      · replace hj1 := cond_t hc2 hj1
        refine g_skip ?_
        refine g_seq ?_
        refine g_block ?_
        refine g_seq ?_
        obtain ⟨x1, hx1, hj1⟩ := bind_some hj1
        obtain ⟨x2, hx2, hj1⟩ := bind_some hj1
        refine g_draw 9 Try_mixed (by decide +kernel) ?_
        refine gd_p rfl rfl rfl (o_move rfl) ?_
        refine gd_p rfl rfl rfl (o_move rfl) ?_
        refine gd_p rfl rfl rfl (o_indexAddr_m Try.runUnderlying47 Try.sizeOf3 rfl rfl hx1) ?_
        refine gd_p rfl rfl rfl (o_load Try.isAgg3 rfl rfl) ?_
        refine gd_p rfl rfl rfl (o_move rfl) ?_
        refine gd_p rfl rfl rfl (o_move rfl) ?_
        refine gd_p rfl rfl rfl (o_indexAddr_m Try.runUnderlying47 Try.sizeOf3 rfl rfl hx2) ?_
        refine gd_p rfl rfl rfl (o_load Try.isAgg3 rfl rfl) ?_
        refine gd_p rfl rfl rfl (o_cmp rfl rfl rfl) ?_
        refine gd_nil ?_
        refine go_nil ?_
        refine g_cond rfl (fun hc3 => ?_) (fun hc3 => ?_)
        · replace hj1 := cond_t hc3 hj1
          refine g_seq ?_
          refine g_region ?_
          refine go_p rfl rfl rfl (o_assign rfl) ?_
          refine go_nil ?_
          refine g_ret ?_
          obtain rfl := some_eq hj1
          replace hm1 := on_ret hm1
          exact retK (ret_one' rfl (ret_tmp rfl) (perm_drop _)) (congrArg (fun (p : Bool) => (.bool p : D)) (some_eq hm1))
        · replace hj1 := cond_f hc3 hj1
          refine g_skip ?_
          refine g_region ?_
          refine go_p rfl rfl rfl (o_move rfl) ?_
          obtain ⟨hg3, hj1⟩ := grd_some hj1
          refine go_p rfl rfl rfl (o_add rfl rfl (i64_id hg3)) ?_
          refine go_p rfl rfl rfl (o_assign rfl) ?_
          refine go_nil ?_
          exact ⟨_, (), hj1, ⟨rfl, trivial⟩, ⟨rfl, rfl, trivial⟩, [], rfl⟩
      · replace hj1 := cond_f hc2 hj1
        refine g_exit ?_
        exact ⟨_, (), some_eq hj1, trivial, trivial, [], rfl⟩
    · rintro _ _ hst
      subst hst
      replace hm1 := on_go hm1
      refine k_norm (L' := []) (ms' := []) rfl rfl ?_
      refine g_seq ?_
      refine g_region ?_
      refine go_p rfl rfl rfl (o_assign rfl) ?_
      refine go_nil ?_
      refine g_ret ?_
      exact retK (ret_one' rfl (ret_tmp rfl) (perm_drop _)) (congrArg (fun (p : Bool) => (.bool p : D)) (some_eq hm1))

def m_syntagmabase_Ints (l1 : (List Int)) : Option (List Int) :=
  grd ((0 + l1.length) * 8 ≤ 140737488355328) <|
  some ([] ++ l1)
theorem w_syntagmabase_Ints {l1 : (List Int)} {r : (List Int)} (hm : m_syntagmabase_Ints l1 = some r) : Fn0 Try.prog 36 [.list 1 D.i64 l1] (.list 1 D.i64 r) := by
  unfold m_syntagmabase_Ints at hm
  refine fn_intro Try.func36 rfl Try.ntmps36 rfl fun H0 fr w0 => ?_
  refine g_seq ?_
  refine g_region ?_
  refine go_p rfl rfl rfl (o_assign rfl) ?_
  refine go_conv (nilE (i := 2) (sz := 1) (f := D.i64) rfl).refines ?_
  refine go_nil ?_
  refine g_seq ?_
  refine g_region ?_
  refine go_op rfl rfl rfl (o_buildSlice_row (xs := []) (f := D.i64) (l := []) Try.runUnderlying47 Try.sizeOf3 Try.zeroValue3 rfl rfl rfl (fun _ => ⟨rfl, rfl, rfl⟩) rfl (by simp [maxLen])) ?_
  rintro _ _ ⟨a_r1, rfl, rfl⟩
  refine go_p rfl rfl rfl (o_move rfl) ?_
  obtain ⟨hg1, hm⟩ := grd_some hm
  refine go_op rfl rfl rfl (o_append (a := _) 0 Try.underlying47 Try.type3 rfl rfl rfl rfl rfl rfl rfl (fun _ => rfl) (fun _ => rfl) hg1 (app_len hg1 rfl)) ?_
  rintro _ _ ⟨a_r1, cap_r1, rfl, rfl⟩
  refine go_ms (ms' := [_]) rfl ?_
  refine go_p rfl rfl rfl (o_assign rfl) ?_
  refine go_nil ?_
  refine g_conv (peekE (i := 2) 0 rfl rfl rfl).refines ?_
  refine g_ret ?_
  exact retK (ret_one' rfl (ret_tmp rfl) (perm_drop _)) (congrArg (fun (p : (List Int)) => (.list 1 D.i64 p : D)) (some_eq hm))

theorem fi_78_1 : FieldIs Try.prog 78 1 1 1 false := ⟨⟨_, _, Try.runUnderlying78, rfl, rfl, Try.sizeOf3, by decide, Try.isAgg3⟩⟩
theorem pl_81 : ∀ fs, (∀ w, (underlying 81).run Try.prog w = .ok (.struct fs) w) → placesOf Try.prog fs [(0, 1), (1, 1)] := by
  intro fs h w
  have := (h w).symm.trans (Try.runUnderlying81 w)
  simp only [Result.ok.injEq, TypeDesc.struct.injEq, and_true] at this
  subst this
  simp [Try.sizeOf3, Try.sizeOf79, Sem.run]
theorem fi_78_0 : FieldIs Try.prog 78 0 0 1 false := ⟨⟨_, _, Try.runUnderlying78, rfl, rfl, Try.sizeOf76, by decide, Try.isAgg76⟩⟩
theorem fi_93_0 : FieldIs Try.prog 93 0 0 1 false := ⟨⟨_, _, Try.runUnderlying93, rfl, rfl, Try.sizeOf4, by decide, Try.isAgg4⟩⟩
theorem fi_93_1 : FieldIs Try.prog 93 1 1 1 false := ⟨⟨_, _, Try.runUnderlying93, rfl, rfl, Try.sizeOf4, by decide, Try.isAgg4⟩⟩
theorem fi_93_2 : FieldIs Try.prog 93 2 2 1 false := ⟨⟨_, _, Try.runUnderlying93, rfl, rfl, Try.sizeOf4, by decide, Try.isAgg4⟩⟩
theorem fi_93_3 : FieldIs Try.prog 93 3 3 1 false := ⟨⟨_, _, Try.runUnderlying93, rfl, rfl, Try.sizeOf4, by decide, Try.isAgg4⟩⟩
theorem fi_93_4 : FieldIs Try.prog 93 4 4 1 false := ⟨⟨_, _, Try.runUnderlying93, rfl, rfl, Try.sizeOf4, by decide, Try.isAgg4⟩⟩
theorem fi_93_5 : FieldIs Try.prog 93 5 5 1 false := ⟨⟨_, _, Try.runUnderlying93, rfl, rfl, Try.sizeOf4, by decide, Try.isAgg4⟩⟩
theorem fi_93_6 : FieldIs Try.prog 93 6 6 1 false := ⟨⟨_, _, Try.runUnderlying93, rfl, rfl, Try.sizeOf4, by decide, Try.isAgg4⟩⟩
theorem fi_93_7 : FieldIs Try.prog 93 7 7 1 false := ⟨⟨_, _, Try.runUnderlying93, rfl, rfl, Try.sizeOf4, by decide, Try.isAgg4⟩⟩
theorem fi_93_9 : FieldIs Try.prog 93 9 9 1 false := ⟨⟨_, _, Try.runUnderlying93, rfl, rfl, Try.sizeOf3, by decide, Try.isAgg3⟩⟩
theorem fi_93_10 : FieldIs Try.prog 93 10 10 1 false := ⟨⟨_, _, Try.runUnderlying93, rfl, rfl, Try.sizeOf3, by decide, Try.isAgg3⟩⟩
theorem fi_93_8 : FieldIs Try.prog 93 8 8 1 false := ⟨⟨_, _, Try.runUnderlying93, rfl, rfl, Try.sizeOf47, by decide, Try.isAgg47⟩⟩
theorem pl_89 : ∀ fs, (∀ w, (underlying 89).run Try.prog w = .ok (.struct fs) w) → placesOf Try.prog fs [(0, 1), (1, 1), (2, 1), (3, 1), (4, 1), (5, 1), (6, 1), (7, 1), (8, 1), (9, 1), (10, 1), (11, 1), (12, 1)] := by
  intro fs h w
  have := (h w).symm.trans (Try.runUnderlying89 w)
  simp only [Result.ok.injEq, TypeDesc.struct.injEq, and_true] at this
  subst this
  simp [Try.sizeOf3, Try.sizeOf4, Try.sizeOf47, Try.sizeOf87, Sem.run]
theorem fi_93_11 : FieldIs Try.prog 93 11 11 1 false := ⟨⟨_, _, Try.runUnderlying93, rfl, rfl, Try.sizeOf91, by decide, Try.isAgg91⟩⟩
theorem fi_144_0 : FieldIs Try.prog 144 0 0 1 false := ⟨⟨_, _, Try.runUnderlying144, rfl, rfl, Try.sizeOf9, by decide, Try.isAgg9⟩⟩
theorem fi_144_1 : FieldIs Try.prog 144 1 1 1 false := ⟨⟨_, _, Try.runUnderlying144, rfl, rfl, Try.sizeOf3, by decide, Try.isAgg3⟩⟩
theorem pl_145 : ∀ fs, (∀ w, (underlying 145).run Try.prog w = .ok (.struct fs) w) → placesOf Try.prog fs [(0, 1), (1, 1)] := by
  intro fs h w
  have := (h w).symm.trans (Try.runUnderlying145 w)
  simp only [Result.ok.injEq, TypeDesc.struct.injEq, and_true] at this
  subst this
  simp [Try.sizeOf3, Try.sizeOf9, Sem.run]
theorem fi_93_12 : FieldIs Try.prog 93 12 12 1 false := ⟨⟨_, _, Try.runUnderlying93, rfl, rfl, Try.sizeOf91, by decide, Try.isAgg91⟩⟩
def m_syntagmalaw24_Give_l2 (x1 : AutoState) : Nat → (Int × (List AutoEdge) × (List AutoEdge) × Bool × Bool × Bool × Bool × Bool × Bool × Bool × Bool × (List Int) × Int × Int) → Option ((List AutoEdge) × (List AutoEdge) × Bool × Bool × Bool × Bool × Bool × Bool × Bool × Bool × (List Int) × Int × Int)
  | 0, _ => none
  | n + 1, (k1, l6, l7, z14, z15, z16, z17, z18, z19, z20, z21, z22, z23, z24) =>
    bif ((decide (k1 < (x1.fields.length : Int))) && (decide (k1 < 40))) then
      (idx x1.fields k1).bind fun x3 =>
      (idx x1.fields k1).bind fun x4 =>
      grd ((l7.length + ([(⟨x3.name, x4.to_⟩ : AutoEdge)] : List _).length) * 24 ≤ 140737488355328) <|
      grd (InR (k1 + 1)) <|
      m_syntagmalaw24_Give_l2 x1 n ((k1 + 1), l6, (l7 ++ [(⟨x3.name, x4.to_⟩ : AutoEdge)]), z14, z15, z16, z17, z18, z19, z20, z21, z22, z23, z24)
    else
      some (l6, l7, z14, z15, z16, z17, z18, z19, z20, z21, z22, z23, z24)

def m_syntagmalaw24_Give_l3 (x1 : AutoState) : Nat → (Int × (List AutoEdge) × (List AutoEdge) × Bool × Bool × Bool × Bool × Bool × Bool × Bool × Bool × (List Int) × Int × Int) → Option ((List AutoEdge) × (List AutoEdge) × Bool × Bool × Bool × Bool × Bool × Bool × Bool × Bool × (List Int) × Int × Int)
  | 0, _ => none
  | n + 1, (k2, l10, l11, z36, z37, z38, z39, z40, z41, z42, z43, z44, z45, z46) =>
    bif ((decide (k2 < (x1.tags.length : Int))) && (decide (k2 < 40))) then
      (idx x1.tags k2).bind fun x5 =>
      (idx x1.tags k2).bind fun x6 =>
      grd ((l10.length + ([(⟨x5.name, x6.to_⟩ : AutoEdge)] : List _).length) * 24 ≤ 140737488355328) <|
      grd (InR (k2 + 1)) <|
      m_syntagmalaw24_Give_l3 x1 n ((k2 + 1), (l10 ++ [(⟨x5.name, x6.to_⟩ : AutoEdge)]), l11, z36, z37, z38, z39, z40, z41, z42, z43, z44, z45, z46)
    else
      some (l10, l11, z36, z37, z38, z39, z40, z41, z42, z43, z44, z45, z46)

def m_syntagmalaw24_Give_l1 (a1 : AutoAuto) (most1 : Int) : Nat → (Int × (List AutoState) × Int) → Option ((List AutoState) × Int)
  | 0, _ => none
  | n + 1, (i1, l2, z2) =>
    bif ((decide (i1 < (a1.l.length : Int))) && ((decide (i1 < most1)) || ((decide (2000 < (a1.l.length : Int))) && (decide (i1 ≤ 2000))))) then
      (idx a1.l i1).bind fun x1 =>
      (sli x1.vars 0 (if 40 < (x1.vars.length : Int) then 40 else (x1.vars.length : Int))).bind fun l3 =>
      (m_syntagmabase_Ints l3).bind fun x2 =>
      (m_syntagmalaw24_Give_l2 x1 FU (0, ([] : List AutoEdge), ([] : List AutoEdge), x1.plus, x1.all, x1.int, x1.bool, x1.str, x1.arrow, x1.rec_, x1.tag, x2, x1.dom, x1.cod) : Option ((List AutoEdge) × (List AutoEdge) × Bool × Bool × Bool × Bool × Bool × Bool × Bool × Bool × (List Int) × Int × Int)).bind fun (l4, l5, z3, z4, z5, z6, z7, z8, z9, z10, z11, z12, z13) =>
      (m_syntagmalaw24_Give_l3 x1 FU (0, l4, l5, z3, z4, z5, z6, z7, z8, z9, z10, z11, z12, z13) : Option ((List AutoEdge) × (List AutoEdge) × Bool × Bool × Bool × Bool × Bool × Bool × Bool × Bool × (List Int) × Int × Int)).bind fun (l8, l9, z25, z26, z27, z28, z29, z30, z31, z32, z33, z34, z35) =>
      grd ((l2.length + ([(⟨z25, z26, z27, z28, z29, z30, z31, z32, z33, z34, z35, l9, l8⟩ : AutoState)] : List _).length) * 96 ≤ 140737488355328) <|
      grd (InR (i1 + 1)) <|
      m_syntagmalaw24_Give_l1 a1 most1 n ((i1 + 1), (l2 ++ [(⟨z25, z26, z27, z28, z29, z30, z31, z32, z33, z34, z35, l9, l8⟩ : AutoState)]), z2)
    else
      some (l2, z2)
def m_syntagmalaw24_Give (a1 : AutoAuto) (most1 : Int) : Option AutoAuto :=
  (m_syntagmalaw24_Give_l1 a1 most1 FU (0, ([] : List AutoState), a1.start) : Option ((List AutoState) × Int)).bind fun (l1, z1) =>
  some (⟨l1, z1⟩ : AutoAuto)
theorem w_syntagmalaw24_Give {a1 : AutoAuto} {most1 : Int} {r : AutoAuto} (hm : m_syntagmalaw24_Give a1 most1 = some r) : Fn0 Try.prog 45 [AutoAuto.d a1, .i64 most1] (AutoAuto.d r) := by
  unfold m_syntagmalaw24_Give at hm
  refine fn_intro Try.func45 rfl Try.ntmps45 rfl fun H0 fr w0 => ?_
  refine g_seq ?_
  refine g_region ?_
  refine go_p rfl rfl rfl (o_box rfl rfl) ?_
  refine go_op rfl rfl rfl (o_alloc_own Try.zeroValue81 (cs := [.list 13 AutoState.d [], .i64 0]) rfl) ?_
  rintro _ _ ⟨b1, rfl, rfl⟩
  refine go_nil ?_
  refine g_seq ?_
  refine g_region ?_
  refine go_p rfl rfl rfl (o_fieldAddr fi_78_1 rfl rfl rfl) ?_
  refine go_p rfl rfl rfl (o_load Try.isAgg3 rfl rfl) ?_
  refine go_p rfl rfl rfl (o_build (zs := [.v (.slice none 0 0), .v (.int .i64 0)]) Try.runUnderlying81 Try.zeroValue81 (pl_81 _ Try.runUnderlying81) rfl rfl rfl rfl) ?_
  refine go_op rfl rfl rfl (o_alloc_own Try.zeroValue81 (cs := [.list 13 AutoState.d [], .i64 0]) rfl) ?_
  rintro _ _ ⟨b2, rfl, rfl⟩
  refine go_u rfl rfl (o_store_box 0 Try.sizeOf81 rfl rfl rfl rfl rfl rfl rfl rfl (Nat.le_of_ble_eq_true rfl)) ?_
  rintro _ _ rfl
  refine go_conv (refines_newrow (T := 89) (sz := 13) (f := AutoState.d)) ?_
  refine go_ms (ms' := [_, box b2 81 [_, _], box b1 81 [_, _]]) rfl ?_
  refine go_nil ?_
  refine g_seq ?_
  refine g_seq ?_
  refine g_region ?_
  refine go_p rfl rfl rfl (o_assign rfl) ?_
  refine go_nil ?_
  obtain ⟨o_1, hj1, hm1⟩ := bind_some hm
  refine g_cut_m [(4, _), (5, _)] [(2, _)] (fun (st : ((List AutoState) × Int)) (hid : (Option Addr × Nat)) => match st, hid with | (l1, z1), (a_r1, cap_r1) => []) (fun F (st : ((List AutoState) × Int)) (hid : (Option Addr × Nat)) => match st, hid with | (l1, z1), (a_r1, cap_r1) => [row a_r1 cap_r1 89 13 AutoState.d l1, box b2 81 [.v (.slice a_r1 l1.length cap_r1), .i64 z1], (nthF F 0)]) (fun st => st = o_1) ⟨rfl, rfl, trivial⟩ ⟨rfl, trivial⟩ ?_ ?_
  · skip
    refine g_block ?_
    refine g_loop_m [(1, _), (2, _), (4, _), (5, _)] [(2, _)] (fun (st : (Int × (List AutoState) × Int)) (hid : (Option Addr × Nat)) => match st, hid with | (i1, l2, z2), (a_r1, cap_r1) => [(6, .i64 i1)]) (fun F (st : (Int × (List AutoState) × Int)) (hid : (Option Addr × Nat)) => match st, hid with | (i1, l2, z2), (a_r1, cap_r1) => [row a_r1 cap_r1 89 13 AutoState.d l2, box b2 81 [.v (.slice a_r1 l2.length cap_r1), .i64 z2], (nthF F 0)]) (_, _) hj1 (fun _ => rfl) ⟨rfl, rfl, rfl, rfl, trivial⟩ ⟨rfl, trivial⟩ ⟨rfl, trivial⟩ rfl ?_
    rintro n ⟨i1, l2, z2⟩ ⟨a_r1, cap_r1⟩ hj1
    rw [m_syntagmalaw24_Give_l1] at hj1
    refine g_norm (L' := [(6, .i64 i1), (1, _), (2, _), (4, _), (5, _)]) (ms' := [row a_r1 cap_r1 89 13 AutoState.d l2, box b2 81 [.v (.slice a_r1 l2.length cap_r1), .i64 z2], _]) rfl rfl ?_
    refine g_seq ?_
    refine g_seq ?_
    refine g_region ?_
    refine go_p rfl rfl rfl (o_move rfl) ?_
    refine go_p rfl rfl rfl (o_fieldAddr fi_78_0 rfl rfl rfl) ?_
    refine go_p rfl rfl rfl (o_load Try.isAgg76 rfl rfl) ?_
    refine go_p rfl rfl rfl (o_len Try.runUnderlying76 rfl) ?_
    refine go_p rfl rfl rfl (o_cmp rfl rfl rfl) ?_
    refine go_p rfl rfl rfl (o_move rfl) ?_
    apply go_and [(1, _), (2, _), (4, _), (5, _), (6, _)] 14 33 (t := 19) ⟨rfl, rfl, rfl, rfl, rfl, trivial⟩ rfl
    · intro hg_1 hk1
      refine go_wantp rfl rfl rfl hg_1 rfl rfl (o_move rfl) ?_
      refine go_wantp rfl rfl rfl hg_1 rfl rfl (o_move rfl) ?_
      refine go_wantp rfl rfl rfl hg_1 rfl rfl (o_cmp rfl rfl rfl) ?_
      refine go_wantp rfl rfl rfl hg_1 rfl rfl (o_move rfl) ?_
      apply go_or [(1, _), (2, _), (4, _), (5, _), (6, _), (19, _)] 9 32 (t := 23) ⟨rfl, rfl, rfl, rfl, rfl, rfl, trivial⟩ rfl
      · intro hg_2 hk2
        refine go_wantp rfl rfl rfl hg_2 rfl rfl (o_fieldAddr fi_78_0 rfl rfl rfl) ?_
        refine go_wantp rfl rfl rfl hg_2 rfl rfl (o_load Try.isAgg76 rfl rfl) ?_
        refine go_wantp rfl rfl rfl hg_2 rfl rfl (o_len Try.runUnderlying76 rfl) ?_
        refine go_wantp rfl rfl rfl hg_2 rfl rfl (o_cmp rfl rfl rfl) ?_
        refine go_wantp rfl rfl rfl hg_2 rfl rfl (o_move rfl) ?_
        apply go_and [(1, _), (2, _), (4, _), (5, _), (6, _), (19, _), (23, _)] 3 31 (t := 28) ⟨rfl, rfl, rfl, rfl, rfl, rfl, rfl, trivial⟩ rfl
        · intro hg_3 hk3
          refine go_wantp rfl rfl rfl hg_3 rfl rfl (o_move rfl) ?_
          refine go_wantp rfl rfl rfl hg_3 rfl rfl (o_cmp rfl rfl rfl) ?_
          refine go_wantp rfl rfl rfl hg_2 rfl rfl (o_pickT rfl hg_3 rfl) ?_
          exact go_meet hk3 (rfl) ⟨rfl, rfl, rfl, rfl, rfl, rfl, rfl, trivial⟩
        · intro hg_3 hk3
          refine go_skip rfl rfl rfl hg_3 rfl rfl ?_
          refine go_skip rfl rfl rfl hg_3 rfl rfl ?_
          refine go_wantp rfl rfl rfl hg_2 rfl rfl (o_pickF rfl hg_3 rfl) ?_
          exact go_meet hk3 (rfl) ⟨rfl, rfl, rfl, rfl, rfl, rfl, rfl, trivial⟩
        refine go_wantp rfl rfl rfl hg_1 rfl rfl (o_pickF rfl hg_2 rfl) ?_
        exact go_meet hk2 (rfl) ⟨rfl, rfl, rfl, rfl, rfl, rfl, trivial⟩
      · intro hg_2 hk2
        refine go_skip rfl rfl rfl hg_2 rfl rfl ?_
        refine go_skip rfl rfl rfl hg_2 rfl rfl ?_
        refine go_skip rfl rfl rfl hg_2 rfl rfl ?_
        refine go_skip rfl rfl rfl hg_2 rfl rfl ?_
        refine go_skip rfl rfl rfl hg_2 rfl rfl ?_
        refine go_skipu rfl rfl rfl rfl rfl ?_
        refine go_skipu rfl rfl rfl rfl rfl ?_
        refine go_skip rfl rfl rfl hg_2 rfl rfl ?_
        refine go_wantp rfl rfl rfl hg_1 rfl rfl (o_pickT rfl hg_2 rfl) ?_
        exact go_meet hk2 (rfl) ⟨rfl, rfl, rfl, rfl, rfl, rfl, trivial⟩
      refine go_p rfl rfl rfl (o_pickT rfl hg_1 rfl) ?_
      exact go_meet hk1 (rfl) ⟨rfl, rfl, rfl, rfl, rfl, trivial⟩
    · intro hg_1 hk1
      refine go_skip rfl rfl rfl hg_1 rfl rfl ?_
      refine go_skip rfl rfl rfl hg_1 rfl rfl ?_
      refine go_skip rfl rfl rfl hg_1 rfl rfl ?_
      refine go_skip rfl rfl rfl hg_1 rfl rfl ?_
      refine go_skipu rfl rfl rfl rfl rfl ?_
      refine go_skipu rfl rfl rfl rfl rfl ?_
      refine go_skipu rfl rfl rfl rfl rfl ?_
      refine go_skipu rfl rfl rfl rfl rfl ?_
      refine go_skipu rfl rfl rfl rfl rfl ?_
      refine go_skipu rfl rfl rfl rfl rfl ?_
      refine go_skipu rfl rfl rfl rfl rfl ?_
      refine go_skipu rfl rfl rfl rfl rfl ?_
      refine go_skip rfl rfl rfl hg_1 rfl rfl ?_
      refine go_p rfl rfl rfl (o_pickF rfl hg_1 rfl) ?_
      exact go_meet hk1 (rfl) ⟨rfl, rfl, rfl, rfl, rfl, trivial⟩
    refine go_nil ?_
    refine g_cond rfl (fun hc1 => ?_) (fun hc1 => ?_)
    · replace hj1 := cond_t hc1 hj1
      refine g_skip ?_
      refine g_seq ?_
      refine g_block ?_
      refine g_seq ?_
      refine g_region ?_
      refine go_p rfl rfl rfl (o_fieldAddr fi_78_0 rfl rfl rfl) ?_
      refine go_p rfl rfl rfl (o_load Try.isAgg76 rfl rfl) ?_
      refine go_p rfl rfl rfl (o_move rfl) ?_
      obtain ⟨x1, hx1, hj1⟩ := bind_some hj1
      refine go_p rfl rfl rfl (o_indexAddr_m Try.runUnderlying76 Try.sizeOf93 rfl rfl hx1) ?_
      refine go_p rfl rfl rfl (o_load_agg Try.isAgg93 Try.sizeOf93 rfl rfl) ?_
      refine go_op rfl rfl rfl (o_alloc_own Try.zeroValue93 (cs := [.bool false, .bool false, .bool false, .bool false, .bool false, .bool false, .bool false, .bool false, .list 1 D.i64 [], .i64 0, .i64 0, .list 2 AutoEdge.d [], .list 2 AutoEdge.d []]) rfl) ?_
      rintro _ _ ⟨b3, rfl, rfl⟩
      refine go_u rfl rfl (o_store_box 0 Try.sizeOf93 rfl rfl rfl rfl rfl rfl rfl rfl (Nat.le_of_ble_eq_true rfl)) ?_
      rintro _ _ rfl
      refine go_ms (ms' := [box b3 93 [_, _, _, _, _, _, _, _, _, _, _, _, _], _, box b2 81 [_, _], box b1 81 [_, _]]) rfl ?_
      refine go_nil ?_
      refine g_seq ?_
      obtain ⟨l3, hx2, hj1⟩ := bind_some hj1
      obtain ⟨x2, hx3, hj1⟩ := bind_some hj1
      refine g_draw_f 30 [29] Try_mixed (by decide +kernel) (by decide +kernel) rfl (by decide +kernel) ?_
      refine gdf_p rfl rfl rfl rfl (o_fieldAddr_box fi_93_0 rfl) ?_
      refine gdf_p rfl rfl rfl rfl (o_load_box 0 Try.isAgg4 rfl rfl rfl rfl) ?_
      refine gdf_p rfl rfl rfl rfl (o_fieldAddr_box fi_93_1 rfl) ?_
      refine gdf_p rfl rfl rfl rfl (o_load_box 0 Try.isAgg4 rfl rfl rfl rfl) ?_
      refine gdf_p rfl rfl rfl rfl (o_fieldAddr_box fi_93_2 rfl) ?_
      refine gdf_p rfl rfl rfl rfl (o_load_box 0 Try.isAgg4 rfl rfl rfl rfl) ?_
      refine gdf_p rfl rfl rfl rfl (o_fieldAddr_box fi_93_3 rfl) ?_
      refine gdf_p rfl rfl rfl rfl (o_load_box 0 Try.isAgg4 rfl rfl rfl rfl) ?_
      refine gdf_p rfl rfl rfl rfl (o_fieldAddr_box fi_93_4 rfl) ?_
      refine gdf_p rfl rfl rfl rfl (o_load_box 0 Try.isAgg4 rfl rfl rfl rfl) ?_
      refine gdf_p rfl rfl rfl rfl (o_fieldAddr_box fi_93_5 rfl) ?_
      refine gdf_p rfl rfl rfl rfl (o_load_box 0 Try.isAgg4 rfl rfl rfl rfl) ?_
      refine gdf_p rfl rfl rfl rfl (o_fieldAddr_box fi_93_6 rfl) ?_
      refine gdf_p rfl rfl rfl rfl (o_load_box 0 Try.isAgg4 rfl rfl rfl rfl) ?_
      refine gdf_p rfl rfl rfl rfl (o_fieldAddr_box fi_93_7 rfl) ?_
      refine gdf_p rfl rfl rfl rfl (o_load_box 0 Try.isAgg4 rfl rfl rfl rfl) ?_
      refine gdf_p rfl rfl rfl rfl (o_fieldAddr_box fi_93_9 rfl) ?_
      refine gdf_p rfl rfl rfl rfl (o_load_box 0 Try.isAgg3 rfl rfl rfl rfl) ?_
      refine gdf_p rfl rfl rfl rfl (o_fieldAddr_box fi_93_10 rfl) ?_
      refine gdf_p rfl rfl rfl rfl (o_load_box 0 Try.isAgg3 rfl rfl rfl rfl) ?_
      refine gdf_p rfl rfl rfl rfl (o_fieldAddr_box fi_93_8 rfl) ?_
      refine gdf_p rfl rfl rfl rfl (o_load_box 0 Try.isAgg47 rfl rfl rfl rfl) ?_
      refine gdf_p rfl rfl rfl rfl (o_fieldAddr_box fi_93_8 rfl) ?_
      refine gdf_p rfl rfl rfl rfl (o_load_box 0 Try.isAgg47 rfl rfl rfl rfl) ?_
      refine gdf_p rfl rfl rfl rfl (o_len Try.runUnderlying47 rfl) ?_
      refine gdf_p rfl rfl rfl rfl (o_min rfl rfl) ?_
      refine gdf_p rfl rfl rfl rfl (o_slice_m Try.runUnderlying47 Try.sizeOf3 rfl rfl ⟨_, rfl⟩ hx2) ?_
      refine gdf_p rfl rfl rfl rfl (o_call0 Try.call36 rfl (w_syntagmabase_Ints hx3)) ?_
      refine gdf_p rfl rfl rfl rfl (o_build (zs := [.bool false, .bool false, .bool false, .bool false, .bool false, .bool false, .bool false, .bool false, .list 1 D.i64 [], .v (.int .i64 0), .v (.int .i64 0), .v (.slice none 0 0), .v (.slice none 0 0)]) Try.runUnderlying89 Try.zeroValue89 (pl_89 _ Try.runUnderlying89) rfl rfl rfl rfl) ?_
      refine gdf_fresh (R := fun d A => ∃ b, d = .v (.pointer (some ⟨b, 0, none⟩)) ∧ A = box b 89 [.bool false, .bool false, .bool false, .bool false, .bool false, .bool false, .bool false, .bool false, .list 1 D.i64 [], .i64 0, .i64 0, .list 2 AutoEdge.d [], .list 2 AutoEdge.d []]) rfl rfl rfl (OpT.mono (o_alloc_own Try.zeroValue89 (cs := [.bool false, .bool false, .bool false, .bool false, .bool false, .bool false, .bool false, .bool false, .list 1 D.i64 [], .i64 0, .i64 0, .list 2 AutoEdge.d [], .list 2 AutoEdge.d []]) rfl) (by rintro d ms' ⟨b, rfl, rfl⟩; exact ⟨_, ⟨b, rfl, rfl⟩, rfl⟩)) ?_
      refine gdf_nil ?_
      rintro _ _ ⟨b4, rfl, rfl⟩
      refine go_u rfl rfl (o_store_box 0 Try.sizeOf89 rfl rfl rfl rfl rfl rfl rfl rfl (Nat.le_of_ble_eq_true rfl)) ?_
      rintro _ _ rfl
      refine go_conv (refines_newrow (T := 145) (sz := 2) (f := AutoEdge.d)) ?_
      refine go_conv (refines_newrow (T := 145) (sz := 2) (f := AutoEdge.d)) ?_
      refine go_ms (ms' := [_, _, box b4 89 [_, _, _, _, _, _, _, _, _, _, _, _, _], box b3 93 [_, _, _, _, _, _, _, _, _, _, _, _, _], _, box b2 81 [_, _], box b1 81 [_, _]]) rfl ?_
      refine go_nil ?_
      refine g_seq ?_
      refine g_seq ?_
      refine g_region ?_
      refine go_p rfl rfl rfl (o_assign rfl) ?_
      refine go_nil ?_
      obtain ⟨o_2, hj2, hm2⟩ := bind_some hj1
      refine g_cut_m [(1, _), (2, _), (4, _), (5, _), (6, _), (7, _), (8, _)] [(3, _), (4, _), (5, _), (6, _)] (fun (st : ((List AutoEdge) × (List AutoEdge) × Bool × Bool × Bool × Bool × Bool × Bool × Bool × Bool × (List Int) × Int × Int)) (hid : (Option Addr × Nat) × (Option Addr × Nat)) => match st, hid with | (l4, l5, z3, z4, z5, z6, z7, z8, z9, z10, z11, z12, z13), ((a_r3, cap_r3), (a_r2, cap_r2)) => []) (fun F (st : ((List AutoEdge) × (List AutoEdge) × Bool × Bool × Bool × Bool × Bool × Bool × Bool × Bool × (List Int) × Int × Int)) (hid : (Option Addr × Nat) × (Option Addr × Nat)) => match st, hid with | (l4, l5, z3, z4, z5, z6, z7, z8, z9, z10, z11, z12, z13), ((a_r3, cap_r3), (a_r2, cap_r2)) => [row a_r3 cap_r3 145 2 AutoEdge.d l4, row a_r2 cap_r2 145 2 AutoEdge.d l5, box b4 89 [.bool z3, .bool z4, .bool z5, .bool z6, .bool z7, .bool z8, .bool z9, .bool z10, .list 1 D.i64 z11, .i64 z12, .i64 z13, .v (.slice a_r2 l5.length cap_r2), .v (.slice a_r3 l4.length cap_r3)], (nthF F 0), (nthF F 1), (nthF F 2), (nthF F 3)]) (fun st => st = o_2) ⟨rfl, rfl, rfl, rfl, rfl, rfl, rfl, trivial⟩ ⟨rfl, rfl, rfl, rfl, trivial⟩ ?_ ?_
      · skip
        refine g_block ?_
        refine g_loop_m [(1, _), (2, _), (4, _), (5, _), (6, _), (7, _), (8, _)] [(3, _), (4, _), (5, _), (6, _)] (fun (st : (Int × (List AutoEdge) × (List AutoEdge) × Bool × Bool × Bool × Bool × Bool × Bool × Bool × Bool × (List Int) × Int × Int)) (hid : (Option Addr × Nat) × (Option Addr × Nat)) => match st, hid with | (k1, l6, l7, z14, z15, z16, z17, z18, z19, z20, z21, z22, z23, z24), ((a_r3, cap_r3), (a_r2, cap_r2)) => [(9, .i64 k1)]) (fun F (st : (Int × (List AutoEdge) × (List AutoEdge) × Bool × Bool × Bool × Bool × Bool × Bool × Bool × Bool × (List Int) × Int × Int)) (hid : (Option Addr × Nat) × (Option Addr × Nat)) => match st, hid with | (k1, l6, l7, z14, z15, z16, z17, z18, z19, z20, z21, z22, z23, z24), ((a_r3, cap_r3), (a_r2, cap_r2)) => [row a_r3 cap_r3 145 2 AutoEdge.d l6, row a_r2 cap_r2 145 2 AutoEdge.d l7, box b4 89 [.bool z14, .bool z15, .bool z16, .bool z17, .bool z18, .bool z19, .bool z20, .bool z21, .list 1 D.i64 z22, .i64 z23, .i64 z24, .v (.slice a_r2 l7.length cap_r2), .v (.slice a_r3 l6.length cap_r3)], (nthF F 0), (nthF F 1), (nthF F 2), (nthF F 3)]) ((_, _), (_, _)) hj2 (fun _ => rfl) ⟨rfl, rfl, rfl, rfl, rfl, rfl, rfl, trivial⟩ ⟨rfl, rfl, rfl, rfl, trivial⟩ ⟨rfl, trivial⟩ rfl ?_
        rintro n ⟨k1, l6, l7, z14, z15, z16, z17, z18, z19, z20, z21, z22, z23, z24⟩ ⟨⟨a_r3, cap_r3⟩, ⟨a_r2, cap_r2⟩⟩ hj2
        rw [m_syntagmalaw24_Give_l2] at hj2
        refine g_norm (L' := [(9, .i64 k1), (1, _), (2, _), (4, _), (5, _), (6, _), (7, _), (8, _)]) (ms' := [row a_r3 cap_r3 145 2 AutoEdge.d l6, row a_r2 cap_r2 145 2 AutoEdge.d l7, box b4 89 [.bool z14, .bool z15, .bool z16, .bool z17, .bool z18, .bool z19, .bool z20, .bool z21, .list 1 D.i64 z22, .i64 z23, .i64 z24, .v (.slice a_r2 l7.length cap_r2), .v (.slice a_r3 l6.length cap_r3)], _, _, _, _]) rfl rfl ?_
        refine g_seq ?_
        refine g_seq ?_
        refine g_region ?_
        refine go_p rfl rfl rfl (o_move rfl) ?_
        refine go_p rfl rfl rfl (o_fieldAddr_box fi_93_11 rfl) ?_
        refine go_p rfl rfl rfl (o_load_box 3 Try.isAgg91 rfl rfl rfl rfl) ?_
        refine go_p rfl rfl rfl (o_len Try.runUnderlying91 rfl) ?_
        refine go_p rfl rfl rfl (o_cmp rfl rfl rfl) ?_
        refine go_p rfl rfl rfl (o_move rfl) ?_
        apply go_and [(1, _), (2, _), (4, _), (5, _), (6, _), (7, _), (8, _), (9, _)] 3 78 (t := 75) ⟨rfl, rfl, rfl, rfl, rfl, rfl, rfl, rfl, trivial⟩ rfl
        · intro hg_4 hk4
          refine go_wantp rfl rfl rfl hg_4 rfl rfl (o_move rfl) ?_
          refine go_wantp rfl rfl rfl hg_4 rfl rfl (o_cmp rfl rfl rfl) ?_
          refine go_p rfl rfl rfl (o_pickT rfl hg_4 rfl) ?_
          exact go_meet hk4 (rfl) ⟨rfl, rfl, rfl, rfl, rfl, rfl, rfl, rfl, trivial⟩
        · intro hg_4 hk4
          refine go_skip rfl rfl rfl hg_4 rfl rfl ?_
          refine go_skip rfl rfl rfl hg_4 rfl rfl ?_
          refine go_p rfl rfl rfl (o_pickF rfl hg_4 rfl) ?_
          exact go_meet hk4 (rfl) ⟨rfl, rfl, rfl, rfl, rfl, rfl, rfl, rfl, trivial⟩
        refine go_nil ?_
        refine g_cond rfl (fun hc2 => ?_) (fun hc2 => ?_)
        · replace hj2 := cond_t hc2 hj2
          refine g_skip ?_
          refine g_seq ?_
          refine g_block ?_
          obtain ⟨x3, hx4, hj2⟩ := bind_some hj2
          obtain ⟨x4, hx5, hj2⟩ := bind_some hj2
          refine g_draw 16 Try_mixed (by decide +kernel) ?_
          refine gd_p rfl rfl rfl (o_fieldAddr_box fi_89_11 rfl) ?_
          refine gd_p rfl rfl rfl (o_load_box 2 Try.isAgg87 rfl rfl rfl rfl) ?_
          refine gd_p rfl rfl rfl (o_fieldAddr_box fi_93_11 rfl) ?_
          refine gd_p rfl rfl rfl (o_load_box 3 Try.isAgg91 rfl rfl rfl rfl) ?_
          refine gd_p rfl rfl rfl (o_move rfl) ?_
          refine gd_p rfl rfl rfl (o_indexAddr_m Try.runUnderlying91 Try.sizeOf144 rfl rfl hx4) ?_
          refine gd_p rfl rfl rfl (o_fieldAddr fi_144_0 rfl rfl rfl) ?_
          refine gd_p rfl rfl rfl (o_load Try.isAgg9 rfl rfl) ?_
          refine gd_p rfl rfl rfl (o_fieldAddr_box fi_93_11 rfl) ?_
          refine gd_p rfl rfl rfl (o_load_box 3 Try.isAgg91 rfl rfl rfl rfl) ?_
          refine gd_p rfl rfl rfl (o_move rfl) ?_
          refine gd_p rfl rfl rfl (o_indexAddr_m Try.runUnderlying91 Try.sizeOf144 rfl rfl hx5) ?_
          refine gd_p rfl rfl rfl (o_fieldAddr fi_144_1 rfl rfl rfl) ?_
          refine gd_p rfl rfl rfl (o_load Try.isAgg3 rfl rfl) ?_
          refine gd_p rfl rfl rfl (o_build (zs := [.str [], .v (.int .i64 0)]) Try.runUnderlying145 Try.zeroValue145 (pl_145 _ Try.runUnderlying145) rfl rfl rfl rfl) ?_
          refine gd_p rfl rfl rfl (o_buildSlice (xs := [_]) (f := AutoEdge.d) (l := [(⟨x3.name, x4.to_⟩ : AutoEdge)]) Try.runUnderlying87 Try.sizeOf145 Try.zeroValue145 rfl rfl rfl (fun _ => ⟨rfl, rfl, rfl⟩) rfl) ?_
          refine gd_nil ?_
          obtain ⟨hg6, hj2⟩ := grd_some hj2
          refine go_op rfl rfl rfl (o_append (a := _) 1 Try.underlying87 Try.type145 rfl rfl rfl rfl rfl rfl rfl (fun _ => rfl) (fun _ => rfl) hg6 (app_len hg6 rfl)) ?_
          rintro _ _ ⟨a_r2, cap_r2, rfl, rfl⟩
          refine go_ms (ms' := [_, _, box b4 89 [_, _, _, _, _, _, _, _, _, _, _, _, _], box b3 93 [_, _, _, _, _, _, _, _, _, _, _, _, _], _, box b2 81 [_, _], box b1 81 [_, _]]) rfl ?_
          refine go_p rfl rfl rfl (o_fieldAddr_box fi_89_11 rfl) ?_
          refine go_u rfl rfl (o_store_box 2 Try.sizeOf87 rfl rfl rfl rfl rfl rfl rfl rfl (Nat.le_of_ble_eq_true rfl)) ?_
          rintro _ _ rfl
          refine go_ms (ms' := [_, _, box b4 89 [_, _, _, _, _, _, _, _, _, _, _, _, _], box b3 93 [_, _, _, _, _, _, _, _, _, _, _, _, _], _, box b2 81 [_, _], box b1 81 [_, _]]) rfl ?_
          refine go_nil ?_
          refine g_region ?_
          refine go_p rfl rfl rfl (o_move rfl) ?_
          obtain ⟨hg7, hj2⟩ := grd_some hj2
          refine go_p rfl rfl rfl (o_add rfl rfl (i64_id hg7)) ?_
          refine go_p rfl rfl rfl (o_assign rfl) ?_
          refine go_nil ?_
          exact ⟨_, ((_, _), (_, _)), hj2, ⟨rfl, trivial⟩, ⟨rfl, rfl, rfl, rfl, rfl, rfl, rfl, trivial⟩, [], rfl⟩
        · replace hj2 := cond_f hc2 hj2
          refine g_exit ?_
          exact ⟨_, ((_, _), (_, _)), some_eq hj2, trivial, ⟨rfl, rfl, rfl, rfl, rfl, rfl, rfl, trivial⟩, [], rfl⟩
      · rintro ⟨l4, l5, z3, z4, z5, z6, z7, z8, z9, z10, z11, z12, z13⟩ ⟨⟨a_r3, cap_r3⟩, ⟨a_r2, cap_r2⟩⟩ hst
        subst hst
        refine k_norm (L' := [(1, _), (2, _), (4, _), (5, _), (6, _), (7, _), (8, _)]) (ms' := [row a_r3 cap_r3 145 2 AutoEdge.d l4, row a_r2 cap_r2 145 2 AutoEdge.d l5, box b4 89 [.bool z3, .bool z4, .bool z5, .bool z6, .bool z7, .bool z8, .bool z9, .bool z10, .list 1 D.i64 z11, .i64 z12, .i64 z13, .v (.slice a_r2 l5.length cap_r2), .v (.slice a_r3 l4.length cap_r3)], _, _, _, _]) rfl rfl ?_
        refine g_seq ?_
        refine g_seq ?_
        refine g_region ?_
        refine go_p rfl rfl rfl (o_assign rfl) ?_
        refine go_nil ?_
        obtain ⟨o_3, hj3, hm3⟩ := bind_some hm2
        refine g_cut_m [(1, _), (2, _), (4, _), (5, _), (6, _), (8, _)] [(3, _), (4, _), (5, _), (6, _)] (fun (st : ((List AutoEdge) × (List AutoEdge) × Bool × Bool × Bool × Bool × Bool × Bool × Bool × Bool × (List Int) × Int × Int)) (hid : (Option Addr × Nat) × (Option Addr × Nat)) => match st, hid with | (l8, l9, z25, z26, z27, z28, z29, z30, z31, z32, z33, z34, z35), ((a_r3, cap_r3), (a_r2, cap_r2)) => []) (fun F (st : ((List AutoEdge) × (List AutoEdge) × Bool × Bool × Bool × Bool × Bool × Bool × Bool × Bool × (List Int) × Int × Int)) (hid : (Option Addr × Nat) × (Option Addr × Nat)) => match st, hid with | (l8, l9, z25, z26, z27, z28, z29, z30, z31, z32, z33, z34, z35), ((a_r3, cap_r3), (a_r2, cap_r2)) => [row a_r3 cap_r3 145 2 AutoEdge.d l8, row a_r2 cap_r2 145 2 AutoEdge.d l9, box b4 89 [.bool z25, .bool z26, .bool z27, .bool z28, .bool z29, .bool z30, .bool z31, .bool z32, .list 1 D.i64 z33, .i64 z34, .i64 z35, .v (.slice a_r2 l9.length cap_r2), .v (.slice a_r3 l8.length cap_r3)], (nthF F 0), (nthF F 1), (nthF F 2), (nthF F 3)]) (fun st => st = o_3) ⟨rfl, rfl, rfl, rfl, rfl, rfl, trivial⟩ ⟨rfl, rfl, rfl, rfl, trivial⟩ ?_ ?_
        · skip
          refine g_block ?_
          refine g_loop_m [(1, _), (2, _), (4, _), (5, _), (6, _), (7, _), (8, _)] [(3, _), (4, _), (5, _), (6, _)] (fun (st : (Int × (List AutoEdge) × (List AutoEdge) × Bool × Bool × Bool × Bool × Bool × Bool × Bool × Bool × (List Int) × Int × Int)) (hid : (Option Addr × Nat) × (Option Addr × Nat)) => match st, hid with | (k2, l10, l11, z36, z37, z38, z39, z40, z41, z42, z43, z44, z45, z46), ((a_r3, cap_r3), (a_r2, cap_r2)) => [(10, .i64 k2)]) (fun F (st : (Int × (List AutoEdge) × (List AutoEdge) × Bool × Bool × Bool × Bool × Bool × Bool × Bool × Bool × (List Int) × Int × Int)) (hid : (Option Addr × Nat) × (Option Addr × Nat)) => match st, hid with | (k2, l10, l11, z36, z37, z38, z39, z40, z41, z42, z43, z44, z45, z46), ((a_r3, cap_r3), (a_r2, cap_r2)) => [row a_r3 cap_r3 145 2 AutoEdge.d l10, row a_r2 cap_r2 145 2 AutoEdge.d l11, box b4 89 [.bool z36, .bool z37, .bool z38, .bool z39, .bool z40, .bool z41, .bool z42, .bool z43, .list 1 D.i64 z44, .i64 z45, .i64 z46, .v (.slice a_r2 l11.length cap_r2), .v (.slice a_r3 l10.length cap_r3)], (nthF F 0), (nthF F 1), (nthF F 2), (nthF F 3)]) ((_, _), (_, _)) hj3 (fun _ => rfl) ⟨rfl, rfl, rfl, rfl, rfl, rfl, rfl, trivial⟩ ⟨rfl, rfl, rfl, rfl, trivial⟩ ⟨rfl, trivial⟩ rfl ?_
          rintro n ⟨k2, l10, l11, z36, z37, z38, z39, z40, z41, z42, z43, z44, z45, z46⟩ ⟨⟨a_r3, cap_r3⟩, ⟨a_r2, cap_r2⟩⟩ hj3
          rw [m_syntagmalaw24_Give_l3] at hj3
          refine g_norm (L' := [(10, .i64 k2), (1, _), (2, _), (4, _), (5, _), (6, _), (7, _), (8, _)]) (ms' := [row a_r3 cap_r3 145 2 AutoEdge.d l10, row a_r2 cap_r2 145 2 AutoEdge.d l11, box b4 89 [.bool z36, .bool z37, .bool z38, .bool z39, .bool z40, .bool z41, .bool z42, .bool z43, .list 1 D.i64 z44, .i64 z45, .i64 z46, .v (.slice a_r2 l11.length cap_r2), .v (.slice a_r3 l10.length cap_r3)], _, _, _, _]) rfl rfl ?_
          refine g_seq ?_
          refine g_seq ?_
          refine g_region ?_
          refine go_p rfl rfl rfl (o_move rfl) ?_
          refine go_p rfl rfl rfl (o_fieldAddr_box fi_93_12 rfl) ?_
          refine go_p rfl rfl rfl (o_load_box 3 Try.isAgg91 rfl rfl rfl rfl) ?_
          refine go_p rfl rfl rfl (o_len Try.runUnderlying91 rfl) ?_
          refine go_p rfl rfl rfl (o_cmp rfl rfl rfl) ?_
          refine go_p rfl rfl rfl (o_move rfl) ?_
          apply go_and [(1, _), (2, _), (4, _), (5, _), (6, _), (7, _), (8, _), (10, _)] 3 107 (t := 104) ⟨rfl, rfl, rfl, rfl, rfl, rfl, rfl, rfl, trivial⟩ rfl
          · intro hg_5 hk5
            refine go_wantp rfl rfl rfl hg_5 rfl rfl (o_move rfl) ?_
            refine go_wantp rfl rfl rfl hg_5 rfl rfl (o_cmp rfl rfl rfl) ?_
            refine go_p rfl rfl rfl (o_pickT rfl hg_5 rfl) ?_
            exact go_meet hk5 (rfl) ⟨rfl, rfl, rfl, rfl, rfl, rfl, rfl, rfl, trivial⟩
          · intro hg_5 hk5
            refine go_skip rfl rfl rfl hg_5 rfl rfl ?_
            refine go_skip rfl rfl rfl hg_5 rfl rfl ?_
            refine go_p rfl rfl rfl (o_pickF rfl hg_5 rfl) ?_
            exact go_meet hk5 (rfl) ⟨rfl, rfl, rfl, rfl, rfl, rfl, rfl, rfl, trivial⟩
          refine go_nil ?_
          refine g_cond rfl (fun hc3 => ?_) (fun hc3 => ?_)
          · replace hj3 := cond_t hc3 hj3
            refine g_skip ?_
            refine g_seq ?_
            refine g_block ?_
            obtain ⟨x5, hx8, hj3⟩ := bind_some hj3
            obtain ⟨x6, hx9, hj3⟩ := bind_some hj3
            refine g_draw 16 Try_mixed (by decide +kernel) ?_
            refine gd_p rfl rfl rfl (o_fieldAddr_box fi_89_12 rfl) ?_
            refine gd_p rfl rfl rfl (o_load_box 2 Try.isAgg87 rfl rfl rfl rfl) ?_
            refine gd_p rfl rfl rfl (o_fieldAddr_box fi_93_12 rfl) ?_
            refine gd_p rfl rfl rfl (o_load_box 3 Try.isAgg91 rfl rfl rfl rfl) ?_
            refine gd_p rfl rfl rfl (o_move rfl) ?_
            refine gd_p rfl rfl rfl (o_indexAddr_m Try.runUnderlying91 Try.sizeOf144 rfl rfl hx8) ?_
            refine gd_p rfl rfl rfl (o_fieldAddr fi_144_0 rfl rfl rfl) ?_
            refine gd_p rfl rfl rfl (o_load Try.isAgg9 rfl rfl) ?_
            refine gd_p rfl rfl rfl (o_fieldAddr_box fi_93_12 rfl) ?_
            refine gd_p rfl rfl rfl (o_load_box 3 Try.isAgg91 rfl rfl rfl rfl) ?_
            refine gd_p rfl rfl rfl (o_move rfl) ?_
            refine gd_p rfl rfl rfl (o_indexAddr_m Try.runUnderlying91 Try.sizeOf144 rfl rfl hx9) ?_
            refine gd_p rfl rfl rfl (o_fieldAddr fi_144_1 rfl rfl rfl) ?_
            refine gd_p rfl rfl rfl (o_load Try.isAgg3 rfl rfl) ?_
            refine gd_p rfl rfl rfl (o_build (zs := [.str [], .v (.int .i64 0)]) Try.runUnderlying145 Try.zeroValue145 (pl_145 _ Try.runUnderlying145) rfl rfl rfl rfl) ?_
            refine gd_p rfl rfl rfl (o_buildSlice (xs := [_]) (f := AutoEdge.d) (l := [(⟨x5.name, x6.to_⟩ : AutoEdge)]) Try.runUnderlying87 Try.sizeOf145 Try.zeroValue145 rfl rfl rfl (fun _ => ⟨rfl, rfl, rfl⟩) rfl) ?_
            refine gd_nil ?_
            obtain ⟨hg10, hj3⟩ := grd_some hj3
            refine go_op rfl rfl rfl (o_append (a := _) 0 Try.underlying87 Try.type145 rfl rfl rfl rfl rfl rfl rfl (fun _ => rfl) (fun _ => rfl) hg10 (app_len hg10 rfl)) ?_
            rintro _ _ ⟨a_r3, cap_r3, rfl, rfl⟩
            refine go_ms (ms' := [_, _, box b4 89 [_, _, _, _, _, _, _, _, _, _, _, _, _], box b3 93 [_, _, _, _, _, _, _, _, _, _, _, _, _], _, box b2 81 [_, _], box b1 81 [_, _]]) rfl ?_
            refine go_p rfl rfl rfl (o_fieldAddr_box fi_89_12 rfl) ?_
            refine go_u rfl rfl (o_store_box 2 Try.sizeOf87 rfl rfl rfl rfl rfl rfl rfl rfl (Nat.le_of_ble_eq_true rfl)) ?_
            rintro _ _ rfl
            refine go_ms (ms' := [_, _, box b4 89 [_, _, _, _, _, _, _, _, _, _, _, _, _], box b3 93 [_, _, _, _, _, _, _, _, _, _, _, _, _], _, box b2 81 [_, _], box b1 81 [_, _]]) rfl ?_
            refine go_nil ?_
            refine g_region ?_
            refine go_p rfl rfl rfl (o_move rfl) ?_
            obtain ⟨hg11, hj3⟩ := grd_some hj3
            refine go_p rfl rfl rfl (o_add rfl rfl (i64_id hg11)) ?_
            refine go_p rfl rfl rfl (o_assign rfl) ?_
            refine go_nil ?_
            exact ⟨_, ((_, _), (_, _)), hj3, ⟨rfl, trivial⟩, ⟨rfl, rfl, rfl, rfl, rfl, rfl, rfl, trivial⟩, [], rfl⟩
          · replace hj3 := cond_f hc3 hj3
            refine g_exit ?_
            exact ⟨_, ((_, _), (_, _)), some_eq hj3, trivial, ⟨rfl, rfl, rfl, rfl, rfl, rfl, trivial⟩, [], rfl⟩
        · rintro ⟨l8, l9, z25, z26, z27, z28, z29, z30, z31, z32, z33, z34, z35⟩ ⟨⟨a_r3, cap_r3⟩, ⟨a_r2, cap_r2⟩⟩ hst
          subst hst
          refine k_norm (L' := [(1, _), (2, _), (4, _), (5, _), (6, _), (8, _)]) (ms' := [row a_r3 cap_r3 145 2 AutoEdge.d l8, row a_r2 cap_r2 145 2 AutoEdge.d l9, box b4 89 [.bool z25, .bool z26, .bool z27, .bool z28, .bool z29, .bool z30, .bool z31, .bool z32, .list 1 D.i64 z33, .i64 z34, .i64 z35, .v (.slice a_r2 l9.length cap_r2), .v (.slice a_r3 l8.length cap_r3)], _, _, _, _]) rfl rfl ?_
          refine g_region ?_
          refine go_p rfl rfl rfl (o_fieldAddr_box fi_81_0 rfl) ?_
          refine go_p rfl rfl rfl (o_load_box 5 Try.isAgg79 rfl rfl rfl rfl) ?_
          refine go_p rfl rfl rfl (o_load_box_agg 2 Try.isAgg89 Try.sizeOf89 rfl rfl rfl rfl (Nat.le_of_ble_eq_true rfl)) ?_
          refine go_conv (peekAggE (i := 130) (q := 11) 1 rfl rfl rfl rfl rfl).refines ?_
          refine go_conv (peekAggE (i := 130) (q := 12) 0 rfl rfl rfl rfl rfl).refines ?_
          refine go_p rfl rfl rfl (o_buildSlice (xs := [_]) (f := AutoState.d) (l := [(⟨z25, z26, z27, z28, z29, z30, z31, z32, z33, z34, z35, l9, l8⟩ : AutoState)]) Try.runUnderlying79 Try.sizeOf89 Try.zeroValue89 rfl rfl rfl (fun _ => ⟨rfl, rfl, rfl⟩) rfl) ?_
          obtain ⟨hg12, hm3⟩ := grd_some hm3
          refine go_op rfl rfl rfl (o_append (a := _) 4 Try.underlying79 Try.type89 rfl rfl rfl rfl rfl rfl rfl (fun _ => rfl) (fun _ => rfl) hg12 (app_len hg12 rfl)) ?_
          rintro _ _ ⟨a_r1, cap_r1, rfl, rfl⟩
          refine go_ms (ms' := [_, _, box b4 89 [_, _, _, _, _, _, _, _, _, _, _, _, _], box b3 93 [_, _, _, _, _, _, _, _, _, _, _, _, _], _, box b2 81 [_, _], box b1 81 [_, _]]) rfl ?_
          refine go_p rfl rfl rfl (o_fieldAddr_box fi_81_0 rfl) ?_
          refine go_u rfl rfl (o_store_box 5 Try.sizeOf79 rfl rfl rfl rfl rfl rfl rfl rfl (Nat.le_of_ble_eq_true rfl)) ?_
          rintro _ _ rfl
          refine go_ms (ms' := [_, _, box b4 89 [_, _, _, _, _, _, _, _, _, _, _, _, _], box b3 93 [_, _, _, _, _, _, _, _, _, _, _, _, _], _, box b2 81 [_, _], box b1 81 [_, _]]) rfl ?_
          refine go_nil ?_
          refine g_region ?_
          refine go_p rfl rfl rfl (o_move rfl) ?_
          obtain ⟨hg13, hm3⟩ := grd_some hm3
          refine go_p rfl rfl rfl (o_add rfl rfl (i64_id hg13)) ?_
          refine go_p rfl rfl rfl (o_assign rfl) ?_
          refine go_nil ?_
          exact ⟨_, (_, _), hm3, ⟨rfl, trivial⟩, ⟨rfl, rfl, rfl, rfl, trivial⟩, [_, _, _, _], rfl⟩
    · replace hj1 := cond_f hc1 hj1
      refine g_exit ?_
      exact ⟨_, (_, _), some_eq hj1, trivial, ⟨rfl, rfl, trivial⟩, [], rfl⟩
  · rintro ⟨l1, z1⟩ ⟨a_r1, cap_r1⟩ hst
    subst hst
    refine k_norm (L' := [(4, _), (5, _)]) (ms' := [row a_r1 cap_r1 89 13 AutoState.d l1, box b2 81 [.v (.slice a_r1 l1.length cap_r1), .i64 z1], _]) rfl rfl ?_
    refine g_seq ?_
    refine g_region ?_
    refine go_p rfl rfl rfl (o_load_box_agg 1 Try.isAgg81 Try.sizeOf81 rfl rfl rfl rfl (Nat.le_of_ble_eq_true rfl)) ?_
    refine go_conv (peekAggE (i := 134) (q := 0) 0 rfl rfl rfl rfl rfl).refines ?_
    refine go_u rfl rfl (o_store_box 2 Try.sizeOf81 rfl rfl rfl rfl rfl rfl rfl rfl (Nat.le_of_ble_eq_true rfl)) ?_
    rintro _ _ rfl
    refine go_ms (ms' := [_, box b2 81 [_, _], box b1 81 [_, _]]) rfl ?_
    refine go_nil ?_
    refine g_ret ?_
    exact retK (ret_one' rfl (ret_cell 2 rfl rfl rfl Try.isAgg81 Try.sizeOf81 rfl) (perm_drop _)) (congrArg (fun (p : AutoAuto) => (AutoAuto.d p : D)) (some_eq hm1))

theorem pl_78 : ∀ fs, (∀ w, (underlying 78).run Try.prog w = .ok (.struct fs) w) → placesOf Try.prog fs [(0, 1), (1, 1)] := by
  intro fs h w
  have := (h w).symm.trans (Try.runUnderlying78 w)
  simp only [Result.ok.injEq, TypeDesc.struct.injEq, and_true] at this
  subst this
  simp [Try.sizeOf3, Try.sizeOf76, Sem.run]
theorem fi_89_0 : FieldIs Try.prog 89 0 0 1 false := ⟨⟨_, _, Try.runUnderlying89, rfl, rfl, Try.sizeOf4, by decide, Try.isAgg4⟩⟩
theorem fi_89_1 : FieldIs Try.prog 89 1 1 1 false := ⟨⟨_, _, Try.runUnderlying89, rfl, rfl, Try.sizeOf4, by decide, Try.isAgg4⟩⟩
theorem fi_89_2 : FieldIs Try.prog 89 2 2 1 false := ⟨⟨_, _, Try.runUnderlying89, rfl, rfl, Try.sizeOf4, by decide, Try.isAgg4⟩⟩
theorem fi_89_3 : FieldIs Try.prog 89 3 3 1 false := ⟨⟨_, _, Try.runUnderlying89, rfl, rfl, Try.sizeOf4, by decide, Try.isAgg4⟩⟩
theorem fi_89_4 : FieldIs Try.prog 89 4 4 1 false := ⟨⟨_, _, Try.runUnderlying89, rfl, rfl, Try.sizeOf4, by decide, Try.isAgg4⟩⟩
theorem fi_89_6 : FieldIs Try.prog 89 6 6 1 false := ⟨⟨_, _, Try.runUnderlying89, rfl, rfl, Try.sizeOf4, by decide, Try.isAgg4⟩⟩
theorem fi_89_7 : FieldIs Try.prog 89 7 7 1 false := ⟨⟨_, _, Try.runUnderlying89, rfl, rfl, Try.sizeOf4, by decide, Try.isAgg4⟩⟩
theorem fi_89_8 : FieldIs Try.prog 89 8 8 1 false := ⟨⟨_, _, Try.runUnderlying89, rfl, rfl, Try.sizeOf47, by decide, Try.isAgg47⟩⟩
theorem pl_93 : ∀ fs, (∀ w, (underlying 93).run Try.prog w = .ok (.struct fs) w) → placesOf Try.prog fs [(0, 1), (1, 1), (2, 1), (3, 1), (4, 1), (5, 1), (6, 1), (7, 1), (8, 1), (9, 1), (10, 1), (11, 1), (12, 1)] := by
  intro fs h w
  have := (h w).symm.trans (Try.runUnderlying93 w)
  simp only [Result.ok.injEq, TypeDesc.struct.injEq, and_true] at this
  subst this
  simp [Try.sizeOf3, Try.sizeOf4, Try.sizeOf47, Try.sizeOf91, Sem.run]
theorem fi_145_0 : FieldIs Try.prog 145 0 0 1 false := ⟨⟨_, _, Try.runUnderlying145, rfl, rfl, Try.sizeOf9, by decide, Try.isAgg9⟩⟩
theorem pl_144 : ∀ fs, (∀ w, (underlying 144).run Try.prog w = .ok (.struct fs) w) → placesOf Try.prog fs [(0, 1), (1, 1)] := by
  intro fs h w
  have := (h w).symm.trans (Try.runUnderlying144 w)
  simp only [Result.ok.injEq, TypeDesc.struct.injEq, and_true] at this
  subst this
  simp [Try.sizeOf3, Try.sizeOf9, Sem.run]
def m_syntagmalaw24_Of_l2 (x1 : AutoState) : Nat → (Int × (List AutoEdge) × (List AutoEdge) × Bool × Bool × Bool × Bool × Bool × Bool × Bool × Bool × (List Int) × Int × Int) → Option ((List AutoEdge) × (List AutoEdge) × Bool × Bool × Bool × Bool × Bool × Bool × Bool × Bool × (List Int) × Int × Int)
  | 0, _ => none
  | n + 1, (k1, l5, l6, z14, z15, z16, z17, z18, z19, z20, z21, z22, z23, z24) =>
    bif (decide (k1 < (x1.fields.length : Int))) then
      (idx x1.fields k1).bind fun x3 =>
      (idx x1.fields k1).bind fun x4 =>
      grd ((l6.length + ([(⟨x3.name, x4.to_⟩ : AutoEdge)] : List _).length) * 24 ≤ 140737488355328) <|
      grd (InR (k1 + 1)) <|
      m_syntagmalaw24_Of_l2 x1 n ((k1 + 1), l5, (l6 ++ [(⟨x3.name, x4.to_⟩ : AutoEdge)]), z14, z15, z16, z17, z18, z19, z20, z21, z22, z23, z24)
    else
      some (l5, l6, z14, z15, z16, z17, z18, z19, z20, z21, z22, z23, z24)

def m_syntagmalaw24_Of_l3 (x1 : AutoState) : Nat → (Int × (List AutoEdge) × (List AutoEdge) × Bool × Bool × Bool × Bool × Bool × Bool × Bool × Bool × (List Int) × Int × Int) → Option ((List AutoEdge) × (List AutoEdge) × Bool × Bool × Bool × Bool × Bool × Bool × Bool × Bool × (List Int) × Int × Int)
  | 0, _ => none
  | n + 1, (k2, l9, l10, z36, z37, z38, z39, z40, z41, z42, z43, z44, z45, z46) =>
    bif (decide (k2 < (x1.tags.length : Int))) then
      (idx x1.tags k2).bind fun x5 =>
      (idx x1.tags k2).bind fun x6 =>
      grd ((l9.length + ([(⟨x5.name, x6.to_⟩ : AutoEdge)] : List _).length) * 24 ≤ 140737488355328) <|
      grd (InR (k2 + 1)) <|
      m_syntagmalaw24_Of_l3 x1 n ((k2 + 1), (l9 ++ [(⟨x5.name, x6.to_⟩ : AutoEdge)]), l10, z36, z37, z38, z39, z40, z41, z42, z43, z44, z45, z46)
    else
      some (l9, l10, z36, z37, z38, z39, z40, z41, z42, z43, z44, z45, z46)

def m_syntagmalaw24_Of_l1 (a1 : AutoAuto) : Nat → (Int × (List AutoState) × Int) → Option ((List AutoState) × Int)
  | 0, _ => none
  | n + 1, (i1, l2, z2) =>
    bif (decide (i1 < (a1.l.length : Int))) then
      (idx a1.l i1).bind fun x1 =>
      (m_syntagmabase_Ints x1.vars).bind fun x2 =>
      (m_syntagmalaw24_Of_l2 x1 FU (0, ([] : List AutoEdge), ([] : List AutoEdge), x1.plus, x1.all, x1.int, x1.bool, x1.str, x1.arrow, x1.rec_, x1.tag, x2, x1.dom, x1.cod) : Option ((List AutoEdge) × (List AutoEdge) × Bool × Bool × Bool × Bool × Bool × Bool × Bool × Bool × (List Int) × Int × Int)).bind fun (l3, l4, z3, z4, z5, z6, z7, z8, z9, z10, z11, z12, z13) =>
      (m_syntagmalaw24_Of_l3 x1 FU (0, l3, l4, z3, z4, z5, z6, z7, z8, z9, z10, z11, z12, z13) : Option ((List AutoEdge) × (List AutoEdge) × Bool × Bool × Bool × Bool × Bool × Bool × Bool × Bool × (List Int) × Int × Int)).bind fun (l7, l8, z25, z26, z27, z28, z29, z30, z31, z32, z33, z34, z35) =>
      grd ((l2.length + ([(⟨z25, z26, z27, z28, z29, z30, z31, z32, z33, z34, z35, l8, l7⟩ : AutoState)] : List _).length) * 96 ≤ 140737488355328) <|
      grd (InR (i1 + 1)) <|
      m_syntagmalaw24_Of_l1 a1 n ((i1 + 1), (l2 ++ [(⟨z25, z26, z27, z28, z29, z30, z31, z32, z33, z34, z35, l8, l7⟩ : AutoState)]), z2)
    else
      some (l2, z2)
def m_syntagmalaw24_Of (a1 : AutoAuto) : Option AutoAuto :=
  (m_syntagmalaw24_Of_l1 a1 FU (0, ([] : List AutoState), a1.start) : Option ((List AutoState) × Int)).bind fun (l1, z1) =>
  some (⟨l1, z1⟩ : AutoAuto)
theorem w_syntagmalaw24_Of {a1 : AutoAuto} {r : AutoAuto} (hm : m_syntagmalaw24_Of a1 = some r) : Fn0 Try.prog 46 [AutoAuto.d a1] (AutoAuto.d r) := by
  unfold m_syntagmalaw24_Of at hm
  refine fn_intro Try.func46 rfl Try.ntmps46 rfl fun H0 fr w0 => ?_
  refine g_seq ?_
  refine g_region ?_
  refine go_p rfl rfl rfl (o_box rfl rfl) ?_
  refine go_op rfl rfl rfl (o_alloc_own Try.zeroValue78 (cs := [.list 13 AutoState.d [], .i64 0]) rfl) ?_
  rintro _ _ ⟨b1, rfl, rfl⟩
  refine go_nil ?_
  refine g_seq ?_
  refine g_region ?_
  refine go_p rfl rfl rfl (o_fieldAddr fi_81_1 rfl rfl rfl) ?_
  refine go_p rfl rfl rfl (o_load Try.isAgg3 rfl rfl) ?_
  refine go_p rfl rfl rfl (o_build (zs := [.v (.slice none 0 0), .v (.int .i64 0)]) Try.runUnderlying78 Try.zeroValue78 (pl_78 _ Try.runUnderlying78) rfl rfl rfl rfl) ?_
  refine go_op rfl rfl rfl (o_alloc_own Try.zeroValue78 (cs := [.list 13 AutoState.d [], .i64 0]) rfl) ?_
  rintro _ _ ⟨b2, rfl, rfl⟩
  refine go_u rfl rfl (o_store_box 0 Try.sizeOf78 rfl rfl rfl rfl rfl rfl rfl rfl (Nat.le_of_ble_eq_true rfl)) ?_
  rintro _ _ rfl
  refine go_conv (refines_newrow (T := 93) (sz := 13) (f := AutoState.d)) ?_
  refine go_ms (ms' := [_, box b2 78 [_, _], box b1 78 [_, _]]) rfl ?_
  refine go_nil ?_
  refine g_seq ?_
  refine g_seq ?_
  refine g_region ?_
  refine go_p rfl rfl rfl (o_assign rfl) ?_
  refine go_nil ?_
  obtain ⟨o_1, hj1, hm1⟩ := bind_some hm
  refine g_cut_m [(2, _), (3, _)] [(2, _)] (fun (st : ((List AutoState) × Int)) (hid : (Option Addr × Nat)) => match st, hid with | (l1, z1), (a_r1, cap_r1) => []) (fun F (st : ((List AutoState) × Int)) (hid : (Option Addr × Nat)) => match st, hid with | (l1, z1), (a_r1, cap_r1) => [row a_r1 cap_r1 93 13 AutoState.d l1, box b2 78 [.v (.slice a_r1 l1.length cap_r1), .i64 z1], (nthF F 0)]) (fun st => st = o_1) ⟨rfl, rfl, trivial⟩ ⟨rfl, trivial⟩ ?_ ?_
  · skip
    refine g_block ?_
    refine g_loop_m [(1, _), (2, _), (3, _)] [(2, _)] (fun (st : (Int × (List AutoState) × Int)) (hid : (Option Addr × Nat)) => match st, hid with | (i1, l2, z2), (a_r1, cap_r1) => [(4, .i64 i1)]) (fun F (st : (Int × (List AutoState) × Int)) (hid : (Option Addr × Nat)) => match st, hid with | (i1, l2, z2), (a_r1, cap_r1) => [row a_r1 cap_r1 93 13 AutoState.d l2, box b2 78 [.v (.slice a_r1 l2.length cap_r1), .i64 z2], (nthF F 0)]) (_, _) hj1 (fun _ => rfl) ⟨rfl, rfl, rfl, trivial⟩ ⟨rfl, trivial⟩ ⟨rfl, trivial⟩ rfl ?_
    rintro n ⟨i1, l2, z2⟩ ⟨a_r1, cap_r1⟩ hj1
    rw [m_syntagmalaw24_Of_l1] at hj1
    refine g_norm (L' := [(4, .i64 i1), (1, _), (2, _), (3, _)]) (ms' := [row a_r1 cap_r1 93 13 AutoState.d l2, box b2 78 [.v (.slice a_r1 l2.length cap_r1), .i64 z2], _]) rfl rfl ?_
    refine g_seq ?_
    refine g_seq ?_
    refine g_region ?_
    refine go_p rfl rfl rfl (o_move rfl) ?_
    refine go_p rfl rfl rfl (o_fieldAddr fi_81_0 rfl rfl rfl) ?_
    refine go_p rfl rfl rfl (o_load Try.isAgg79 rfl rfl) ?_
    refine go_p rfl rfl rfl (o_len Try.runUnderlying79 rfl) ?_
    refine go_p rfl rfl rfl (o_cmp rfl rfl rfl) ?_
    refine go_nil ?_
    refine g_cond rfl (fun hc1 => ?_) (fun hc1 => ?_)
    · replace hj1 := cond_t hc1 hj1
      refine g_skip ?_
      refine g_seq ?_
      refine g_block ?_
      refine g_seq ?_
      refine g_region ?_
      refine go_p rfl rfl rfl (o_fieldAddr fi_81_0 rfl rfl rfl) ?_
      refine go_p rfl rfl rfl (o_load Try.isAgg79 rfl rfl) ?_
      refine go_p rfl rfl rfl (o_move rfl) ?_
      obtain ⟨x1, hx1, hj1⟩ := bind_some hj1
      refine go_p rfl rfl rfl (o_indexAddr_m Try.runUnderlying79 Try.sizeOf89 rfl rfl hx1) ?_
      refine go_p rfl rfl rfl (o_load_agg Try.isAgg89 Try.sizeOf89 rfl rfl) ?_
      refine go_op rfl rfl rfl (o_alloc_own Try.zeroValue89 (cs := [.bool false, .bool false, .bool false, .bool false, .bool false, .bool false, .bool false, .bool false, .list 1 D.i64 [], .i64 0, .i64 0, .list 2 AutoEdge.d [], .list 2 AutoEdge.d []]) rfl) ?_
      rintro _ _ ⟨b3, rfl, rfl⟩
      refine go_u rfl rfl (o_store_box 0 Try.sizeOf89 rfl rfl rfl rfl rfl rfl rfl rfl (Nat.le_of_ble_eq_true rfl)) ?_
      rintro _ _ rfl
      refine go_ms (ms' := [box b3 89 [_, _, _, _, _, _, _, _, _, _, _, _, _], _, box b2 78 [_, _], box b1 78 [_, _]]) rfl ?_
      refine go_nil ?_
      refine g_seq ?_
      obtain ⟨x2, hx2, hj1⟩ := bind_some hj1
      refine g_draw_f 25 [24] Try_mixed (by decide +kernel) (by decide +kernel) rfl (by decide +kernel) ?_
      refine gdf_p rfl rfl rfl rfl (o_fieldAddr_box fi_89_0 rfl) ?_
      refine gdf_p rfl rfl rfl rfl (o_load_box 0 Try.isAgg4 rfl rfl rfl rfl) ?_
      refine gdf_p rfl rfl rfl rfl (o_fieldAddr_box fi_89_1 rfl) ?_
      refine gdf_p rfl rfl rfl rfl (o_load_box 0 Try.isAgg4 rfl rfl rfl rfl) ?_
      refine gdf_p rfl rfl rfl rfl (o_fieldAddr_box fi_89_2 rfl) ?_
      refine gdf_p rfl rfl rfl rfl (o_load_box 0 Try.isAgg4 rfl rfl rfl rfl) ?_
      refine gdf_p rfl rfl rfl rfl (o_fieldAddr_box fi_89_3 rfl) ?_
      refine gdf_p rfl rfl rfl rfl (o_load_box 0 Try.isAgg4 rfl rfl rfl rfl) ?_
      refine gdf_p rfl rfl rfl rfl (o_fieldAddr_box fi_89_4 rfl) ?_
      refine gdf_p rfl rfl rfl rfl (o_load_box 0 Try.isAgg4 rfl rfl rfl rfl) ?_
      refine gdf_p rfl rfl rfl rfl (o_fieldAddr_box fi_89_5 rfl) ?_
      refine gdf_p rfl rfl rfl rfl (o_load_box 0 Try.isAgg4 rfl rfl rfl rfl) ?_
      refine gdf_p rfl rfl rfl rfl (o_fieldAddr_box fi_89_6 rfl) ?_
      refine gdf_p rfl rfl rfl rfl (o_load_box 0 Try.isAgg4 rfl rfl rfl rfl) ?_
      refine gdf_p rfl rfl rfl rfl (o_fieldAddr_box fi_89_7 rfl) ?_
      refine gdf_p rfl rfl rfl rfl (o_load_box 0 Try.isAgg4 rfl rfl rfl rfl) ?_
      refine gdf_p rfl rfl rfl rfl (o_fieldAddr_box fi_89_9 rfl) ?_
      refine gdf_p rfl rfl rfl rfl (o_load_box 0 Try.isAgg3 rfl rfl rfl rfl) ?_
      refine gdf_p rfl rfl rfl rfl (o_fieldAddr_box fi_89_10 rfl) ?_
      refine gdf_p rfl rfl rfl rfl (o_load_box 0 Try.isAgg3 rfl rfl rfl rfl) ?_
      refine gdf_p rfl rfl rfl rfl (o_fieldAddr_box fi_89_8 rfl) ?_
      refine gdf_p rfl rfl rfl rfl (o_load_box 0 Try.isAgg47 rfl rfl rfl rfl) ?_
      refine gdf_p rfl rfl rfl rfl (o_call0 Try.call36 rfl (w_syntagmabase_Ints hx2)) ?_
      refine gdf_p rfl rfl rfl rfl (o_build (zs := [.bool false, .bool false, .bool false, .bool false, .bool false, .bool false, .bool false, .bool false, .list 1 D.i64 [], .v (.int .i64 0), .v (.int .i64 0), .v (.slice none 0 0), .v (.slice none 0 0)]) Try.runUnderlying93 Try.zeroValue93 (pl_93 _ Try.runUnderlying93) rfl rfl rfl rfl) ?_
      refine gdf_fresh (R := fun d A => ∃ b, d = .v (.pointer (some ⟨b, 0, none⟩)) ∧ A = box b 93 [.bool false, .bool false, .bool false, .bool false, .bool false, .bool false, .bool false, .bool false, .list 1 D.i64 [], .i64 0, .i64 0, .list 2 AutoEdge.d [], .list 2 AutoEdge.d []]) rfl rfl rfl (OpT.mono (o_alloc_own Try.zeroValue93 (cs := [.bool false, .bool false, .bool false, .bool false, .bool false, .bool false, .bool false, .bool false, .list 1 D.i64 [], .i64 0, .i64 0, .list 2 AutoEdge.d [], .list 2 AutoEdge.d []]) rfl) (by rintro d ms' ⟨b, rfl, rfl⟩; exact ⟨_, ⟨b, rfl, rfl⟩, rfl⟩)) ?_
      refine gdf_nil ?_
      rintro _ _ ⟨b4, rfl, rfl⟩
      refine go_u rfl rfl (o_store_box 0 Try.sizeOf93 rfl rfl rfl rfl rfl rfl rfl rfl (Nat.le_of_ble_eq_true rfl)) ?_
      rintro _ _ rfl
      refine go_conv (refines_newrow (T := 144) (sz := 2) (f := AutoEdge.d)) ?_
      refine go_conv (refines_newrow (T := 144) (sz := 2) (f := AutoEdge.d)) ?_
      refine go_ms (ms' := [_, _, box b4 93 [_, _, _, _, _, _, _, _, _, _, _, _, _], box b3 89 [_, _, _, _, _, _, _, _, _, _, _, _, _], _, box b2 78 [_, _], box b1 78 [_, _]]) rfl ?_
      refine go_nil ?_
      refine g_seq ?_
      refine g_seq ?_
      refine g_region ?_
      refine go_p rfl rfl rfl (o_assign rfl) ?_
      refine go_nil ?_
      obtain ⟨o_2, hj2, hm2⟩ := bind_some hj1
      refine g_cut_m [(1, _), (2, _), (3, _), (4, _), (5, _), (6, _)] [(3, _), (4, _), (5, _), (6, _)] (fun (st : ((List AutoEdge) × (List AutoEdge) × Bool × Bool × Bool × Bool × Bool × Bool × Bool × Bool × (List Int) × Int × Int)) (hid : (Option Addr × Nat) × (Option Addr × Nat)) => match st, hid with | (l3, l4, z3, z4, z5, z6, z7, z8, z9, z10, z11, z12, z13), ((a_r3, cap_r3), (a_r2, cap_r2)) => []) (fun F (st : ((List AutoEdge) × (List AutoEdge) × Bool × Bool × Bool × Bool × Bool × Bool × Bool × Bool × (List Int) × Int × Int)) (hid : (Option Addr × Nat) × (Option Addr × Nat)) => match st, hid with | (l3, l4, z3, z4, z5, z6, z7, z8, z9, z10, z11, z12, z13), ((a_r3, cap_r3), (a_r2, cap_r2)) => [row a_r3 cap_r3 144 2 AutoEdge.d l3, row a_r2 cap_r2 144 2 AutoEdge.d l4, box b4 93 [.bool z3, .bool z4, .bool z5, .bool z6, .bool z7, .bool z8, .bool z9, .bool z10, .list 1 D.i64 z11, .i64 z12, .i64 z13, .v (.slice a_r2 l4.length cap_r2), .v (.slice a_r3 l3.length cap_r3)], (nthF F 0), (nthF F 1), (nthF F 2), (nthF F 3)]) (fun st => st = o_2) ⟨rfl, rfl, rfl, rfl, rfl, rfl, trivial⟩ ⟨rfl, rfl, rfl, rfl, trivial⟩ ?_ ?_
      · skip
        refine g_block ?_
        refine g_loop_m [(1, _), (2, _), (3, _), (4, _), (5, _), (6, _)] [(3, _), (4, _), (5, _), (6, _)] (fun (st : (Int × (List AutoEdge) × (List AutoEdge) × Bool × Bool × Bool × Bool × Bool × Bool × Bool × Bool × (List Int) × Int × Int)) (hid : (Option Addr × Nat) × (Option Addr × Nat)) => match st, hid with | (k1, l5, l6, z14, z15, z16, z17, z18, z19, z20, z21, z22, z23, z24), ((a_r3, cap_r3), (a_r2, cap_r2)) => [(7, .i64 k1)]) (fun F (st : (Int × (List AutoEdge) × (List AutoEdge) × Bool × Bool × Bool × Bool × Bool × Bool × Bool × Bool × (List Int) × Int × Int)) (hid : (Option Addr × Nat) × (Option Addr × Nat)) => match st, hid with | (k1, l5, l6, z14, z15, z16, z17, z18, z19, z20, z21, z22, z23, z24), ((a_r3, cap_r3), (a_r2, cap_r2)) => [row a_r3 cap_r3 144 2 AutoEdge.d l5, row a_r2 cap_r2 144 2 AutoEdge.d l6, box b4 93 [.bool z14, .bool z15, .bool z16, .bool z17, .bool z18, .bool z19, .bool z20, .bool z21, .list 1 D.i64 z22, .i64 z23, .i64 z24, .v (.slice a_r2 l6.length cap_r2), .v (.slice a_r3 l5.length cap_r3)], (nthF F 0), (nthF F 1), (nthF F 2), (nthF F 3)]) ((_, _), (_, _)) hj2 (fun _ => rfl) ⟨rfl, rfl, rfl, rfl, rfl, rfl, trivial⟩ ⟨rfl, rfl, rfl, rfl, trivial⟩ ⟨rfl, trivial⟩ rfl ?_
        rintro n ⟨k1, l5, l6, z14, z15, z16, z17, z18, z19, z20, z21, z22, z23, z24⟩ ⟨⟨a_r3, cap_r3⟩, ⟨a_r2, cap_r2⟩⟩ hj2
        rw [m_syntagmalaw24_Of_l2] at hj2
        refine g_norm (L' := [(7, .i64 k1), (1, _), (2, _), (3, _), (4, _), (5, _), (6, _)]) (ms' := [row a_r3 cap_r3 144 2 AutoEdge.d l5, row a_r2 cap_r2 144 2 AutoEdge.d l6, box b4 93 [.bool z14, .bool z15, .bool z16, .bool z17, .bool z18, .bool z19, .bool z20, .bool z21, .list 1 D.i64 z22, .i64 z23, .i64 z24, .v (.slice a_r2 l6.length cap_r2), .v (.slice a_r3 l5.length cap_r3)], _, _, _, _]) rfl rfl ?_
        refine g_seq ?_
        refine g_seq ?_
        refine g_region ?_
        refine go_p rfl rfl rfl (o_move rfl) ?_
        refine go_p rfl rfl rfl (o_fieldAddr_box fi_89_11 rfl) ?_
        refine go_p rfl rfl rfl (o_load_box 3 Try.isAgg87 rfl rfl rfl rfl) ?_
        refine go_p rfl rfl rfl (o_len Try.runUnderlying87 rfl) ?_
        refine go_p rfl rfl rfl (o_cmp rfl rfl rfl) ?_
        refine go_nil ?_
        refine g_cond rfl (fun hc2 => ?_) (fun hc2 => ?_)
        · replace hj2 := cond_t hc2 hj2
          refine g_skip ?_
          refine g_seq ?_
          refine g_block ?_
          obtain ⟨x3, hx3, hj2⟩ := bind_some hj2
          obtain ⟨x4, hx4, hj2⟩ := bind_some hj2
          refine g_draw 16 Try_mixed (by decide +kernel) ?_
          refine gd_p rfl rfl rfl (o_fieldAddr_box fi_93_11 rfl) ?_
          refine gd_p rfl rfl rfl (o_load_box 2 Try.isAgg91 rfl rfl rfl rfl) ?_
          refine gd_p rfl rfl rfl (o_fieldAddr_box fi_89_11 rfl) ?_
          refine gd_p rfl rfl rfl (o_load_box 3 Try.isAgg87 rfl rfl rfl rfl) ?_
          refine gd_p rfl rfl rfl (o_move rfl) ?_
          refine gd_p rfl rfl rfl (o_indexAddr_m Try.runUnderlying87 Try.sizeOf145 rfl rfl hx3) ?_
          refine gd_p rfl rfl rfl (o_fieldAddr fi_145_0 rfl rfl rfl) ?_
          refine gd_p rfl rfl rfl (o_load Try.isAgg9 rfl rfl) ?_
          refine gd_p rfl rfl rfl (o_fieldAddr_box fi_89_11 rfl) ?_
          refine gd_p rfl rfl rfl (o_load_box 3 Try.isAgg87 rfl rfl rfl rfl) ?_
          refine gd_p rfl rfl rfl (o_move rfl) ?_
          refine gd_p rfl rfl rfl (o_indexAddr_m Try.runUnderlying87 Try.sizeOf145 rfl rfl hx4) ?_
          refine gd_p rfl rfl rfl (o_fieldAddr fi_145_1 rfl rfl rfl) ?_
          refine gd_p rfl rfl rfl (o_load Try.isAgg3 rfl rfl) ?_
          refine gd_p rfl rfl rfl (o_build (zs := [.str [], .v (.int .i64 0)]) Try.runUnderlying144 Try.zeroValue144 (pl_144 _ Try.runUnderlying144) rfl rfl rfl rfl) ?_
          refine gd_p rfl rfl rfl (o_buildSlice (xs := [_]) (f := AutoEdge.d) (l := [(⟨x3.name, x4.to_⟩ : AutoEdge)]) Try.runUnderlying91 Try.sizeOf144 Try.zeroValue144 rfl rfl rfl (fun _ => ⟨rfl, rfl, rfl⟩) rfl) ?_
          refine gd_nil ?_
          obtain ⟨hg5, hj2⟩ := grd_some hj2
          refine go_op rfl rfl rfl (o_append (a := _) 1 Try.underlying91 Try.type144 rfl rfl rfl rfl rfl rfl rfl (fun _ => rfl) (fun _ => rfl) hg5 (app_len hg5 rfl)) ?_
          rintro _ _ ⟨a_r2, cap_r2, rfl, rfl⟩
          refine go_ms (ms' := [_, _, box b4 93 [_, _, _, _, _, _, _, _, _, _, _, _, _], box b3 89 [_, _, _, _, _, _, _, _, _, _, _, _, _], _, box b2 78 [_, _], box b1 78 [_, _]]) rfl ?_
          refine go_p rfl rfl rfl (o_fieldAddr_box fi_93_11 rfl) ?_
          refine go_u rfl rfl (o_store_box 2 Try.sizeOf91 rfl rfl rfl rfl rfl rfl rfl rfl (Nat.le_of_ble_eq_true rfl)) ?_
          rintro _ _ rfl
          refine go_ms (ms' := [_, _, box b4 93 [_, _, _, _, _, _, _, _, _, _, _, _, _], box b3 89 [_, _, _, _, _, _, _, _, _, _, _, _, _], _, box b2 78 [_, _], box b1 78 [_, _]]) rfl ?_
          refine go_nil ?_
          refine g_region ?_
          refine go_p rfl rfl rfl (o_move rfl) ?_
          obtain ⟨hg6, hj2⟩ := grd_some hj2
          refine go_p rfl rfl rfl (o_add rfl rfl (i64_id hg6)) ?_
          refine go_p rfl rfl rfl (o_assign rfl) ?_
          refine go_nil ?_
          exact ⟨_, ((_, _), (_, _)), hj2, ⟨rfl, trivial⟩, ⟨rfl, rfl, rfl, rfl, rfl, rfl, trivial⟩, [], rfl⟩
        · replace hj2 := cond_f hc2 hj2
          refine g_exit ?_
          exact ⟨_, ((_, _), (_, _)), some_eq hj2, trivial, ⟨rfl, rfl, rfl, rfl, rfl, rfl, trivial⟩, [], rfl⟩
      · rintro ⟨l3, l4, z3, z4, z5, z6, z7, z8, z9, z10, z11, z12, z13⟩ ⟨⟨a_r3, cap_r3⟩, ⟨a_r2, cap_r2⟩⟩ hst
        subst hst
        refine k_norm (L' := [(1, _), (2, _), (3, _), (4, _), (5, _), (6, _)]) (ms' := [row a_r3 cap_r3 144 2 AutoEdge.d l3, row a_r2 cap_r2 144 2 AutoEdge.d l4, box b4 93 [.bool z3, .bool z4, .bool z5, .bool z6, .bool z7, .bool z8, .bool z9, .bool z10, .list 1 D.i64 z11, .i64 z12, .i64 z13, .v (.slice a_r2 l4.length cap_r2), .v (.slice a_r3 l3.length cap_r3)], _, _, _, _]) rfl rfl ?_
        refine g_seq ?_
        refine g_seq ?_
        refine g_region ?_
        refine go_p rfl rfl rfl (o_assign rfl) ?_
        refine go_nil ?_
        obtain ⟨o_3, hj3, hm3⟩ := bind_some hm2
        refine g_cut_m [(1, _), (2, _), (3, _), (4, _), (6, _)] [(3, _), (4, _), (5, _), (6, _)] (fun (st : ((List AutoEdge) × (List AutoEdge) × Bool × Bool × Bool × Bool × Bool × Bool × Bool × Bool × (List Int) × Int × Int)) (hid : (Option Addr × Nat) × (Option Addr × Nat)) => match st, hid with | (l7, l8, z25, z26, z27, z28, z29, z30, z31, z32, z33, z34, z35), ((a_r3, cap_r3), (a_r2, cap_r2)) => []) (fun F (st : ((List AutoEdge) × (List AutoEdge) × Bool × Bool × Bool × Bool × Bool × Bool × Bool × Bool × (List Int) × Int × Int)) (hid : (Option Addr × Nat) × (Option Addr × Nat)) => match st, hid with | (l7, l8, z25, z26, z27, z28, z29, z30, z31, z32, z33, z34, z35), ((a_r3, cap_r3), (a_r2, cap_r2)) => [row a_r3 cap_r3 144 2 AutoEdge.d l7, row a_r2 cap_r2 144 2 AutoEdge.d l8, box b4 93 [.bool z25, .bool z26, .bool z27, .bool z28, .bool z29, .bool z30, .bool z31, .bool z32, .list 1 D.i64 z33, .i64 z34, .i64 z35, .v (.slice a_r2 l8.length cap_r2), .v (.slice a_r3 l7.length cap_r3)], (nthF F 0), (nthF F 1), (nthF F 2), (nthF F 3)]) (fun st => st = o_3) ⟨rfl, rfl, rfl, rfl, rfl, trivial⟩ ⟨rfl, rfl, rfl, rfl, trivial⟩ ?_ ?_
        · skip
          refine g_block ?_
          refine g_loop_m [(1, _), (2, _), (3, _), (4, _), (5, _), (6, _)] [(3, _), (4, _), (5, _), (6, _)] (fun (st : (Int × (List AutoEdge) × (List AutoEdge) × Bool × Bool × Bool × Bool × Bool × Bool × Bool × Bool × (List Int) × Int × Int)) (hid : (Option Addr × Nat) × (Option Addr × Nat)) => match st, hid with | (k2, l9, l10, z36, z37, z38, z39, z40, z41, z42, z43, z44, z45, z46), ((a_r3, cap_r3), (a_r2, cap_r2)) => [(8, .i64 k2)]) (fun F (st : (Int × (List AutoEdge) × (List AutoEdge) × Bool × Bool × Bool × Bool × Bool × Bool × Bool × Bool × (List Int) × Int × Int)) (hid : (Option Addr × Nat) × (Option Addr × Nat)) => match st, hid with | (k2, l9, l10, z36, z37, z38, z39, z40, z41, z42, z43, z44, z45, z46), ((a_r3, cap_r3), (a_r2, cap_r2)) => [row a_r3 cap_r3 144 2 AutoEdge.d l9, row a_r2 cap_r2 144 2 AutoEdge.d l10, box b4 93 [.bool z36, .bool z37, .bool z38, .bool z39, .bool z40, .bool z41, .bool z42, .bool z43, .list 1 D.i64 z44, .i64 z45, .i64 z46, .v (.slice a_r2 l10.length cap_r2), .v (.slice a_r3 l9.length cap_r3)], (nthF F 0), (nthF F 1), (nthF F 2), (nthF F 3)]) ((_, _), (_, _)) hj3 (fun _ => rfl) ⟨rfl, rfl, rfl, rfl, rfl, rfl, trivial⟩ ⟨rfl, rfl, rfl, rfl, trivial⟩ ⟨rfl, trivial⟩ rfl ?_
          rintro n ⟨k2, l9, l10, z36, z37, z38, z39, z40, z41, z42, z43, z44, z45, z46⟩ ⟨⟨a_r3, cap_r3⟩, ⟨a_r2, cap_r2⟩⟩ hj3
          rw [m_syntagmalaw24_Of_l3] at hj3
          refine g_norm (L' := [(8, .i64 k2), (1, _), (2, _), (3, _), (4, _), (5, _), (6, _)]) (ms' := [row a_r3 cap_r3 144 2 AutoEdge.d l9, row a_r2 cap_r2 144 2 AutoEdge.d l10, box b4 93 [.bool z36, .bool z37, .bool z38, .bool z39, .bool z40, .bool z41, .bool z42, .bool z43, .list 1 D.i64 z44, .i64 z45, .i64 z46, .v (.slice a_r2 l10.length cap_r2), .v (.slice a_r3 l9.length cap_r3)], _, _, _, _]) rfl rfl ?_
          refine g_seq ?_
          refine g_seq ?_
          refine g_region ?_
          refine go_p rfl rfl rfl (o_move rfl) ?_
          refine go_p rfl rfl rfl (o_fieldAddr_box fi_89_12 rfl) ?_
          refine go_p rfl rfl rfl (o_load_box 3 Try.isAgg87 rfl rfl rfl rfl) ?_
          refine go_p rfl rfl rfl (o_len Try.runUnderlying87 rfl) ?_
          refine go_p rfl rfl rfl (o_cmp rfl rfl rfl) ?_
          refine go_nil ?_
          refine g_cond rfl (fun hc3 => ?_) (fun hc3 => ?_)
          · replace hj3 := cond_t hc3 hj3
            refine g_skip ?_
            refine g_seq ?_
            refine g_block ?_
            obtain ⟨x5, hx7, hj3⟩ := bind_some hj3
            obtain ⟨x6, hx8, hj3⟩ := bind_some hj3
            refine g_draw 16 Try_mixed (by decide +kernel) ?_
            refine gd_p rfl rfl rfl (o_fieldAddr_box fi_93_12 rfl) ?_
            refine gd_p rfl rfl rfl (o_load_box 2 Try.isAgg91 rfl rfl rfl rfl) ?_
            refine gd_p rfl rfl rfl (o_fieldAddr_box fi_89_12 rfl) ?_
            refine gd_p rfl rfl rfl (o_load_box 3 Try.isAgg87 rfl rfl rfl rfl) ?_
            refine gd_p rfl rfl rfl (o_move rfl) ?_
            refine gd_p rfl rfl rfl (o_indexAddr_m Try.runUnderlying87 Try.sizeOf145 rfl rfl hx7) ?_
            refine gd_p rfl rfl rfl (o_fieldAddr fi_145_0 rfl rfl rfl) ?_
            refine gd_p rfl rfl rfl (o_load Try.isAgg9 rfl rfl) ?_
            refine gd_p rfl rfl rfl (o_fieldAddr_box fi_89_12 rfl) ?_
            refine gd_p rfl rfl rfl (o_load_box 3 Try.isAgg87 rfl rfl rfl rfl) ?_
            refine gd_p rfl rfl rfl (o_move rfl) ?_
            refine gd_p rfl rfl rfl (o_indexAddr_m Try.runUnderlying87 Try.sizeOf145 rfl rfl hx8) ?_
            refine gd_p rfl rfl rfl (o_fieldAddr fi_145_1 rfl rfl rfl) ?_
            refine gd_p rfl rfl rfl (o_load Try.isAgg3 rfl rfl) ?_
            refine gd_p rfl rfl rfl (o_build (zs := [.str [], .v (.int .i64 0)]) Try.runUnderlying144 Try.zeroValue144 (pl_144 _ Try.runUnderlying144) rfl rfl rfl rfl) ?_
            refine gd_p rfl rfl rfl (o_buildSlice (xs := [_]) (f := AutoEdge.d) (l := [(⟨x5.name, x6.to_⟩ : AutoEdge)]) Try.runUnderlying91 Try.sizeOf144 Try.zeroValue144 rfl rfl rfl (fun _ => ⟨rfl, rfl, rfl⟩) rfl) ?_
            refine gd_nil ?_
            obtain ⟨hg9, hj3⟩ := grd_some hj3
            refine go_op rfl rfl rfl (o_append (a := _) 0 Try.underlying91 Try.type144 rfl rfl rfl rfl rfl rfl rfl (fun _ => rfl) (fun _ => rfl) hg9 (app_len hg9 rfl)) ?_
            rintro _ _ ⟨a_r3, cap_r3, rfl, rfl⟩
            refine go_ms (ms' := [_, _, box b4 93 [_, _, _, _, _, _, _, _, _, _, _, _, _], box b3 89 [_, _, _, _, _, _, _, _, _, _, _, _, _], _, box b2 78 [_, _], box b1 78 [_, _]]) rfl ?_
            refine go_p rfl rfl rfl (o_fieldAddr_box fi_93_12 rfl) ?_
            refine go_u rfl rfl (o_store_box 2 Try.sizeOf91 rfl rfl rfl rfl rfl rfl rfl rfl (Nat.le_of_ble_eq_true rfl)) ?_
            rintro _ _ rfl
            refine go_ms (ms' := [_, _, box b4 93 [_, _, _, _, _, _, _, _, _, _, _, _, _], box b3 89 [_, _, _, _, _, _, _, _, _, _, _, _, _], _, box b2 78 [_, _], box b1 78 [_, _]]) rfl ?_
            refine go_nil ?_
            refine g_region ?_
            refine go_p rfl rfl rfl (o_move rfl) ?_
            obtain ⟨hg10, hj3⟩ := grd_some hj3
            refine go_p rfl rfl rfl (o_add rfl rfl (i64_id hg10)) ?_
            refine go_p rfl rfl rfl (o_assign rfl) ?_
            refine go_nil ?_
            exact ⟨_, ((_, _), (_, _)), hj3, ⟨rfl, trivial⟩, ⟨rfl, rfl, rfl, rfl, rfl, rfl, trivial⟩, [], rfl⟩
          · replace hj3 := cond_f hc3 hj3
            refine g_exit ?_
            exact ⟨_, ((_, _), (_, _)), some_eq hj3, trivial, ⟨rfl, rfl, rfl, rfl, rfl, trivial⟩, [], rfl⟩
        · rintro ⟨l7, l8, z25, z26, z27, z28, z29, z30, z31, z32, z33, z34, z35⟩ ⟨⟨a_r3, cap_r3⟩, ⟨a_r2, cap_r2⟩⟩ hst
          subst hst
          refine k_norm (L' := [(1, _), (2, _), (3, _), (4, _), (6, _)]) (ms' := [row a_r3 cap_r3 144 2 AutoEdge.d l7, row a_r2 cap_r2 144 2 AutoEdge.d l8, box b4 93 [.bool z25, .bool z26, .bool z27, .bool z28, .bool z29, .bool z30, .bool z31, .bool z32, .list 1 D.i64 z33, .i64 z34, .i64 z35, .v (.slice a_r2 l8.length cap_r2), .v (.slice a_r3 l7.length cap_r3)], _, _, _, _]) rfl rfl ?_
          refine g_region ?_
          refine go_p rfl rfl rfl (o_fieldAddr_box fi_78_0 rfl) ?_
          refine go_p rfl rfl rfl (o_load_box 5 Try.isAgg76 rfl rfl rfl rfl) ?_
          refine go_p rfl rfl rfl (o_load_box_agg 2 Try.isAgg93 Try.sizeOf93 rfl rfl rfl rfl (Nat.le_of_ble_eq_true rfl)) ?_
          refine go_conv (peekAggE (i := 100) (q := 11) 1 rfl rfl rfl rfl rfl).refines ?_
          refine go_conv (peekAggE (i := 100) (q := 12) 0 rfl rfl rfl rfl rfl).refines ?_
          refine go_p rfl rfl rfl (o_buildSlice (xs := [_]) (f := AutoState.d) (l := [(⟨z25, z26, z27, z28, z29, z30, z31, z32, z33, z34, z35, l8, l7⟩ : AutoState)]) Try.runUnderlying76 Try.sizeOf93 Try.zeroValue93 rfl rfl rfl (fun _ => ⟨rfl, rfl, rfl⟩) rfl) ?_
          obtain ⟨hg11, hm3⟩ := grd_some hm3
          refine go_op rfl rfl rfl (o_append (a := _) 4 Try.underlying76 Try.type93 rfl rfl rfl rfl rfl rfl rfl (fun _ => rfl) (fun _ => rfl) hg11 (app_len hg11 rfl)) ?_
          rintro _ _ ⟨a_r1, cap_r1, rfl, rfl⟩
          refine go_ms (ms' := [_, _, box b4 93 [_, _, _, _, _, _, _, _, _, _, _, _, _], box b3 89 [_, _, _, _, _, _, _, _, _, _, _, _, _], _, box b2 78 [_, _], box b1 78 [_, _]]) rfl ?_
          refine go_p rfl rfl rfl (o_fieldAddr_box fi_78_0 rfl) ?_
          refine go_u rfl rfl (o_store_box 5 Try.sizeOf76 rfl rfl rfl rfl rfl rfl rfl rfl (Nat.le_of_ble_eq_true rfl)) ?_
          rintro _ _ rfl
          refine go_ms (ms' := [_, _, box b4 93 [_, _, _, _, _, _, _, _, _, _, _, _, _], box b3 89 [_, _, _, _, _, _, _, _, _, _, _, _, _], _, box b2 78 [_, _], box b1 78 [_, _]]) rfl ?_
          refine go_nil ?_
          refine g_region ?_
          refine go_p rfl rfl rfl (o_move rfl) ?_
          obtain ⟨hg12, hm3⟩ := grd_some hm3
          refine go_p rfl rfl rfl (o_add rfl rfl (i64_id hg12)) ?_
          refine go_p rfl rfl rfl (o_assign rfl) ?_
          refine go_nil ?_
          exact ⟨_, (_, _), hm3, ⟨rfl, trivial⟩, ⟨rfl, rfl, rfl, trivial⟩, [_, _, _, _], rfl⟩
    · replace hj1 := cond_f hc1 hj1
      refine g_exit ?_
      exact ⟨_, (_, _), some_eq hj1, trivial, ⟨rfl, rfl, trivial⟩, [], rfl⟩
  · rintro ⟨l1, z1⟩ ⟨a_r1, cap_r1⟩ hst
    subst hst
    refine k_norm (L' := [(2, _), (3, _)]) (ms' := [row a_r1 cap_r1 93 13 AutoState.d l1, box b2 78 [.v (.slice a_r1 l1.length cap_r1), .i64 z1], _]) rfl rfl ?_
    refine g_seq ?_
    refine g_region ?_
    refine go_p rfl rfl rfl (o_load_box_agg 1 Try.isAgg78 Try.sizeOf78 rfl rfl rfl rfl (Nat.le_of_ble_eq_true rfl)) ?_
    refine go_conv (peekAggE (i := 104) (q := 0) 0 rfl rfl rfl rfl rfl).refines ?_
    refine go_u rfl rfl (o_store_box 2 Try.sizeOf78 rfl rfl rfl rfl rfl rfl rfl rfl (Nat.le_of_ble_eq_true rfl)) ?_
    rintro _ _ rfl
    refine go_ms (ms' := [_, box b2 78 [_, _], box b1 78 [_, _]]) rfl ?_
    refine go_nil ?_
    refine g_ret ?_
    exact retK (ret_one' rfl (ret_cell 2 rfl rfl rfl Try.isAgg78 Try.sizeOf78 rfl) (perm_drop _)) (congrArg (fun (p : AutoAuto) => (AutoAuto.d p : D)) (some_eq hm1))

def m_auto_Auto_on (a1 : AutoAuto) (k1 : Int) (plus1 : Bool) : Option Bool :=
  (bif ((decide (0 ≤ k1)) && (decide (k1 < (a1.l.length : Int)))) then ((idx a1.l k1).bind fun x1 =>
  some (x1.plus == plus1)) else (some false)).bind fun p1 =>
  some p1
theorem w_auto_Auto_on {a1 : AutoAuto} {k1 : Int} {plus1 : Bool} {r : Bool} (hm : m_auto_Auto_on a1 k1 plus1 = some r) : Fn0 Try.prog 79 [AutoAuto.d a1, .i64 k1, .bool plus1] (.bool r) := by
  unfold m_auto_Auto_on at hm
  refine fn_intro Try.func79 rfl Try.ntmps79 rfl fun H0 fr w0 => ?_
  refine g_seq ?_
  refine g_region ?_
  refine go_p rfl rfl rfl (o_box rfl rfl) ?_
  refine go_p rfl rfl rfl (o_assign rfl) ?_
  refine go_nil ?_
  refine g_seq ?_
  refine g_region ?_
  refine go_p rfl rfl rfl (o_move rfl) ?_
  refine go_p rfl rfl rfl (o_cmp rfl rfl rfl) ?_
  refine go_p rfl rfl rfl (o_move rfl) ?_
  apply go_and [(1, _), (2, _), (3, _)] 6 15 (t := 9) ⟨rfl, rfl, rfl, trivial⟩ rfl
  · intro hg_1 hk1
    refine go_wantp rfl rfl rfl hg_1 rfl rfl (o_move rfl) ?_
    refine go_wantp rfl rfl rfl hg_1 rfl rfl (o_fieldAddr fi_81_0 rfl rfl rfl) ?_
    refine go_wantp rfl rfl rfl hg_1 rfl rfl (o_load Try.isAgg79 rfl rfl) ?_
    refine go_wantp rfl rfl rfl hg_1 rfl rfl (o_len Try.runUnderlying79 rfl) ?_
    refine go_wantp rfl rfl rfl hg_1 rfl rfl (o_cmp rfl rfl rfl) ?_
    refine go_p rfl rfl rfl (o_pickT rfl hg_1 rfl) ?_
    exact go_meet hk1 (rfl) ⟨rfl, rfl, rfl, trivial⟩
  · intro hg_1 hk1
    refine go_skip rfl rfl rfl hg_1 rfl rfl ?_
    refine go_skip rfl rfl rfl hg_1 rfl rfl ?_
    refine go_skip rfl rfl rfl hg_1 rfl rfl ?_
    refine go_skip rfl rfl rfl hg_1 rfl rfl ?_
    refine go_skip rfl rfl rfl hg_1 rfl rfl ?_
    refine go_p rfl rfl rfl (o_pickF rfl hg_1 rfl) ?_
    exact go_meet hk1 (rfl) ⟨rfl, rfl, rfl, trivial⟩
  refine go_p rfl rfl rfl (o_move rfl) ?_
  obtain ⟨p1, hp_2, hm⟩ := bind_some hm
  refine go_two [] 9 25 p1 (t := 16) trivial rfl (fun hg_2 hk2 => ?_) (fun hg_2 hk2 => ?_) ?_
  · replace hp_2 := cond_t hg_2 hp_2
    refine go_wantp rfl rfl rfl hg_2 rfl rfl (o_fieldAddr fi_81_0 rfl rfl rfl) ?_
    refine go_wantp rfl rfl rfl hg_2 rfl rfl (o_load Try.isAgg79 rfl rfl) ?_
    refine go_wantp rfl rfl rfl hg_2 rfl rfl (o_move rfl) ?_
    obtain ⟨x1, hx1, hp_2⟩ := bind_some hp_2
    refine go_wantp rfl rfl rfl hg_2 rfl rfl (o_indexAddr_m Try.runUnderlying79 Try.sizeOf89 rfl rfl hx1) ?_
    refine go_wantp rfl rfl rfl hg_2 rfl rfl (o_fieldAddr fi_89_0 rfl rfl rfl) ?_
    refine go_wantp rfl rfl rfl hg_2 rfl rfl (o_load Try.isAgg4 rfl rfl) ?_
    refine go_wantp rfl rfl rfl hg_2 rfl rfl (o_move rfl) ?_
    refine go_wantp rfl rfl rfl hg_2 rfl rfl (o_cmpb Try.runUnderlying4 rfl rfl) ?_
    refine go_p rfl rfl rfl (o_pickT rfl hg_2 rfl) ?_
    exact go_meet hk2 (congrArg (fun b => some (D.bool b)) (some_eq hp_2)) trivial
  · replace hp_2 := cond_f hg_2 hp_2
    refine go_skip rfl rfl rfl hg_2 rfl rfl ?_
    refine go_skip rfl rfl rfl hg_2 rfl rfl ?_
    refine go_skip rfl rfl rfl hg_2 rfl rfl ?_
    refine go_skip rfl rfl rfl hg_2 rfl rfl ?_
    refine go_skip rfl rfl rfl hg_2 rfl rfl ?_
    refine go_skip rfl rfl rfl hg_2 rfl rfl ?_
    refine go_skip rfl rfl rfl hg_2 rfl rfl ?_
    refine go_skip rfl rfl rfl hg_2 rfl rfl ?_
    refine go_p rfl rfl rfl (o_pickF rfl hg_2 rfl) ?_
    exact go_meet hk2 (congrArg (fun b => some (D.bool b)) (some_eq hp_2)) trivial
  refine go_p rfl rfl rfl (o_assign rfl) ?_
  refine go_nil ?_
  refine g_ret ?_
  exact retK (ret_one' rfl (ret_tmp rfl) (perm_drop _)) (congrArg (fun (p : Bool) => (.bool p : D)) (some_eq hm))

def m_slices_IndexFunc_auto_State_auto_State_l1 (s1 : (List AutoState)) (f1 : (AutoState → Option Bool)) : Nat → Int → Option (Out Int Unit)
  | 0, _ => none
  | n + 1, x1 =>
    bif (decide (x1 < (s1.length : Int))) then
      (idx s1 x1).bind fun x2 =>
      (f1 x2).bind fun x3 =>
      bif x3 then
        some (Out.ret x1)
      else
        grd (InR (x1 + 1)) <|
        m_slices_IndexFunc_auto_State_auto_State_l1 s1 f1 n (x1 + 1)
    else
      some (Out.go (()))
def m_slices_IndexFunc_auto_State_auto_State (s1 : (List AutoState)) (f1 : (AutoState → Option Bool)) : Option Int :=
  ((m_slices_IndexFunc_auto_State_auto_State_l1 s1 f1 FU 0 : Option (Out Int Unit))).bind (fun oo => oo.on (fun r1 => some r1) (fun _ =>
  some (-1)))
theorem w_slices_IndexFunc_auto_State_auto_State {s1 : (List AutoState)} {f1 : (AutoState → Option Bool)} {r : Int} {fv_f1 : D} (hff1 : FunOk1 Try.prog fv_f1 AutoState.d D.bool f1) (hm : m_slices_IndexFunc_auto_State_auto_State s1 f1 = some r) : Fn0 Try.prog 109 [.list 13 AutoState.d s1, fv_f1] (.i64 r) := by
  unfold m_slices_IndexFunc_auto_State_auto_State at hm
  refine fn_intro Try.func109 rfl Try.ntmps109 rfl fun H0 fr w0 => ?_
  refine g_seq ?_
  refine g_region ?_
  refine go_p rfl rfl rfl (o_assign rfl) ?_
  refine go_nil ?_
  refine g_seq ?_
  refine g_seq ?_
  refine g_region ?_
  refine go_p rfl rfl rfl (o_move rfl) ?_
  refine go_p rfl rfl rfl (o_len Try.runUnderlying79 rfl) ?_
  refine go_p rfl rfl rfl (o_move rfl) ?_
  refine go_nil ?_
  obtain ⟨o_1, hj1, hm1⟩ := bind_some hm
  refine g_cut_m [] [] (fun (st : Unit) (hid : Unit) => match st, hid with | _, _ => []) (fun F (st : Unit) (hid : Unit) => match st, hid with | _, _ => []) (fun st => Out.go (st) = o_1) trivial trivial ?_ ?_
  · skip
    refine g_block ?_
    refine g_loop_m [(0, _), (1, _), (7, _)] [] (fun (st : Int) (hid : Unit) => match st, hid with | x1, _ => [(8, .i64 x1)]) (fun F (st : Int) (hid : Unit) => match st, hid with | x1, _ => []) () hj1 (fun _ => rfl) ⟨rfl, rfl, rfl, trivial⟩ trivial ⟨rfl, trivial⟩ rfl ?_
    rintro n x1 _ hj1
    rw [m_slices_IndexFunc_auto_State_auto_State_l1] at hj1
    refine g_norm (L' := [(8, .i64 x1), (0, _), (1, _), (7, _)]) (ms' := []) rfl rfl ?_
    refine g_seq ?_
    refine g_region ?_
    refine go_p rfl rfl rfl (o_cmp rfl rfl rfl) ?_
    refine go_nil ?_
    refine g_seq ?_
    refine g_cond rfl (fun hc1 => ?_) (fun hc1 => ?_)
    · replace hj1 := cond_t hc1 hj1
      refine g_skip ?_
      refine g_seq ?_
      refine g_block ?_
      refine g_seq ?_
      refine g_region ?_
      refine go_p rfl rfl rfl (o_move rfl) ?_
      refine go_p rfl rfl rfl (o_assign rfl) ?_
      refine go_nil ?_
      refine g_seq ?_
      refine g_region ?_
      refine go_p rfl rfl rfl (o_move rfl) ?_
      refine go_p rfl rfl rfl (o_move rfl) ?_
      refine go_p rfl rfl rfl (o_move rfl) ?_
      obtain ⟨x2, hx1, hj1⟩ := bind_some hj1
      refine go_p rfl rfl rfl (o_indexAddr_m Try.runUnderlying79 Try.sizeOf89 rfl rfl hx1) ?_
      refine go_p rfl rfl rfl (o_load_agg Try.isAgg89 Try.sizeOf89 rfl rfl) ?_
      obtain ⟨x3, hx2, hj1⟩ := bind_some hj1
      refine go_p rfl rfl rfl (o_callv0 rfl rfl (hff1 _ _ hx2)) ?_
      refine go_nil ?_
      refine g_cond rfl (fun hc2 => ?_) (fun hc2 => ?_)
      · replace hj1 := cond_t hc2 hj1
        refine g_seq ?_
        refine g_region ?_
        refine go_p rfl rfl rfl (o_move rfl) ?_
        refine go_p rfl rfl rfl (o_assign rfl) ?_
        refine go_nil ?_
        refine g_ret ?_
        obtain rfl := some_eq hj1
        replace hm1 := on_ret hm1
        exact retK (ret_one' rfl (ret_tmp rfl) (perm_drop _)) (congrArg (fun (p : Int) => (.i64 p : D)) (some_eq hm1))
      · replace hj1 := cond_f hc2 hj1
        refine g_skip ?_
        refine g_region ?_
        obtain ⟨hg3, hj1⟩ := grd_some hj1
        refine go_p rfl rfl rfl (o_add rfl rfl (i64_id hg3)) ?_
        refine go_p rfl rfl rfl (o_move rfl) ?_
        refine go_nil ?_
        exact ⟨_, (), hj1, ⟨rfl, trivial⟩, ⟨rfl, rfl, rfl, trivial⟩, [], rfl⟩
    · replace hj1 := cond_f hc1 hj1
      refine g_exit ?_
      exact ⟨_, (), some_eq hj1, trivial, trivial, [], rfl⟩
  · rintro _ _ hst
    subst hst
    replace hm1 := on_go hm1
    refine k_norm (L' := []) (ms' := []) rfl rfl ?_
    refine g_seq ?_
    refine g_region ?_
    refine go_p rfl rfl rfl (o_assign rfl) ?_
    refine go_nil ?_
    refine g_ret ?_
    exact retK (ret_one' rfl (ret_tmp rfl) (perm_drop _)) (congrArg (fun (p : Int) => (.i64 p : D)) (some_eq hm1))

def m_slices_ContainsFunc_auto_State_auto_State (s1 : (List AutoState)) (f1 : (AutoState → Option Bool)) : Option Bool :=
  (m_slices_IndexFunc_auto_State_auto_State s1 f1).bind fun x1 =>
  some (decide (0 ≤ x1))
theorem w_slices_ContainsFunc_auto_State_auto_State {s1 : (List AutoState)} {f1 : (AutoState → Option Bool)} {r : Bool} {fv_f1 : D} (hff1 : FunOk1 Try.prog fv_f1 AutoState.d D.bool f1) (hm : m_slices_ContainsFunc_auto_State_auto_State s1 f1 = some r) : Fn0 Try.prog 80 [.list 13 AutoState.d s1, fv_f1] (.bool r) := by
  unfold m_slices_ContainsFunc_auto_State_auto_State at hm
  refine fn_intro Try.func80 rfl Try.ntmps80 rfl fun H0 fr w0 => ?_
  refine g_seq ?_
  refine g_region ?_
  refine go_p rfl rfl rfl (o_assign rfl) ?_
  refine go_nil ?_
  refine g_seq ?_
  refine g_region ?_
  refine go_p rfl rfl rfl (o_move rfl) ?_
  refine go_p rfl rfl rfl (o_move rfl) ?_
  obtain ⟨x1, hx1, hm⟩ := bind_some hm
  refine go_p rfl rfl rfl (o_call0 Try.call109 rfl (w_slices_IndexFunc_auto_State_auto_State hff1 hx1)) ?_
  refine go_p rfl rfl rfl (o_cmp rfl rfl rfl) ?_
  refine go_p rfl rfl rfl (o_assign rfl) ?_
  refine go_nil ?_
  refine g_ret ?_
  exact retK (ret_one' rfl (ret_tmp rfl) (perm_drop _)) (congrArg (fun (p : Bool) => (.bool p : D)) (some_eq hm))

def m_slices_IndexFunc_int_int_l1 (s1 : (List Int)) (f1 : (Int → Option Bool)) : Nat → Int → Option (Out Int Unit)
  | 0, _ => none
  | n + 1, x1 =>
    bif (decide (x1 < (s1.length : Int))) then
      (idx s1 x1).bind fun x2 =>
      (f1 x2).bind fun x3 =>
      bif x3 then
        some (Out.ret x1)
      else
        grd (InR (x1 + 1)) <|
        m_slices_IndexFunc_int_int_l1 s1 f1 n (x1 + 1)
    else
      some (Out.go (()))
def m_slices_IndexFunc_int_int (s1 : (List Int)) (f1 : (Int → Option Bool)) : Option Int :=
  ((m_slices_IndexFunc_int_int_l1 s1 f1 FU 0 : Option (Out Int Unit))).bind (fun oo => oo.on (fun r1 => some r1) (fun _ =>
  some (-1)))
theorem w_slices_IndexFunc_int_int {s1 : (List Int)} {f1 : (Int → Option Bool)} {r : Int} {fv_f1 : D} (hff1 : FunOk1 Try.prog fv_f1 D.i64 D.bool f1) (hm : m_slices_IndexFunc_int_int s1 f1 = some r) : Fn0 Try.prog 137 [.list 1 D.i64 s1, fv_f1] (.i64 r) := by
  unfold m_slices_IndexFunc_int_int at hm
  refine fn_intro Try.func137 rfl Try.ntmps137 rfl fun H0 fr w0 => ?_
  refine g_seq ?_
  refine g_region ?_
  refine go_p rfl rfl rfl (o_assign rfl) ?_
  refine go_nil ?_
  refine g_seq ?_
  refine g_seq ?_
  refine g_region ?_
  refine go_p rfl rfl rfl (o_move rfl) ?_
  refine go_p rfl rfl rfl (o_len Try.runUnderlying47 rfl) ?_
  refine go_p rfl rfl rfl (o_move rfl) ?_
  refine go_nil ?_
  obtain ⟨o_1, hj1, hm1⟩ := bind_some hm
  refine g_cut_m [] [] (fun (st : Unit) (hid : Unit) => match st, hid with | _, _ => []) (fun F (st : Unit) (hid : Unit) => match st, hid with | _, _ => []) (fun st => Out.go (st) = o_1) trivial trivial ?_ ?_
  · skip
    refine g_block ?_
    refine g_loop_m [(0, _), (1, _), (7, _)] [] (fun (st : Int) (hid : Unit) => match st, hid with | x1, _ => [(8, .i64 x1)]) (fun F (st : Int) (hid : Unit) => match st, hid with | x1, _ => []) () hj1 (fun _ => rfl) ⟨rfl, rfl, rfl, trivial⟩ trivial ⟨rfl, trivial⟩ rfl ?_
    rintro n x1 _ hj1
    rw [m_slices_IndexFunc_int_int_l1] at hj1
    refine g_norm (L' := [(8, .i64 x1), (0, _), (1, _), (7, _)]) (ms' := []) rfl rfl ?_
    refine g_seq ?_
    refine g_region ?_
    refine go_p rfl rfl rfl (o_cmp rfl rfl rfl) ?_
    refine go_nil ?_
    refine g_seq ?_
    refine g_cond rfl (fun hc1 => ?_) (fun hc1 => ?_)
    · replace hj1 := cond_t hc1 hj1
      refine g_skip ?_
      refine g_seq ?_
      refine g_block ?_
      refine g_seq ?_
      refine g_region ?_
      refine go_p rfl rfl rfl (o_move rfl) ?_
      refine go_p rfl rfl rfl (o_assign rfl) ?_
      refine go_nil ?_
      refine g_seq ?_
      refine g_region ?_
      refine go_p rfl rfl rfl (o_move rfl) ?_
      refine go_p rfl rfl rfl (o_move rfl) ?_
      refine go_p rfl rfl rfl (o_move rfl) ?_
      obtain ⟨x2, hx1, hj1⟩ := bind_some hj1
      refine go_p rfl rfl rfl (o_indexAddr_m Try.runUnderlying47 Try.sizeOf3 rfl rfl hx1) ?_
      refine go_p rfl rfl rfl (o_load Try.isAgg3 rfl rfl) ?_
      obtain ⟨x3, hx2, hj1⟩ := bind_some hj1
      refine go_p rfl rfl rfl (o_callv0 rfl rfl (hff1 _ _ hx2)) ?_
      refine go_nil ?_
      refine g_cond rfl (fun hc2 => ?_) (fun hc2 => ?_)
      · replace hj1 := cond_t hc2 hj1
        refine g_seq ?_
        refine g_region ?_
        refine go_p rfl rfl rfl (o_move rfl) ?_
        refine go_p rfl rfl rfl (o_assign rfl) ?_
        refine go_nil ?_
        refine g_ret ?_
        obtain rfl := some_eq hj1
        replace hm1 := on_ret hm1
        exact retK (ret_one' rfl (ret_tmp rfl) (perm_drop _)) (congrArg (fun (p : Int) => (.i64 p : D)) (some_eq hm1))
      · replace hj1 := cond_f hc2 hj1
        refine g_skip ?_
        refine g_region ?_
        obtain ⟨hg3, hj1⟩ := grd_some hj1
        refine go_p rfl rfl rfl (o_add rfl rfl (i64_id hg3)) ?_
        refine go_p rfl rfl rfl (o_move rfl) ?_
        refine go_nil ?_
        exact ⟨_, (), hj1, ⟨rfl, trivial⟩, ⟨rfl, rfl, rfl, trivial⟩, [], rfl⟩
    · replace hj1 := cond_f hc1 hj1
      refine g_exit ?_
      exact ⟨_, (), some_eq hj1, trivial, trivial, [], rfl⟩
  · rintro _ _ hst
    subst hst
    replace hm1 := on_go hm1
    refine k_norm (L' := []) (ms' := []) rfl rfl ?_
    refine g_seq ?_
    refine g_region ?_
    refine go_p rfl rfl rfl (o_assign rfl) ?_
    refine go_nil ?_
    refine g_ret ?_
    exact retK (ret_one' rfl (ret_tmp rfl) (perm_drop _)) (congrArg (fun (p : Int) => (.i64 p : D)) (some_eq hm1))

def m_slices_ContainsFunc_int_int (s1 : (List Int)) (f1 : (Int → Option Bool)) : Option Bool :=
  (m_slices_IndexFunc_int_int s1 f1).bind fun x1 =>
  some (decide (0 ≤ x1))
theorem w_slices_ContainsFunc_int_int {s1 : (List Int)} {f1 : (Int → Option Bool)} {r : Bool} {fv_f1 : D} (hff1 : FunOk1 Try.prog fv_f1 D.i64 D.bool f1) (hm : m_slices_ContainsFunc_int_int s1 f1 = some r) : Fn0 Try.prog 98 [.list 1 D.i64 s1, fv_f1] (.bool r) := by
  unfold m_slices_ContainsFunc_int_int at hm
  refine fn_intro Try.func98 rfl Try.ntmps98 rfl fun H0 fr w0 => ?_
  refine g_seq ?_
  refine g_region ?_
  refine go_p rfl rfl rfl (o_assign rfl) ?_
  refine go_nil ?_
  refine g_seq ?_
  refine g_region ?_
  refine go_p rfl rfl rfl (o_move rfl) ?_
  refine go_p rfl rfl rfl (o_move rfl) ?_
  obtain ⟨x1, hx1, hm⟩ := bind_some hm
  refine go_p rfl rfl rfl (o_call0 Try.call137 rfl (w_slices_IndexFunc_int_int hff1 hx1)) ?_
  refine go_p rfl rfl rfl (o_cmp rfl rfl rfl) ?_
  refine go_p rfl rfl rfl (o_assign rfl) ?_
  refine go_nil ?_
  refine g_ret ?_
  exact retK (ret_one' rfl (ret_tmp rfl) (perm_drop _)) (congrArg (fun (p : Bool) => (.bool p : D)) (some_eq hm))

def m_auto_bare (s1 : AutoState) : Option Bool :=
  bif (s1.all && ((((((s1.int || s1.bool) || s1.str) || s1.arrow) || s1.rec_) || s1.tag) || (decide (0 < (s1.vars.length : Int))))) then
    some false
  else
    bif ((!s1.arrow) && ((!decide (s1.dom = 0)) || (!decide (s1.cod = 0)))) then
      some false
    else
      some ((s1.rec_ || (decide ((s1.fields.length : Int) = 0))) && (s1.tag || (decide ((s1.tags.length : Int) = 0))))
theorem w_auto_bare {s1 : AutoState} {r : Bool} (hm : m_auto_bare s1 = some r) : Fn0 Try.prog 110 [AutoState.d s1] (.bool r) := by
  unfold m_auto_bare at hm
  refine fn_intro Try.func110 rfl Try.ntmps110 rfl fun H0 fr w0 => ?_
  refine g_seq ?_
  refine g_region ?_
  refine go_p rfl rfl rfl (o_box rfl rfl) ?_
  refine go_p rfl rfl rfl (o_assign rfl) ?_
  refine go_nil ?_
  refine g_seq ?_
  refine g_block ?_
  refine g_seq ?_
  refine g_region ?_
  refine go_p rfl rfl rfl (o_fieldAddr fi_89_1 rfl rfl rfl) ?_
  refine go_p rfl rfl rfl (o_load Try.isAgg4 rfl rfl) ?_
  refine go_p rfl rfl rfl (o_move rfl) ?_
  apply go_and [(1, _)] 29 35 (t := 6) ⟨rfl, trivial⟩ rfl
  · intro hg_1 hk1
    refine go_wantp rfl rfl rfl hg_1 rfl rfl (o_fieldAddr fi_89_2 rfl rfl rfl) ?_
    refine go_wantp rfl rfl rfl hg_1 rfl rfl (o_load Try.isAgg4 rfl rfl) ?_
    refine go_wantp rfl rfl rfl hg_1 rfl rfl (o_move rfl) ?_
    apply go_or [(1, _), (6, _)] 3 12 (t := 9) ⟨rfl, rfl, trivial⟩ rfl
    · intro hg_2 hk2
      refine go_wantp rfl rfl rfl hg_2 rfl rfl (o_fieldAddr fi_89_3 rfl rfl rfl) ?_
      refine go_wantp rfl rfl rfl hg_2 rfl rfl (o_load Try.isAgg4 rfl rfl) ?_
      refine go_wantp rfl rfl rfl hg_1 rfl rfl (o_pickF rfl hg_2 rfl) ?_
      exact go_meet hk2 (rfl) ⟨rfl, rfl, trivial⟩
    · intro hg_2 hk2
      refine go_skip rfl rfl rfl hg_2 rfl rfl ?_
      refine go_skip rfl rfl rfl hg_2 rfl rfl ?_
      refine go_wantp rfl rfl rfl hg_1 rfl rfl (o_pickT rfl hg_2 rfl) ?_
      exact go_meet hk2 (rfl) ⟨rfl, rfl, trivial⟩
    refine go_wantp rfl rfl rfl hg_1 rfl rfl (o_move rfl) ?_
    apply go_or [(1, _), (6, _)] 3 16 (t := 13) ⟨rfl, rfl, trivial⟩ rfl
    · intro hg_3 hk3
      refine go_wantp rfl rfl rfl hg_3 rfl rfl (o_fieldAddr fi_89_4 rfl rfl rfl) ?_
      refine go_wantp rfl rfl rfl hg_3 rfl rfl (o_load Try.isAgg4 rfl rfl) ?_
      refine go_wantp rfl rfl rfl hg_1 rfl rfl (o_pickF rfl hg_3 rfl) ?_
      exact go_meet hk3 (rfl) ⟨rfl, rfl, trivial⟩
    · intro hg_3 hk3
      refine go_skip rfl rfl rfl hg_3 rfl rfl ?_
      refine go_skip rfl rfl rfl hg_3 rfl rfl ?_
      refine go_wantp rfl rfl rfl hg_1 rfl rfl (o_pickT rfl hg_3 rfl) ?_
      exact go_meet hk3 (rfl) ⟨rfl, rfl, trivial⟩
    refine go_wantp rfl rfl rfl hg_1 rfl rfl (o_move rfl) ?_
    apply go_or [(1, _), (6, _)] 3 20 (t := 17) ⟨rfl, rfl, trivial⟩ rfl
    · intro hg_4 hk4
      refine go_wantp rfl rfl rfl hg_4 rfl rfl (o_fieldAddr fi_89_5 rfl rfl rfl) ?_
      refine go_wantp rfl rfl rfl hg_4 rfl rfl (o_load Try.isAgg4 rfl rfl) ?_
      refine go_wantp rfl rfl rfl hg_1 rfl rfl (o_pickF rfl hg_4 rfl) ?_
      exact go_meet hk4 (rfl) ⟨rfl, rfl, trivial⟩
    · intro hg_4 hk4
      refine go_skip rfl rfl rfl hg_4 rfl rfl ?_
      refine go_skip rfl rfl rfl hg_4 rfl rfl ?_
      refine go_wantp rfl rfl rfl hg_1 rfl rfl (o_pickT rfl hg_4 rfl) ?_
      exact go_meet hk4 (rfl) ⟨rfl, rfl, trivial⟩
    refine go_wantp rfl rfl rfl hg_1 rfl rfl (o_move rfl) ?_
    apply go_or [(1, _), (6, _)] 3 24 (t := 21) ⟨rfl, rfl, trivial⟩ rfl
    · intro hg_5 hk5
      refine go_wantp rfl rfl rfl hg_5 rfl rfl (o_fieldAddr fi_89_6 rfl rfl rfl) ?_
      refine go_wantp rfl rfl rfl hg_5 rfl rfl (o_load Try.isAgg4 rfl rfl) ?_
      refine go_wantp rfl rfl rfl hg_1 rfl rfl (o_pickF rfl hg_5 rfl) ?_
      exact go_meet hk5 (rfl) ⟨rfl, rfl, trivial⟩
    · intro hg_5 hk5
      refine go_skip rfl rfl rfl hg_5 rfl rfl ?_
      refine go_skip rfl rfl rfl hg_5 rfl rfl ?_
      refine go_wantp rfl rfl rfl hg_1 rfl rfl (o_pickT rfl hg_5 rfl) ?_
      exact go_meet hk5 (rfl) ⟨rfl, rfl, trivial⟩
    refine go_wantp rfl rfl rfl hg_1 rfl rfl (o_move rfl) ?_
    apply go_or [(1, _), (6, _)] 3 28 (t := 25) ⟨rfl, rfl, trivial⟩ rfl
    · intro hg_6 hk6
      refine go_wantp rfl rfl rfl hg_6 rfl rfl (o_fieldAddr fi_89_7 rfl rfl rfl) ?_
      refine go_wantp rfl rfl rfl hg_6 rfl rfl (o_load Try.isAgg4 rfl rfl) ?_
      refine go_wantp rfl rfl rfl hg_1 rfl rfl (o_pickF rfl hg_6 rfl) ?_
      exact go_meet hk6 (rfl) ⟨rfl, rfl, trivial⟩
    · intro hg_6 hk6
      refine go_skip rfl rfl rfl hg_6 rfl rfl ?_
      refine go_skip rfl rfl rfl hg_6 rfl rfl ?_
      refine go_wantp rfl rfl rfl hg_1 rfl rfl (o_pickT rfl hg_6 rfl) ?_
      exact go_meet hk6 (rfl) ⟨rfl, rfl, trivial⟩
    refine go_wantp rfl rfl rfl hg_1 rfl rfl (o_move rfl) ?_
    apply go_or [(1, _), (6, _)] 5 34 (t := 29) ⟨rfl, rfl, trivial⟩ rfl
    · intro hg_7 hk7
      refine go_wantp rfl rfl rfl hg_7 rfl rfl (o_fieldAddr fi_89_8 rfl rfl rfl) ?_
      refine go_wantp rfl rfl rfl hg_7 rfl rfl (o_load Try.isAgg47 rfl rfl) ?_
      refine go_wantp rfl rfl rfl hg_7 rfl rfl (o_len Try.runUnderlying47 rfl) ?_
      refine go_wantp rfl rfl rfl hg_7 rfl rfl (o_cmp rfl rfl rfl) ?_
      refine go_wantp rfl rfl rfl hg_1 rfl rfl (o_pickF rfl hg_7 rfl) ?_
      exact go_meet hk7 (rfl) ⟨rfl, rfl, trivial⟩
    · intro hg_7 hk7
      refine go_skip rfl rfl rfl hg_7 rfl rfl ?_
      refine go_skip rfl rfl rfl hg_7 rfl rfl ?_
      refine go_skip rfl rfl rfl hg_7 rfl rfl ?_
      refine go_skip rfl rfl rfl hg_7 rfl rfl ?_
      refine go_wantp rfl rfl rfl hg_1 rfl rfl (o_pickT rfl hg_7 rfl) ?_
      exact go_meet hk7 (rfl) ⟨rfl, rfl, trivial⟩
    refine go_p rfl rfl rfl (o_pickT rfl hg_1 rfl) ?_
    exact go_meet hk1 (rfl) ⟨rfl, trivial⟩
  · intro hg_1 hk1
    refine go_skip rfl rfl rfl hg_1 rfl rfl ?_
    refine go_skip rfl rfl rfl hg_1 rfl rfl ?_
    refine go_skip rfl rfl rfl hg_1 rfl rfl ?_
    refine go_skipu rfl rfl rfl rfl rfl ?_
    refine go_skipu rfl rfl rfl rfl rfl ?_
    refine go_skip rfl rfl rfl hg_1 rfl rfl ?_
    refine go_skip rfl rfl rfl hg_1 rfl rfl ?_
    refine go_skipu rfl rfl rfl rfl rfl ?_
    refine go_skipu rfl rfl rfl rfl rfl ?_
    refine go_skip rfl rfl rfl hg_1 rfl rfl ?_
    refine go_skip rfl rfl rfl hg_1 rfl rfl ?_
    refine go_skipu rfl rfl rfl rfl rfl ?_
    refine go_skipu rfl rfl rfl rfl rfl ?_
    refine go_skip rfl rfl rfl hg_1 rfl rfl ?_
    refine go_skip rfl rfl rfl hg_1 rfl rfl ?_
    refine go_skipu rfl rfl rfl rfl rfl ?_
    refine go_skipu rfl rfl rfl rfl rfl ?_
    refine go_skip rfl rfl rfl hg_1 rfl rfl ?_
    refine go_skip rfl rfl rfl hg_1 rfl rfl ?_
    refine go_skipu rfl rfl rfl rfl rfl ?_
    refine go_skipu rfl rfl rfl rfl rfl ?_
    refine go_skip rfl rfl rfl hg_1 rfl rfl ?_
    refine go_skip rfl rfl rfl hg_1 rfl rfl ?_
    refine go_skipu rfl rfl rfl rfl rfl ?_
    refine go_skipu rfl rfl rfl rfl rfl ?_
    refine go_skipu rfl rfl rfl rfl rfl ?_
    refine go_skipu rfl rfl rfl rfl rfl ?_
    refine go_skip rfl rfl rfl hg_1 rfl rfl ?_
    refine go_p rfl rfl rfl (o_pickF rfl hg_1 rfl) ?_
    exact go_meet hk1 (rfl) ⟨rfl, trivial⟩
  refine go_p rfl rfl rfl (o_assign rfl) ?_
  refine go_nil ?_
  refine g_cond rfl (fun hc1 => ?_) (fun hc1 => ?_)
  · replace hm := cond_t hc1 hm
    refine g_seq ?_
    refine g_region ?_
    refine go_p rfl rfl rfl (o_assign rfl) ?_
    refine go_nil ?_
    refine g_ret ?_
    exact retK (ret_one' rfl (ret_tmp rfl) (perm_drop _)) (congrArg (fun (p : Bool) => (.bool p : D)) (some_eq hm))
  · replace hm := cond_f hc1 hm
    refine g_seq ?_
    refine g_region ?_
    refine go_p rfl rfl rfl (o_fieldAddr fi_89_5 rfl rfl rfl) ?_
    refine go_p rfl rfl rfl (o_load Try.isAgg4 rfl rfl) ?_
    refine go_p rfl rfl rfl (o_not rfl) ?_
    refine go_p rfl rfl rfl (o_move rfl) ?_
    apply go_and [(1, _)] 9 49 (t := 40) ⟨rfl, trivial⟩ rfl
    · intro hg_8 hk8
      refine go_wantp rfl rfl rfl hg_8 rfl rfl (o_fieldAddr fi_89_9 rfl rfl rfl) ?_
      refine go_wantp rfl rfl rfl hg_8 rfl rfl (o_load Try.isAgg3 rfl rfl) ?_
      refine go_wantp rfl rfl rfl hg_8 rfl rfl (o_cmp rfl rfl rfl) ?_
      refine go_wantp rfl rfl rfl hg_8 rfl rfl (o_move rfl) ?_
      apply go_or [(1, _), (40, _)] 4 48 (t := 44) ⟨rfl, rfl, trivial⟩ rfl
      · intro hg_9 hk9
        refine go_wantp rfl rfl rfl hg_9 rfl rfl (o_fieldAddr fi_89_10 rfl rfl rfl) ?_
        refine go_wantp rfl rfl rfl hg_9 rfl rfl (o_load Try.isAgg3 rfl rfl) ?_
        refine go_wantp rfl rfl rfl hg_9 rfl rfl (o_cmp rfl rfl rfl) ?_
        refine go_wantp rfl rfl rfl hg_8 rfl rfl (o_pickF rfl hg_9 rfl) ?_
        exact go_meet hk9 (rfl) ⟨rfl, rfl, trivial⟩
      · intro hg_9 hk9
        refine go_skip rfl rfl rfl hg_9 rfl rfl ?_
        refine go_skip rfl rfl rfl hg_9 rfl rfl ?_
        refine go_skip rfl rfl rfl hg_9 rfl rfl ?_
        refine go_wantp rfl rfl rfl hg_8 rfl rfl (o_pickT rfl hg_9 rfl) ?_
        exact go_meet hk9 (rfl) ⟨rfl, rfl, trivial⟩
      refine go_p rfl rfl rfl (o_pickT rfl hg_8 rfl) ?_
      exact go_meet hk8 (rfl) ⟨rfl, trivial⟩
    · intro hg_8 hk8
      refine go_skip rfl rfl rfl hg_8 rfl rfl ?_
      refine go_skip rfl rfl rfl hg_8 rfl rfl ?_
      refine go_skip rfl rfl rfl hg_8 rfl rfl ?_
      refine go_skip rfl rfl rfl hg_8 rfl rfl ?_
      refine go_skipu rfl rfl rfl rfl rfl ?_
      refine go_skipu rfl rfl rfl rfl rfl ?_
      refine go_skipu rfl rfl rfl rfl rfl ?_
      refine go_skip rfl rfl rfl hg_8 rfl rfl ?_
      refine go_p rfl rfl rfl (o_pickF rfl hg_8 rfl) ?_
      exact go_meet hk8 (rfl) ⟨rfl, trivial⟩
    refine go_p rfl rfl rfl (o_assign rfl) ?_
    refine go_nil ?_
    refine g_cond rfl (fun hc2 => ?_) (fun hc2 => ?_)
    · replace hm := cond_t hc2 hm
      refine g_seq ?_
      refine g_region ?_
      refine go_p rfl rfl rfl (o_assign rfl) ?_
      refine go_nil ?_
      refine g_ret ?_
      exact retK (ret_one' rfl (ret_tmp rfl) (perm_drop _)) (congrArg (fun (p : Bool) => (.bool p : D)) (some_eq hm))
    · replace hm := cond_f hc2 hm
      refine g_skip ?_
      refine g_seq ?_
      refine g_region ?_
      refine go_p rfl rfl rfl (o_fieldAddr fi_89_6 rfl rfl rfl) ?_
      refine go_p rfl rfl rfl (o_load Try.isAgg4 rfl rfl) ?_
      refine go_p rfl rfl rfl (o_move rfl) ?_
      apply go_or [(1, _)] 5 57 (t := 52) ⟨rfl, trivial⟩ rfl
      · intro hg_10 hk10
        refine go_wantp rfl rfl rfl hg_10 rfl rfl (o_fieldAddr fi_89_11 rfl rfl rfl) ?_
        refine go_wantp rfl rfl rfl hg_10 rfl rfl (o_load Try.isAgg87 rfl rfl) ?_
        refine go_wantp rfl rfl rfl hg_10 rfl rfl (o_len Try.runUnderlying87 rfl) ?_
        refine go_wantp rfl rfl rfl hg_10 rfl rfl (o_cmp rfl rfl rfl) ?_
        refine go_p rfl rfl rfl (o_pickF rfl hg_10 rfl) ?_
        exact go_meet hk10 (rfl) ⟨rfl, trivial⟩
      · intro hg_10 hk10
        refine go_skip rfl rfl rfl hg_10 rfl rfl ?_
        refine go_skip rfl rfl rfl hg_10 rfl rfl ?_
        refine go_skip rfl rfl rfl hg_10 rfl rfl ?_
        refine go_skip rfl rfl rfl hg_10 rfl rfl ?_
        refine go_p rfl rfl rfl (o_pickT rfl hg_10 rfl) ?_
        exact go_meet hk10 (rfl) ⟨rfl, trivial⟩
      refine go_p rfl rfl rfl (o_move rfl) ?_
      apply go_and [] 9 67 (t := 58) trivial rfl
      · intro hg_11 hk11
        refine go_wantp rfl rfl rfl hg_11 rfl rfl (o_fieldAddr fi_89_7 rfl rfl rfl) ?_
        refine go_wantp rfl rfl rfl hg_11 rfl rfl (o_load Try.isAgg4 rfl rfl) ?_
        refine go_wantp rfl rfl rfl hg_11 rfl rfl (o_move rfl) ?_
        apply go_or [(58, _)] 5 66 (t := 61) ⟨rfl, trivial⟩ rfl
        · intro hg_12 hk12
          refine go_wantp rfl rfl rfl hg_12 rfl rfl (o_fieldAddr fi_89_12 rfl rfl rfl) ?_
          refine go_wantp rfl rfl rfl hg_12 rfl rfl (o_load Try.isAgg87 rfl rfl) ?_
          refine go_wantp rfl rfl rfl hg_12 rfl rfl (o_len Try.runUnderlying87 rfl) ?_
          refine go_wantp rfl rfl rfl hg_12 rfl rfl (o_cmp rfl rfl rfl) ?_
          refine go_wantp rfl rfl rfl hg_11 rfl rfl (o_pickF rfl hg_12 rfl) ?_
          exact go_meet hk12 (rfl) ⟨rfl, trivial⟩
        · intro hg_12 hk12
          refine go_skip rfl rfl rfl hg_12 rfl rfl ?_
          refine go_skip rfl rfl rfl hg_12 rfl rfl ?_
          refine go_skip rfl rfl rfl hg_12 rfl rfl ?_
          refine go_skip rfl rfl rfl hg_12 rfl rfl ?_
          refine go_wantp rfl rfl rfl hg_11 rfl rfl (o_pickT rfl hg_12 rfl) ?_
          exact go_meet hk12 (rfl) ⟨rfl, trivial⟩
        refine go_p rfl rfl rfl (o_pickT rfl hg_11 rfl) ?_
        exact go_meet hk11 (rfl) trivial
      · intro hg_11 hk11
        refine go_skip rfl rfl rfl hg_11 rfl rfl ?_
        refine go_skip rfl rfl rfl hg_11 rfl rfl ?_
        refine go_skip rfl rfl rfl hg_11 rfl rfl ?_
        refine go_skipu rfl rfl rfl rfl rfl ?_
        refine go_skipu rfl rfl rfl rfl rfl ?_
        refine go_skipu rfl rfl rfl rfl rfl ?_
        refine go_skipu rfl rfl rfl rfl rfl ?_
        refine go_skip rfl rfl rfl hg_11 rfl rfl ?_
        refine go_p rfl rfl rfl (o_pickF rfl hg_11 rfl) ?_
        exact go_meet hk11 (rfl) trivial
      refine go_p rfl rfl rfl (o_assign rfl) ?_
      refine go_nil ?_
      refine g_ret ?_
      exact retK (ret_one' rfl (ret_tmp rfl) (perm_drop _)) (congrArg (fun (p : Bool) => (.bool p : D)) (some_eq hm))

def m_auto_numbered_l1 (l1 : (List Int)) : Nat → Int → Option (Out Bool Unit)
  | 0, _ => none
  | n + 1, x1 =>
    bif (decide (x1 < (l1.length : Int))) then
      (idx l1 x1).bind fun x2 =>
      (bif ((decide (x2 < 0)) || (decide (999 < x2))) then (some true) else ((bif (decide (0 < x1)) then (grd (InR (x1 - 1)) <|
      (idx l1 (x1 - 1)).bind fun x3 =>
      some (decide (x2 ≤ x3))) else (some false)).bind fun p2 =>
      some p2)).bind fun p1 =>
      bif p1 then
        some (Out.ret false)
      else
        grd (InR (x1 + 1)) <|
        m_auto_numbered_l1 l1 n (x1 + 1)
    else
      some (Out.go (()))
def m_auto_numbered (l1 : (List Int)) : Option Bool :=
  ((m_auto_numbered_l1 l1 FU 0 : Option (Out Bool Unit))).bind (fun oo => oo.on (fun r1 => some r1) (fun _ =>
  some true))
theorem w_auto_numbered {l1 : (List Int)} {r : Bool} (hm : m_auto_numbered l1 = some r) : Fn0 Try.prog 111 [.list 1 D.i64 l1] (.bool r) := by
  unfold m_auto_numbered at hm
  refine fn_intro Try.func111 rfl Try.ntmps111 rfl fun H0 fr w0 => ?_
  refine g_seq ?_
  refine g_region ?_
  refine go_p rfl rfl rfl (o_assign rfl) ?_
  refine go_nil ?_
  refine g_seq ?_
  refine g_seq ?_
  refine g_region ?_
  refine go_p rfl rfl rfl (o_move rfl) ?_
  refine go_p rfl rfl rfl (o_len Try.runUnderlying47 rfl) ?_
  refine go_p rfl rfl rfl (o_move rfl) ?_
  refine go_nil ?_
  obtain ⟨o_1, hj1, hm1⟩ := bind_some hm
  refine g_cut_m [] [] (fun (st : Unit) (hid : Unit) => match st, hid with | _, _ => []) (fun F (st : Unit) (hid : Unit) => match st, hid with | _, _ => []) (fun st => Out.go (st) = o_1) trivial trivial ?_ ?_
  · skip
    refine g_block ?_
    refine g_loop_m [(0, _), (5, _), (6, _)] [] (fun (st : Int) (hid : Unit) => match st, hid with | x1, _ => [(7, .i64 x1)]) (fun F (st : Int) (hid : Unit) => match st, hid with | x1, _ => []) () hj1 (fun _ => rfl) ⟨rfl, rfl, rfl, trivial⟩ trivial ⟨rfl, trivial⟩ rfl ?_
    rintro n x1 _ hj1
    rw [m_auto_numbered_l1] at hj1
    refine g_norm (L' := [(7, .i64 x1), (0, _), (5, _), (6, _)]) (ms' := []) rfl rfl ?_
    refine g_seq ?_
    refine g_region ?_
    refine go_p rfl rfl rfl (o_cmp rfl rfl rfl) ?_
    refine go_nil ?_
    refine g_seq ?_
    refine g_cond rfl (fun hc1 => ?_) (fun hc1 => ?_)
    · replace hj1 := cond_t hc1 hj1
      refine g_skip ?_
      refine g_seq ?_
      refine g_block ?_
      refine g_seq ?_
      refine g_region ?_
      refine go_p rfl rfl rfl (o_move rfl) ?_
      obtain ⟨x2, hx1, hj1⟩ := bind_some hj1
      refine go_p rfl rfl rfl (o_indexAddr_m Try.runUnderlying47 Try.sizeOf3 rfl rfl hx1) ?_
      refine go_p rfl rfl rfl (o_load Try.isAgg3 rfl rfl) ?_
      refine go_p rfl rfl rfl (o_assign rfl) ?_
      refine go_p rfl rfl rfl (o_assign rfl) ?_
      refine go_nil ?_
      refine g_seq ?_
      refine g_region ?_
      refine go_p rfl rfl rfl (o_move rfl) ?_
      refine go_p rfl rfl rfl (o_cmp rfl rfl rfl) ?_
      refine go_p rfl rfl rfl (o_move rfl) ?_
      apply go_or [(0, _), (3, _), (4, _), (5, _), (6, _), (7, _)] 3 17 (t := 14) ⟨rfl, rfl, rfl, rfl, rfl, rfl, trivial⟩ rfl
      · intro hg_1 hk1
        refine go_wantp rfl rfl rfl hg_1 rfl rfl (o_move rfl) ?_
        refine go_wantp rfl rfl rfl hg_1 rfl rfl (o_cmp rfl rfl rfl) ?_
        refine go_p rfl rfl rfl (o_pickF rfl hg_1 rfl) ?_
        exact go_meet hk1 (rfl) ⟨rfl, rfl, rfl, rfl, rfl, rfl, trivial⟩
      · intro hg_1 hk1
        refine go_skip rfl rfl rfl hg_1 rfl rfl ?_
        refine go_skip rfl rfl rfl hg_1 rfl rfl ?_
        refine go_p rfl rfl rfl (o_pickT rfl hg_1 rfl) ?_
        exact go_meet hk1 (rfl) ⟨rfl, rfl, rfl, rfl, rfl, rfl, trivial⟩
      refine go_p rfl rfl rfl (o_move rfl) ?_
      obtain ⟨p1, hp_2, hj1⟩ := bind_some hj1
      refine go_two [(0, _), (5, _), (6, _), (7, _)] 12 30 p1 (t := 18) ⟨rfl, rfl, rfl, rfl, trivial⟩ rfl (fun hg_2 hk2 => ?_) (fun hg_2 hk2 => ?_) ?_
      · replace hp_2 := cond_t hg_2 hp_2
        refine go_skip rfl rfl rfl hg_2 rfl rfl ?_
        refine go_skip rfl rfl rfl hg_2 rfl rfl ?_
        refine go_skip rfl rfl rfl hg_2 rfl rfl ?_
        refine go_skipu rfl rfl rfl rfl rfl ?_
        refine go_skipu rfl rfl rfl rfl rfl ?_
        refine go_skipu rfl rfl rfl rfl rfl ?_
        refine go_skipu rfl rfl rfl rfl rfl ?_
        refine go_skipu rfl rfl rfl rfl rfl ?_
        refine go_skipu rfl rfl rfl rfl rfl ?_
        refine go_skipu rfl rfl rfl rfl rfl ?_
        refine go_skip rfl rfl rfl hg_2 rfl rfl ?_
        refine go_p rfl rfl rfl (o_pickT rfl hg_2 rfl) ?_
        exact go_meet hk2 (congrArg (fun b => some (D.bool b)) (some_eq hp_2)) ⟨rfl, rfl, rfl, rfl, trivial⟩
      · replace hp_2 := cond_f hg_2 hp_2
        refine go_wantp rfl rfl rfl hg_2 rfl rfl (o_move rfl) ?_
        refine go_wantp rfl rfl rfl hg_2 rfl rfl (o_cmp rfl rfl rfl) ?_
        refine go_wantp rfl rfl rfl hg_2 rfl rfl (o_move rfl) ?_
        obtain ⟨p2, hp_3, hp_2⟩ := bind_some hp_2
        refine go_two [(0, _), (5, _), (6, _), (7, _), (18, _)] 8 29 p2 (t := 21) ⟨rfl, rfl, rfl, rfl, rfl, trivial⟩ rfl (fun hg_3 hk3 => ?_) (fun hg_3 hk3 => ?_) ?_
        · replace hp_3 := cond_t hg_3 hp_3
          refine go_wantp rfl rfl rfl hg_3 rfl rfl (o_move rfl) ?_
          refine go_wantp rfl rfl rfl hg_3 rfl rfl (o_move rfl) ?_
          obtain ⟨hg2, hp_3⟩ := grd_some hp_3
          refine go_wantp rfl rfl rfl hg_3 rfl rfl (o_sub rfl rfl (i64_id hg2)) ?_
          obtain ⟨x3, hx3, hp_3⟩ := bind_some hp_3
          refine go_wantp rfl rfl rfl hg_3 rfl rfl (o_indexAddr_m Try.runUnderlying47 Try.sizeOf3 rfl rfl hx3) ?_
          refine go_wantp rfl rfl rfl hg_3 rfl rfl (o_load Try.isAgg3 rfl rfl) ?_
          refine go_wantp rfl rfl rfl hg_3 rfl rfl (o_move rfl) ?_
          refine go_wantp rfl rfl rfl hg_3 rfl rfl (o_cmp rfl rfl rfl) ?_
          refine go_wantp rfl rfl rfl hg_2 rfl rfl (o_pickT rfl hg_3 rfl) ?_
          exact go_meet hk3 (congrArg (fun b => some (D.bool b)) (some_eq hp_3)) ⟨rfl, rfl, rfl, rfl, rfl, trivial⟩
        · replace hp_3 := cond_f hg_3 hp_3
          refine go_skip rfl rfl rfl hg_3 rfl rfl ?_
          refine go_skip rfl rfl rfl hg_3 rfl rfl ?_
          refine go_skip rfl rfl rfl hg_3 rfl rfl ?_
          refine go_skip rfl rfl rfl hg_3 rfl rfl ?_
          refine go_skip rfl rfl rfl hg_3 rfl rfl ?_
          refine go_skip rfl rfl rfl hg_3 rfl rfl ?_
          refine go_skip rfl rfl rfl hg_3 rfl rfl ?_
          refine go_wantp rfl rfl rfl hg_2 rfl rfl (o_pickF rfl hg_3 rfl) ?_
          exact go_meet hk3 (congrArg (fun b => some (D.bool b)) (some_eq hp_3)) ⟨rfl, rfl, rfl, rfl, rfl, trivial⟩
        refine go_p rfl rfl rfl (o_pickF rfl hg_2 rfl) ?_
        exact go_meet hk2 (congrArg (fun b => some (D.bool b)) (some_eq hp_2)) ⟨rfl, rfl, rfl, rfl, trivial⟩
      refine go_nil ?_
      refine g_cond rfl (fun hc2 => ?_) (fun hc2 => ?_)
      · replace hj1 := cond_t hc2 hj1
        refine g_seq ?_
        refine g_region ?_
        refine go_p rfl rfl rfl (o_assign rfl) ?_
        refine go_nil ?_
        refine g_ret ?_
        obtain rfl := some_eq hj1
        replace hm1 := on_ret hm1
        exact retK (ret_one' rfl (ret_tmp rfl) (perm_drop _)) (congrArg (fun (p : Bool) => (.bool p : D)) (some_eq hm1))
      · replace hj1 := cond_f hc2 hj1
        refine g_skip ?_
        refine g_region ?_
        obtain ⟨hg4, hj1⟩ := grd_some hj1
        refine go_p rfl rfl rfl (o_add rfl rfl (i64_id hg4)) ?_
        refine go_p rfl rfl rfl (o_move rfl) ?_
        refine go_nil ?_
        exact ⟨_, (), hj1, ⟨rfl, trivial⟩, ⟨rfl, rfl, rfl, trivial⟩, [], rfl⟩
    · replace hj1 := cond_f hc1 hj1
      refine g_exit ?_
      exact ⟨_, (), some_eq hj1, trivial, trivial, [], rfl⟩
  · rintro _ _ hst
    subst hst
    replace hm1 := on_go hm1
    refine k_norm (L' := []) (ms' := []) rfl rfl ?_
    refine g_seq ?_
    refine g_region ?_
    refine go_p rfl rfl rfl (o_assign rfl) ?_
    refine go_nil ?_
    refine g_ret ?_
    exact retK (ret_one' rfl (ret_tmp rfl) (perm_drop _)) (congrArg (fun (p : Bool) => (.bool p : D)) (some_eq hm1))

def m_auto_named_l1 (l1 : (List AutoEdge)) (is1 : ((List UInt8) → Option Bool)) : Nat → Int → Option (Out Bool Unit)
  | 0, _ => none
  | n + 1, x1 =>
    bif (decide (x1 < (l1.length : Int))) then
      (idx l1 x1).bind fun x2 =>
      (is1 x2.name).bind fun x3 =>
      bif (!x3) then (some (Out.ret false)) else (bif (decide (0 < x1)) then (grd (InR (x1 - 1)) <|
      (idx l1 (x1 - 1)).bind fun x4 =>
      bif (!Op.bytesLess x4.name x2.name) then
        some (Out.ret false)
      else
        grd (InR (x1 + 1)) <|
        m_auto_named_l1 l1 is1 n (x1 + 1)) else (grd (InR (x1 + 1)) <|
      m_auto_named_l1 l1 is1 n (x1 + 1)))
    else
      some (Out.go (()))
def m_auto_named (l1 : (List AutoEdge)) (is1 : ((List UInt8) → Option Bool)) : Option Bool :=
  ((m_auto_named_l1 l1 is1 FU 0 : Option (Out Bool Unit))).bind (fun oo => oo.on (fun r1 => some r1) (fun _ =>
  some (decide ((l1.length : Int) ≤ 30))))
theorem w_auto_named {l1 : (List AutoEdge)} {is1 : ((List UInt8) → Option Bool)} {r : Bool} {fv_is1 : D} (hfis1 : FunOk1 Try.prog fv_is1 D.str D.bool is1) (hm : m_auto_named l1 is1 = some r) : Fn0 Try.prog 112 [.list 2 AutoEdge.d l1, fv_is1] (.bool r) := by
  unfold m_auto_named at hm
  refine fn_intro Try.func112 rfl Try.ntmps112 rfl fun H0 fr w0 => ?_
  refine g_seq ?_
  refine g_region ?_
  refine go_p rfl rfl rfl (o_assign rfl) ?_
  refine go_nil ?_
  refine g_seq ?_
  refine g_seq ?_
  refine g_region ?_
  refine go_p rfl rfl rfl (o_move rfl) ?_
  refine go_p rfl rfl rfl (o_len Try.runUnderlying87 rfl) ?_
  refine go_p rfl rfl rfl (o_move rfl) ?_
  refine go_nil ?_
  obtain ⟨o_1, hj1, hm1⟩ := bind_some hm
  refine g_cut_m [(0, _)] [] (fun (st : Unit) (hid : Unit) => match st, hid with | _, _ => []) (fun F (st : Unit) (hid : Unit) => match st, hid with | _, _ => []) (fun st => Out.go (st) = o_1) ⟨rfl, trivial⟩ trivial ?_ ?_
  · skip
    refine g_block ?_
    refine g_loop_m [(0, _), (1, _), (7, _), (8, _)] [] (fun (st : Int) (hid : Unit) => match st, hid with | x1, _ => [(9, .i64 x1)]) (fun F (st : Int) (hid : Unit) => match st, hid with | x1, _ => []) () hj1 (fun _ => rfl) ⟨rfl, rfl, rfl, rfl, trivial⟩ trivial ⟨rfl, trivial⟩ rfl ?_
    rintro n x1 _ hj1
    rw [m_auto_named_l1] at hj1
    refine g_norm (L' := [(9, .i64 x1), (0, _), (1, _), (7, _), (8, _)]) (ms' := []) rfl rfl ?_
    refine g_seq ?_
    refine g_region ?_
    refine go_p rfl rfl rfl (o_cmp rfl rfl rfl) ?_
    refine go_nil ?_
    refine g_seq ?_
    refine g_cond rfl (fun hc1 => ?_) (fun hc1 => ?_)
    · replace hj1 := cond_t hc1 hj1
      refine g_skip ?_
      refine g_seq ?_
      refine g_block ?_
      refine g_seq ?_
      refine g_region ?_
      refine go_p rfl rfl rfl (o_move rfl) ?_
      obtain ⟨x2, hx1, hj1⟩ := bind_some hj1
      refine go_p rfl rfl rfl (o_indexAddr_m Try.runUnderlying87 Try.sizeOf145 rfl rfl hx1) ?_
      refine go_p rfl rfl rfl (o_load_agg Try.isAgg145 Try.sizeOf145 rfl rfl) ?_
      refine go_op rfl rfl rfl (o_alloc_own Try.zeroValue145 (cs := [.str ([] : List UInt8), .i64 0]) rfl) ?_
      rintro _ _ ⟨b1, rfl, rfl⟩
      refine go_p rfl rfl rfl (o_assign rfl) ?_
      refine go_u rfl rfl (o_store_box 0 Try.sizeOf145 rfl rfl rfl rfl rfl rfl rfl rfl (Nat.le_of_ble_eq_true rfl)) ?_
      rintro _ _ rfl
      refine go_ms (ms' := [box b1 145 [_, _]]) rfl ?_
      refine go_nil ?_
      refine g_seq ?_
      obtain ⟨x3, hx2, hj1⟩ := bind_some hj1
      rcases cond_split hj1 with ⟨hg_1, hj1⟩ | ⟨hg_1, hj1⟩
      ·
        skip
        refine g_draw 20 Try_mixed (by decide +kernel) ?_
        refine gd_p rfl rfl rfl (o_move rfl) ?_
        refine gd_p rfl rfl rfl (o_fieldAddr_box fi_145_0 rfl) ?_
        refine gd_p rfl rfl rfl (o_load_box 0 Try.isAgg9 rfl rfl rfl rfl) ?_
        refine gd_p rfl rfl rfl (o_callv0 rfl rfl (hfis1 _ _ hx2)) ?_
        refine gd_p rfl rfl rfl (o_not rfl) ?_
        refine gd_p rfl rfl rfl (o_move rfl) ?_
        refine gd_skip rfl rfl rfl hg_1 rfl rfl ?_
        refine gd_skip rfl rfl rfl hg_1 rfl rfl ?_
        refine gd_skip rfl rfl rfl hg_1 rfl rfl ?_
        refine gd_skipu rfl rfl rfl rfl rfl ?_
        refine gd_skipu rfl rfl rfl rfl rfl ?_
        refine gd_skipu rfl rfl rfl rfl rfl ?_
        refine gd_skipu rfl rfl rfl rfl rfl ?_
        refine gd_skipu rfl rfl rfl rfl rfl ?_
        refine gd_skipu rfl rfl rfl rfl rfl ?_
        refine gd_skipu rfl rfl rfl rfl rfl ?_
        refine gd_skipu rfl rfl rfl rfl rfl ?_
        refine gd_skipu rfl rfl rfl rfl rfl ?_
        refine gd_skip rfl rfl rfl hg_1 rfl rfl ?_
        refine gd_p rfl rfl rfl (o_pickT rfl hg_1 rfl) ?_
        refine gd_nil ?_
        refine go_nil ?_
        refine g_cond_true rfl rfl ?_
        refine g_seq ?_
        refine g_region ?_
        refine go_p rfl rfl rfl (o_assign rfl) ?_
        refine go_nil ?_
        refine g_ret ?_
        obtain rfl := some_eq hj1
        replace hm1 := on_ret hm1
        exact retK (ret_one' rfl (ret_tmp rfl) (perm_drop _)) (congrArg (fun (p : Bool) => (.bool p : D)) (some_eq hm1))
      ·
        skip
        rcases cond_split hj1 with ⟨hg_2, hj1⟩ | ⟨hg_2, hj1⟩
        ·
          skip
          obtain ⟨hg3, hj1⟩ := grd_some hj1
          obtain ⟨x4, hx4, hj1⟩ := bind_some hj1
          refine g_draw 20 Try_mixed (by decide +kernel) ?_
          refine gd_p rfl rfl rfl (o_move rfl) ?_
          refine gd_p rfl rfl rfl (o_fieldAddr_box fi_145_0 rfl) ?_
          refine gd_p rfl rfl rfl (o_load_box 0 Try.isAgg9 rfl rfl rfl rfl) ?_
          refine gd_p rfl rfl rfl (o_callv0 rfl rfl (hfis1 _ _ hx2)) ?_
          refine gd_p rfl rfl rfl (o_not rfl) ?_
          refine gd_p rfl rfl rfl (o_move rfl) ?_
          refine gd_want rfl rfl rfl hg_1 rfl rfl (o_move rfl) ?_
          refine gd_want rfl rfl rfl hg_1 rfl rfl (o_cmp rfl rfl rfl) ?_
          refine gd_want rfl rfl rfl hg_1 rfl rfl (o_move rfl) ?_
          refine gd_want rfl rfl rfl hg_2 rfl rfl (o_move rfl) ?_
          refine gd_want rfl rfl rfl hg_2 rfl rfl (o_move rfl) ?_
          refine gd_want rfl rfl rfl hg_2 rfl rfl (o_sub rfl rfl (i64_id hg3)) ?_
          refine gd_want rfl rfl rfl hg_2 rfl rfl (o_indexAddr_m Try.runUnderlying87 Try.sizeOf145 rfl rfl hx4) ?_
          refine gd_want rfl rfl rfl hg_2 rfl rfl (o_fieldAddr fi_145_0 rfl rfl rfl) ?_
          refine gd_want rfl rfl rfl hg_2 rfl rfl (o_load Try.isAgg9 rfl rfl) ?_
          refine gd_want rfl rfl rfl hg_2 rfl rfl (o_fieldAddr_box fi_145_0 rfl) ?_
          refine gd_want rfl rfl rfl hg_2 rfl rfl (o_load_box 0 Try.isAgg9 rfl rfl rfl rfl) ?_
          refine gd_want rfl rfl rfl hg_2 rfl rfl (o_cmps rfl rfl rfl) ?_
          refine gd_want rfl rfl rfl hg_1 rfl rfl (o_pickT rfl hg_2 rfl) ?_
          refine gd_p rfl rfl rfl (o_pickF rfl hg_1 rfl) ?_
          refine gd_nil ?_
          refine go_nil ?_
          refine g_cond rfl (fun hc2 => ?_) (fun hc2 => ?_)
          · replace hj1 := cond_t hc2 hj1
            refine g_seq ?_
            refine g_region ?_
            refine go_p rfl rfl rfl (o_assign rfl) ?_
            refine go_nil ?_
            refine g_ret ?_
            obtain rfl := some_eq hj1
            replace hm1 := on_ret hm1
            exact retK (ret_one' rfl (ret_tmp rfl) (perm_drop _)) (congrArg (fun (p : Bool) => (.bool p : D)) (some_eq hm1))
          · replace hj1 := cond_f hc2 hj1
            refine g_skip ?_
            refine g_region ?_
            obtain ⟨hg5, hj1⟩ := grd_some hj1
            refine go_p rfl rfl rfl (o_add rfl rfl (i64_id hg5)) ?_
            refine go_p rfl rfl rfl (o_move rfl) ?_
            refine go_nil ?_
            exact ⟨_, (), hj1, ⟨rfl, trivial⟩, ⟨rfl, rfl, rfl, rfl, trivial⟩, [_], rfl⟩
        ·
          skip
          refine g_draw 20 Try_mixed (by decide +kernel) ?_
          refine gd_p rfl rfl rfl (o_move rfl) ?_
          refine gd_p rfl rfl rfl (o_fieldAddr_box fi_145_0 rfl) ?_
          refine gd_p rfl rfl rfl (o_load_box 0 Try.isAgg9 rfl rfl rfl rfl) ?_
          refine gd_p rfl rfl rfl (o_callv0 rfl rfl (hfis1 _ _ hx2)) ?_
          refine gd_p rfl rfl rfl (o_not rfl) ?_
          refine gd_p rfl rfl rfl (o_move rfl) ?_
          refine gd_want rfl rfl rfl hg_1 rfl rfl (o_move rfl) ?_
          refine gd_want rfl rfl rfl hg_1 rfl rfl (o_cmp rfl rfl rfl) ?_
          refine gd_want rfl rfl rfl hg_1 rfl rfl (o_move rfl) ?_
          refine gd_skip rfl rfl rfl hg_2 rfl rfl ?_
          refine gd_skip rfl rfl rfl hg_2 rfl rfl ?_
          refine gd_skip rfl rfl rfl hg_2 rfl rfl ?_
          refine gd_skip rfl rfl rfl hg_2 rfl rfl ?_
          refine gd_skip rfl rfl rfl hg_2 rfl rfl ?_
          refine gd_skip rfl rfl rfl hg_2 rfl rfl ?_
          refine gd_skip rfl rfl rfl hg_2 rfl rfl ?_
          refine gd_skip rfl rfl rfl hg_2 rfl rfl ?_
          refine gd_skip rfl rfl rfl hg_2 rfl rfl ?_
          refine gd_want rfl rfl rfl hg_1 rfl rfl (o_pickF rfl hg_2 rfl) ?_
          refine gd_p rfl rfl rfl (o_pickF rfl hg_1 rfl) ?_
          refine gd_nil ?_
          refine go_nil ?_
          refine g_cond_false rfl rfl ?_
          refine g_skip ?_
          refine g_region ?_
          obtain ⟨hg6, hj1⟩ := grd_some hj1
          refine go_p rfl rfl rfl (o_add rfl rfl (i64_id hg6)) ?_
          refine go_p rfl rfl rfl (o_move rfl) ?_
          refine go_nil ?_
          exact ⟨_, (), hj1, ⟨rfl, trivial⟩, ⟨rfl, rfl, rfl, rfl, trivial⟩, [_], rfl⟩
    · replace hj1 := cond_f hc1 hj1
      refine g_exit ?_
      exact ⟨_, (), some_eq hj1, trivial, ⟨rfl, trivial⟩, [], rfl⟩
  · rintro _ _ hst
    subst hst
    replace hm1 := on_go hm1
    refine k_norm (L' := [(0, _)]) (ms' := []) rfl rfl ?_
    refine g_seq ?_
    refine g_region ?_
    refine go_p rfl rfl rfl (o_move rfl) ?_
    refine go_p rfl rfl rfl (o_len Try.runUnderlying87 rfl) ?_
    refine go_p rfl rfl rfl (o_cmp rfl rfl rfl) ?_
    refine go_p rfl rfl rfl (o_assign rfl) ?_
    refine go_nil ?_
    refine g_ret ?_
    exact retK (ret_one' rfl (ret_tmp rfl) (perm_drop _)) (congrArg (fun (p : Bool) => (.bool p : D)) (some_eq hm1))

def m_name_small (c1 : UInt8) : Option Bool :=
  some (((decide (97 ≤ (c1.toNat : Int))) && (decide ((c1.toNat : Int) ≤ 122))) || (decide ((c1.toNat : Int) = 95)))
theorem w_name_small {c1 : UInt8} {r : Bool} (hm : m_name_small c1 = some r) : Fn0 Try.prog 144 [.u8 c1] (.bool r) := by
  unfold m_name_small at hm
  refine fn_intro Try.func144 rfl Try.ntmps144 rfl fun H0 fr w0 => ?_
  refine g_seq ?_
  refine g_region ?_
  refine go_p rfl rfl rfl (o_assign rfl) ?_
  refine go_nil ?_
  refine g_seq ?_
  refine g_region ?_
  refine go_p rfl rfl rfl (o_move rfl) ?_
  refine go_p rfl rfl rfl (o_cmp rfl rfl rfl) ?_
  refine go_p rfl rfl rfl (o_move rfl) ?_
  apply go_and [(0, _)] 3 8 (t := 5) ⟨rfl, trivial⟩ rfl
  · intro hg_1 hk1
    refine go_wantp rfl rfl rfl hg_1 rfl rfl (o_move rfl) ?_
    refine go_wantp rfl rfl rfl hg_1 rfl rfl (o_cmp rfl rfl rfl) ?_
    refine go_p rfl rfl rfl (o_pickT rfl hg_1 rfl) ?_
    exact go_meet hk1 (rfl) ⟨rfl, trivial⟩
  · intro hg_1 hk1
    refine go_skip rfl rfl rfl hg_1 rfl rfl ?_
    refine go_skip rfl rfl rfl hg_1 rfl rfl ?_
    refine go_p rfl rfl rfl (o_pickF rfl hg_1 rfl) ?_
    exact go_meet hk1 (rfl) ⟨rfl, trivial⟩
  refine go_p rfl rfl rfl (o_move rfl) ?_
  apply go_or [] 3 12 (t := 9) trivial rfl
  · intro hg_2 hk2
    refine go_wantp rfl rfl rfl hg_2 rfl rfl (o_move rfl) ?_
    refine go_wantp rfl rfl rfl hg_2 rfl rfl (o_cmp rfl rfl rfl) ?_
    refine go_p rfl rfl rfl (o_pickF rfl hg_2 rfl) ?_
    exact go_meet hk2 (rfl) trivial
  · intro hg_2 hk2
    refine go_skip rfl rfl rfl hg_2 rfl rfl ?_
    refine go_skip rfl rfl rfl hg_2 rfl rfl ?_
    refine go_p rfl rfl rfl (o_pickT rfl hg_2 rfl) ?_
    exact go_meet hk2 (rfl) trivial
  refine go_p rfl rfl rfl (o_assign rfl) ?_
  refine go_nil ?_
  refine g_ret ?_
  exact retK (ret_one' rfl (ret_tmp rfl) (perm_drop _)) (congrArg (fun (p : Bool) => (.bool p : D)) (some_eq hm))

def m_name_great (c1 : UInt8) : Option Bool :=
  some ((decide (65 ≤ (c1.toNat : Int))) && (decide ((c1.toNat : Int) ≤ 90)))
theorem w_name_great {c1 : UInt8} {r : Bool} (hm : m_name_great c1 = some r) : Fn0 Try.prog 146 [.u8 c1] (.bool r) := by
  unfold m_name_great at hm
  refine fn_intro Try.func146 rfl Try.ntmps146 rfl fun H0 fr w0 => ?_
  refine g_seq ?_
  refine g_region ?_
  refine go_p rfl rfl rfl (o_assign rfl) ?_
  refine go_nil ?_
  refine g_seq ?_
  refine g_region ?_
  refine go_p rfl rfl rfl (o_move rfl) ?_
  refine go_p rfl rfl rfl (o_cmp rfl rfl rfl) ?_
  refine go_p rfl rfl rfl (o_move rfl) ?_
  apply go_and [] 3 8 (t := 5) trivial rfl
  · intro hg_1 hk1
    refine go_wantp rfl rfl rfl hg_1 rfl rfl (o_move rfl) ?_
    refine go_wantp rfl rfl rfl hg_1 rfl rfl (o_cmp rfl rfl rfl) ?_
    refine go_p rfl rfl rfl (o_pickT rfl hg_1 rfl) ?_
    exact go_meet hk1 (rfl) trivial
  · intro hg_1 hk1
    refine go_skip rfl rfl rfl hg_1 rfl rfl ?_
    refine go_skip rfl rfl rfl hg_1 rfl rfl ?_
    refine go_p rfl rfl rfl (o_pickF rfl hg_1 rfl) ?_
    exact go_meet hk1 (rfl) trivial
  refine go_p rfl rfl rfl (o_assign rfl) ?_
  refine go_nil ?_
  refine g_ret ?_
  exact retK (ret_one' rfl (ret_tmp rfl) (perm_drop _)) (congrArg (fun (p : Bool) => (.bool p : D)) (some_eq hm))

def m_name_more (c1 : UInt8) : Option Bool :=
  (m_name_small c1).bind fun x1 =>
  (bif x1 then (some true) else ((m_name_great c1).bind fun x2 =>
  some x2)).bind fun p1 =>
  some (p1 || ((decide (48 ≤ (c1.toNat : Int))) && (decide ((c1.toNat : Int) ≤ 57))))
theorem w_name_more {c1 : UInt8} {r : Bool} (hm : m_name_more c1 = some r) : Fn0 Try.prog 169 [.u8 c1] (.bool r) := by
  unfold m_name_more at hm
  refine fn_intro Try.func169 rfl Try.ntmps169 rfl fun H0 fr w0 => ?_
  refine g_seq ?_
  refine g_region ?_
  refine go_p rfl rfl rfl (o_assign rfl) ?_
  refine go_nil ?_
  refine g_seq ?_
  refine g_region ?_
  refine go_p rfl rfl rfl (o_move rfl) ?_
  obtain ⟨x1, hx1, hm⟩ := bind_some hm
  refine go_p rfl rfl rfl (o_call0 Try.call144 rfl (w_name_small hx1)) ?_
  refine go_p rfl rfl rfl (o_move rfl) ?_
  obtain ⟨p1, hp_1, hm⟩ := bind_some hm
  refine go_two [(0, _)] 3 8 p1 (t := 5) ⟨rfl, trivial⟩ rfl (fun hg_1 hk1 => ?_) (fun hg_1 hk1 => ?_) ?_
  · replace hp_1 := cond_t hg_1 hp_1
    refine go_skip rfl rfl rfl hg_1 rfl rfl ?_
    refine go_skip rfl rfl rfl hg_1 rfl rfl ?_
    refine go_p rfl rfl rfl (o_pickT rfl hg_1 rfl) ?_
    exact go_meet hk1 (congrArg (fun b => some (D.bool b)) (some_eq hp_1)) ⟨rfl, trivial⟩
  · replace hp_1 := cond_f hg_1 hp_1
    refine go_wantp rfl rfl rfl hg_1 rfl rfl (o_move rfl) ?_
    obtain ⟨x2, hx2, hp_1⟩ := bind_some hp_1
    refine go_wantp rfl rfl rfl hg_1 rfl rfl (o_call0 Try.call146 rfl (w_name_great hx2)) ?_
    refine go_p rfl rfl rfl (o_pickF rfl hg_1 rfl) ?_
    exact go_meet hk1 (congrArg (fun b => some (D.bool b)) (some_eq hp_1)) ⟨rfl, trivial⟩
  refine go_p rfl rfl rfl (o_move rfl) ?_
  apply go_or [] 7 16 (t := 9) trivial rfl
  · intro hg_2 hk2
    refine go_wantp rfl rfl rfl hg_2 rfl rfl (o_move rfl) ?_
    refine go_wantp rfl rfl rfl hg_2 rfl rfl (o_cmp rfl rfl rfl) ?_
    refine go_wantp rfl rfl rfl hg_2 rfl rfl (o_move rfl) ?_
    apply go_and [(9, _)] 3 15 (t := 12) ⟨rfl, trivial⟩ rfl
    · intro hg_3 hk3
      refine go_wantp rfl rfl rfl hg_3 rfl rfl (o_move rfl) ?_
      refine go_wantp rfl rfl rfl hg_3 rfl rfl (o_cmp rfl rfl rfl) ?_
      refine go_wantp rfl rfl rfl hg_2 rfl rfl (o_pickT rfl hg_3 rfl) ?_
      exact go_meet hk3 (rfl) ⟨rfl, trivial⟩
    · intro hg_3 hk3
      refine go_skip rfl rfl rfl hg_3 rfl rfl ?_
      refine go_skip rfl rfl rfl hg_3 rfl rfl ?_
      refine go_wantp rfl rfl rfl hg_2 rfl rfl (o_pickF rfl hg_3 rfl) ?_
      exact go_meet hk3 (rfl) ⟨rfl, trivial⟩
    refine go_p rfl rfl rfl (o_pickF rfl hg_2 rfl) ?_
    exact go_meet hk2 (rfl) trivial
  · intro hg_2 hk2
    refine go_skip rfl rfl rfl hg_2 rfl rfl ?_
    refine go_skip rfl rfl rfl hg_2 rfl rfl ?_
    refine go_skip rfl rfl rfl hg_2 rfl rfl ?_
    refine go_skipu rfl rfl rfl rfl rfl ?_
    refine go_skipu rfl rfl rfl rfl rfl ?_
    refine go_skip rfl rfl rfl hg_2 rfl rfl ?_
    refine go_p rfl rfl rfl (o_pickT rfl hg_2 rfl) ?_
    exact go_meet hk2 (rfl) trivial
  refine go_p rfl rfl rfl (o_assign rfl) ?_
  refine go_nil ?_
  refine g_ret ?_
  exact retK (ret_one' rfl (ret_tmp rfl) (perm_drop _)) (congrArg (fun (p : Bool) => (.bool p : D)) (some_eq hm))

def m_name_Word_l1 (s1 : (List UInt8)) : Nat → Int → Option Int
  | 0, _ => none
  | n + 1, n2 =>
    (bif (decide (n2 < (s1.length : Int))) then ((idx s1 n2).bind fun c3 =>
    (m_name_more c3).bind fun x3 =>
    some x3) else (some false)).bind fun p3 =>
    bif p3 then
      grd (InR (n2 + 1)) <|
      m_name_Word_l1 s1 n (n2 + 1)
    else
      some n2
def m_name_Word (s1 : (List UInt8)) : Option Int :=
  (bif (decide ((s1 : List UInt8) = ([] : List UInt8))) then (some true) else ((idx s1 0).bind fun c1 =>
  (m_name_small c1).bind fun x1 =>
  (bif (!x1) then ((idx s1 0).bind fun c2 =>
  (m_name_great c2).bind fun x2 =>
  some (!x2)) else (some false)).bind fun p2 =>
  some p2)).bind fun p1 =>
  bif p1 then
    some 0
  else
    (m_name_Word_l1 s1 FU 1 : Option Int).bind fun n1 =>
    some n1
theorem w_name_Word {s1 : (List UInt8)} {r : Int} (hm : m_name_Word s1 = some r) : Fn0 Try.prog 149 [.str s1] (.i64 r) := by
  unfold m_name_Word at hm
  refine fn_intro Try.func149 rfl Try.ntmps149 rfl fun H0 fr w0 => ?_
  refine g_seq ?_
  refine g_region ?_
  refine go_p rfl rfl rfl (o_assign rfl) ?_
  refine go_nil ?_
  refine g_seq ?_
  refine g_seq ?_
  refine g_region ?_
  refine go_p rfl rfl rfl (o_move rfl) ?_
  refine go_p rfl rfl rfl (o_cmps rfl rfl rfl) ?_
  refine go_p rfl rfl rfl (o_move rfl) ?_
  obtain ⟨p1, hp_1, hm⟩ := bind_some hm
  refine go_two [(0, _)] 11 17 p1 (t := 6) ⟨rfl, trivial⟩ rfl (fun hg_1 hk1 => ?_) (fun hg_1 hk1 => ?_) ?_
  · replace hp_1 := cond_t hg_1 hp_1
    refine go_skip rfl rfl rfl hg_1 rfl rfl ?_
    refine go_skip rfl rfl rfl hg_1 rfl rfl ?_
    refine go_skip rfl rfl rfl hg_1 rfl rfl ?_
    refine go_skip rfl rfl rfl hg_1 rfl rfl ?_
    refine go_skip rfl rfl rfl hg_1 rfl rfl ?_
    refine go_skipu rfl rfl rfl rfl rfl ?_
    refine go_skipu rfl rfl rfl rfl rfl ?_
    refine go_skipu rfl rfl rfl rfl rfl ?_
    refine go_skipu rfl rfl rfl rfl rfl ?_
    refine go_skip rfl rfl rfl hg_1 rfl rfl ?_
    refine go_p rfl rfl rfl (o_pickT rfl hg_1 rfl) ?_
    exact go_meet hk1 (congrArg (fun b => some (D.bool b)) (some_eq hp_1)) ⟨rfl, trivial⟩
  · replace hp_1 := cond_f hg_1 hp_1
    refine go_wantp rfl rfl rfl hg_1 rfl rfl (o_move rfl) ?_
    obtain ⟨c1, hx1, hp_1⟩ := bind_some hp_1
    refine go_wantp rfl rfl rfl hg_1 rfl rfl (o_index_m Try.runUnderlying9 rfl rfl hx1) ?_
    obtain ⟨x1, hx2, hp_1⟩ := bind_some hp_1
    refine go_wantp rfl rfl rfl hg_1 rfl rfl (o_call0 Try.call144 rfl (w_name_small hx2)) ?_
    refine go_wantp rfl rfl rfl hg_1 rfl rfl (o_not rfl) ?_
    refine go_wantp rfl rfl rfl hg_1 rfl rfl (o_move rfl) ?_
    obtain ⟨p2, hp_2, hp_1⟩ := bind_some hp_1
    refine go_two [(0, _), (6, _)] 5 16 p2 (t := 11) ⟨rfl, rfl, trivial⟩ rfl (fun hg_2 hk2 => ?_) (fun hg_2 hk2 => ?_) ?_
    · replace hp_2 := cond_t hg_2 hp_2
      refine go_wantp rfl rfl rfl hg_2 rfl rfl (o_move rfl) ?_
      obtain ⟨c2, hx3, hp_2⟩ := bind_some hp_2
      refine go_wantp rfl rfl rfl hg_2 rfl rfl (o_index_m Try.runUnderlying9 rfl rfl hx3) ?_
      obtain ⟨x2, hx4, hp_2⟩ := bind_some hp_2
      refine go_wantp rfl rfl rfl hg_2 rfl rfl (o_call0 Try.call146 rfl (w_name_great hx4)) ?_
      refine go_wantp rfl rfl rfl hg_2 rfl rfl (o_not rfl) ?_
      refine go_wantp rfl rfl rfl hg_1 rfl rfl (o_pickT rfl hg_2 rfl) ?_
      exact go_meet hk2 (congrArg (fun b => some (D.bool b)) (some_eq hp_2)) ⟨rfl, rfl, trivial⟩
    · replace hp_2 := cond_f hg_2 hp_2
      refine go_skip rfl rfl rfl hg_2 rfl rfl ?_
      refine go_skip rfl rfl rfl hg_2 rfl rfl ?_
      refine go_skip rfl rfl rfl hg_2 rfl rfl ?_
      refine go_skip rfl rfl rfl hg_2 rfl rfl ?_
      refine go_wantp rfl rfl rfl hg_1 rfl rfl (o_pickF rfl hg_2 rfl) ?_
      exact go_meet hk2 (congrArg (fun b => some (D.bool b)) (some_eq hp_2)) ⟨rfl, rfl, trivial⟩
    refine go_p rfl rfl rfl (o_pickF rfl hg_1 rfl) ?_
    exact go_meet hk1 (congrArg (fun b => some (D.bool b)) (some_eq hp_1)) ⟨rfl, trivial⟩
  refine go_nil ?_
  refine g_cond rfl (fun hc1 => ?_) (fun hc1 => ?_)
  · replace hm := cond_t hc1 hm
    refine g_seq ?_
    refine g_region ?_
    refine go_p rfl rfl rfl (o_assign rfl) ?_
    refine go_nil ?_
    refine g_ret ?_
    exact retK (ret_one' rfl (ret_tmp rfl) (perm_drop _)) (congrArg (fun (p : Int) => (.i64 p : D)) (some_eq hm))
  · replace hm := cond_f hc1 hm
    refine g_skip ?_
    refine g_seq ?_
    refine g_region ?_
    refine go_p rfl rfl rfl (o_assign rfl) ?_
    refine go_nil ?_
    refine g_seq ?_
    obtain ⟨o_1, hj1, hm1⟩ := bind_some hm
    refine g_cut_m [] [] (fun (st : Int) (hid : Unit) => match st, hid with | n1, _ => [(3, .i64 n1)]) (fun F (st : Int) (hid : Unit) => match st, hid with | n1, _ => []) (fun st => st = o_1) trivial trivial ?_ ?_
    · skip
      refine g_block ?_
      refine g_loop_m [(0, _)] [] (fun (st : Int) (hid : Unit) => match st, hid with | n2, _ => [(3, .i64 n2)]) (fun F (st : Int) (hid : Unit) => match st, hid with | n2, _ => []) () hj1 (fun _ => rfl) ⟨rfl, trivial⟩ trivial ⟨rfl, trivial⟩ rfl ?_
      rintro n n2 _ hj1
      rw [m_name_Word_l1] at hj1
      refine g_norm (L' := [(3, .i64 n2), (0, _)]) (ms' := []) rfl rfl ?_
      refine g_seq ?_
      refine g_seq ?_
      refine g_region ?_
      refine go_p rfl rfl rfl (o_move rfl) ?_
      refine go_p rfl rfl rfl (o_move rfl) ?_
      refine go_p rfl rfl rfl (o_len_str Try.runUnderlying9 rfl) ?_
      refine go_p rfl rfl rfl (o_cmp rfl rfl rfl) ?_
      refine go_p rfl rfl rfl (o_move rfl) ?_
      obtain ⟨p3, hp_3, hj1⟩ := bind_some hj1
      refine go_two [(0, _), (3, _)] 5 27 p3 (t := 22) ⟨rfl, rfl, trivial⟩ rfl (fun hg_3 hk3 => ?_) (fun hg_3 hk3 => ?_) ?_
      · replace hp_3 := cond_t hg_3 hp_3
        refine go_wantp rfl rfl rfl hg_3 rfl rfl (o_move rfl) ?_
        refine go_wantp rfl rfl rfl hg_3 rfl rfl (o_move rfl) ?_
        obtain ⟨c3, hx5, hp_3⟩ := bind_some hp_3
        refine go_wantp rfl rfl rfl hg_3 rfl rfl (o_index_m Try.runUnderlying9 rfl rfl hx5) ?_
        obtain ⟨x3, hx6, hp_3⟩ := bind_some hp_3
        refine go_wantp rfl rfl rfl hg_3 rfl rfl (o_call0 Try.call169 rfl (w_name_more hx6)) ?_
        refine go_p rfl rfl rfl (o_pickT rfl hg_3 rfl) ?_
        exact go_meet hk3 (congrArg (fun b => some (D.bool b)) (some_eq hp_3)) ⟨rfl, rfl, trivial⟩
      · replace hp_3 := cond_f hg_3 hp_3
        refine go_skip rfl rfl rfl hg_3 rfl rfl ?_
        refine go_skip rfl rfl rfl hg_3 rfl rfl ?_
        refine go_skip rfl rfl rfl hg_3 rfl rfl ?_
        refine go_skip rfl rfl rfl hg_3 rfl rfl ?_
        refine go_p rfl rfl rfl (o_pickF rfl hg_3 rfl) ?_
        exact go_meet hk3 (congrArg (fun b => some (D.bool b)) (some_eq hp_3)) ⟨rfl, rfl, trivial⟩
      refine go_nil ?_
      refine g_cond rfl (fun hc2 => ?_) (fun hc2 => ?_)
      · replace hj1 := cond_t hc2 hj1
        refine g_skip ?_
        refine g_block ?_
        refine g_region ?_
        refine go_p rfl rfl rfl (o_move rfl) ?_
        obtain ⟨hg7, hj1⟩ := grd_some hj1
        refine go_p rfl rfl rfl (o_add rfl rfl (i64_id hg7)) ?_
        refine go_p rfl rfl rfl (o_assign rfl) ?_
        refine go_nil ?_
        exact ⟨_, (), hj1, ⟨rfl, trivial⟩, ⟨rfl, trivial⟩, [], rfl⟩
      · replace hj1 := cond_f hc2 hj1
        refine g_exit ?_
        exact ⟨_, (), some_eq hj1, ⟨rfl, trivial⟩, trivial, [], rfl⟩
    · rintro n1 _ hst
      subst hst
      refine k_norm (L' := [(3, .i64 n1)]) (ms' := []) rfl rfl ?_
      refine g_seq ?_
      refine g_region ?_
      refine go_p rfl rfl rfl (o_move rfl) ?_
      refine go_p rfl rfl rfl (o_assign rfl) ?_
      refine go_nil ?_
      refine g_ret ?_
      exact retK (ret_one' rfl (ret_tmp rfl) (perm_drop _)) (congrArg (fun (p : Int) => (.i64 p : D)) (some_eq hm1))

def m_name_whole (s1 : (List UInt8)) : Option Bool :=
  (bif ((!decide ((s1 : List UInt8) = ([] : List UInt8))) && (decide ((s1.length : Int) ≤ 20))) then ((m_name_Word s1).bind fun x1 =>
  some (decide (x1 = (s1.length : Int)))) else (some false)).bind fun p1 =>
  some p1
theorem w_name_whole {s1 : (List UInt8)} {r : Bool} (hm : m_name_whole s1 = some r) : Fn0 Try.prog 143 [.str s1] (.bool r) := by
  unfold m_name_whole at hm
  refine fn_intro Try.func143 rfl Try.ntmps143 rfl fun H0 fr w0 => ?_
  refine g_seq ?_
  refine g_region ?_
  refine go_p rfl rfl rfl (o_assign rfl) ?_
  refine go_nil ?_
  refine g_seq ?_
  refine g_region ?_
  refine go_p rfl rfl rfl (o_move rfl) ?_
  refine go_p rfl rfl rfl (o_cmps rfl rfl rfl) ?_
  refine go_p rfl rfl rfl (o_move rfl) ?_
  apply go_and [(0, _)] 4 9 (t := 5) ⟨rfl, trivial⟩ rfl
  · intro hg_1 hk1
    refine go_wantp rfl rfl rfl hg_1 rfl rfl (o_move rfl) ?_
    refine go_wantp rfl rfl rfl hg_1 rfl rfl (o_len_str Try.runUnderlying9 rfl) ?_
    refine go_wantp rfl rfl rfl hg_1 rfl rfl (o_cmp rfl rfl rfl) ?_
    refine go_p rfl rfl rfl (o_pickT rfl hg_1 rfl) ?_
    exact go_meet hk1 (rfl) ⟨rfl, trivial⟩
  · intro hg_1 hk1
    refine go_skip rfl rfl rfl hg_1 rfl rfl ?_
    refine go_skip rfl rfl rfl hg_1 rfl rfl ?_
    refine go_skip rfl rfl rfl hg_1 rfl rfl ?_
    refine go_p rfl rfl rfl (o_pickF rfl hg_1 rfl) ?_
    exact go_meet hk1 (rfl) ⟨rfl, trivial⟩
  refine go_p rfl rfl rfl (o_move rfl) ?_
  obtain ⟨p1, hp_2, hm⟩ := bind_some hm
  refine go_two [] 6 16 p1 (t := 10) trivial rfl (fun hg_2 hk2 => ?_) (fun hg_2 hk2 => ?_) ?_
  · replace hp_2 := cond_t hg_2 hp_2
    refine go_wantp rfl rfl rfl hg_2 rfl rfl (o_move rfl) ?_
    obtain ⟨x1, hx1, hp_2⟩ := bind_some hp_2
    refine go_wantp rfl rfl rfl hg_2 rfl rfl (o_call0 Try.call149 rfl (w_name_Word hx1)) ?_
    refine go_wantp rfl rfl rfl hg_2 rfl rfl (o_move rfl) ?_
    refine go_wantp rfl rfl rfl hg_2 rfl rfl (o_len_str Try.runUnderlying9 rfl) ?_
    refine go_wantp rfl rfl rfl hg_2 rfl rfl (o_cmp rfl rfl rfl) ?_
    refine go_p rfl rfl rfl (o_pickT rfl hg_2 rfl) ?_
    exact go_meet hk2 (congrArg (fun b => some (D.bool b)) (some_eq hp_2)) trivial
  · replace hp_2 := cond_f hg_2 hp_2
    refine go_skip rfl rfl rfl hg_2 rfl rfl ?_
    refine go_skip rfl rfl rfl hg_2 rfl rfl ?_
    refine go_skip rfl rfl rfl hg_2 rfl rfl ?_
    refine go_skip rfl rfl rfl hg_2 rfl rfl ?_
    refine go_skip rfl rfl rfl hg_2 rfl rfl ?_
    refine go_p rfl rfl rfl (o_pickF rfl hg_2 rfl) ?_
    exact go_meet hk2 (congrArg (fun b => some (D.bool b)) (some_eq hp_2)) trivial
  refine go_p rfl rfl rfl (o_assign rfl) ?_
  refine go_nil ?_
  refine g_ret ?_
  exact retK (ret_one' rfl (ret_tmp rfl) (perm_drop _)) (congrArg (fun (p : Bool) => (.bool p : D)) (some_eq hm))

def m_slices_Index_string_string_l1 (s1 : (List (List UInt8))) (v1 : (List UInt8)) : Nat → Int → Option (Out Int Unit)
  | 0, _ => none
  | n + 1, x1 =>
    bif (decide (x1 < (s1.length : Int))) then
      (idx s1 x1).bind fun x2 =>
      bif (decide ((v1 : List UInt8) = x2)) then
        some (Out.ret x1)
      else
        grd (InR (x1 + 1)) <|
        m_slices_Index_string_string_l1 s1 v1 n (x1 + 1)
    else
      some (Out.go (()))
def m_slices_Index_string_string (s1 : (List (List UInt8))) (v1 : (List UInt8)) : Option Int :=
  ((m_slices_Index_string_string_l1 s1 v1 FU 0 : Option (Out Int Unit))).bind (fun oo => oo.on (fun r1 => some r1) (fun _ =>
  some (-1)))
theorem w_slices_Index_string_string {s1 : (List (List UInt8))} {v1 : (List UInt8)} {r : Int} (hm : m_slices_Index_string_string s1 v1 = some r) : Fn0 Try.prog 175 [.list 1 D.str s1, .str v1] (.i64 r) := by
  unfold m_slices_Index_string_string at hm
  refine fn_intro Try.func175 rfl Try.ntmps175 rfl fun H0 fr w0 => ?_
  refine g_seq ?_
  refine g_region ?_
  refine go_p rfl rfl rfl (o_assign rfl) ?_
  refine go_nil ?_
  refine g_seq ?_
  refine g_seq ?_
  refine g_region ?_
  refine go_p rfl rfl rfl (o_move rfl) ?_
  refine go_p rfl rfl rfl (o_len Try.runUnderlying23 rfl) ?_
  refine go_p rfl rfl rfl (o_move rfl) ?_
  refine go_nil ?_
  obtain ⟨o_1, hj1, hm1⟩ := bind_some hm
  refine g_cut_m [] [] (fun (st : Unit) (hid : Unit) => match st, hid with | _, _ => []) (fun F (st : Unit) (hid : Unit) => match st, hid with | _, _ => []) (fun st => Out.go (st) = o_1) trivial trivial ?_ ?_
  · skip
    refine g_block ?_
    refine g_loop_m [(0, _), (1, _), (7, _)] [] (fun (st : Int) (hid : Unit) => match st, hid with | x1, _ => [(8, .i64 x1)]) (fun F (st : Int) (hid : Unit) => match st, hid with | x1, _ => []) () hj1 (fun _ => rfl) ⟨rfl, rfl, rfl, trivial⟩ trivial ⟨rfl, trivial⟩ rfl ?_
    rintro n x1 _ hj1
    rw [m_slices_Index_string_string_l1] at hj1
    refine g_norm (L' := [(8, .i64 x1), (0, _), (1, _), (7, _)]) (ms' := []) rfl rfl ?_
    refine g_seq ?_
    refine g_region ?_
    refine go_p rfl rfl rfl (o_cmp rfl rfl rfl) ?_
    refine go_nil ?_
    refine g_seq ?_
    refine g_cond rfl (fun hc1 => ?_) (fun hc1 => ?_)
    · replace hj1 := cond_t hc1 hj1
      refine g_skip ?_
      refine g_seq ?_
      refine g_block ?_
      refine g_seq ?_
      refine g_region ?_
      refine go_p rfl rfl rfl (o_move rfl) ?_
      refine go_p rfl rfl rfl (o_assign rfl) ?_
      refine go_nil ?_
      refine g_seq ?_
      refine g_region ?_
      refine go_p rfl rfl rfl (o_move rfl) ?_
      refine go_p rfl rfl rfl (o_move rfl) ?_
      refine go_p rfl rfl rfl (o_move rfl) ?_
      obtain ⟨x2, hx1, hj1⟩ := bind_some hj1
      refine go_p rfl rfl rfl (o_indexAddr_m Try.runUnderlying23 Try.sizeOf9 rfl rfl hx1) ?_
      refine go_p rfl rfl rfl (o_load Try.isAgg9 rfl rfl) ?_
      refine go_p rfl rfl rfl (o_cmps rfl rfl rfl) ?_
      refine go_nil ?_
      refine g_cond rfl (fun hc2 => ?_) (fun hc2 => ?_)
      · replace hj1 := cond_t hc2 hj1
        refine g_seq ?_
        refine g_region ?_
        refine go_p rfl rfl rfl (o_move rfl) ?_
        refine go_p rfl rfl rfl (o_assign rfl) ?_
        refine go_nil ?_
        refine g_ret ?_
        obtain rfl := some_eq hj1
        replace hm1 := on_ret hm1
        exact retK (ret_one' rfl (ret_tmp rfl) (perm_drop _)) (congrArg (fun (p : Int) => (.i64 p : D)) (some_eq hm1))
      · replace hj1 := cond_f hc2 hj1
        refine g_skip ?_
        refine g_region ?_
        obtain ⟨hg2, hj1⟩ := grd_some hj1
        refine go_p rfl rfl rfl (o_add rfl rfl (i64_id hg2)) ?_
        refine go_p rfl rfl rfl (o_move rfl) ?_
        refine go_nil ?_
        exact ⟨_, (), hj1, ⟨rfl, trivial⟩, ⟨rfl, rfl, rfl, trivial⟩, [], rfl⟩
    · replace hj1 := cond_f hc1 hj1
      refine g_exit ?_
      exact ⟨_, (), some_eq hj1, trivial, trivial, [], rfl⟩
  · rintro _ _ hst
    subst hst
    replace hm1 := on_go hm1
    refine k_norm (L' := []) (ms' := []) rfl rfl ?_
    refine g_seq ?_
    refine g_region ?_
    refine go_p rfl rfl rfl (o_assign rfl) ?_
    refine go_nil ?_
    refine g_ret ?_
    exact retK (ret_one' rfl (ret_tmp rfl) (perm_drop _)) (congrArg (fun (p : Int) => (.i64 p : D)) (some_eq hm1))

def m_slices_Contains_string_string (s1 : (List (List UInt8))) (v1 : (List UInt8)) : Option Bool :=
  (m_slices_Index_string_string s1 v1).bind fun x1 =>
  some (decide (0 ≤ x1))
theorem w_slices_Contains_string_string {s1 : (List (List UInt8))} {v1 : (List UInt8)} {r : Bool} (hm : m_slices_Contains_string_string s1 v1 = some r) : Fn0 Try.prog 167 [.list 1 D.str s1, .str v1] (.bool r) := by
  unfold m_slices_Contains_string_string at hm
  refine fn_intro Try.func167 rfl Try.ntmps167 rfl fun H0 fr w0 => ?_
  refine g_seq ?_
  refine g_region ?_
  refine go_p rfl rfl rfl (o_assign rfl) ?_
  refine go_nil ?_
  refine g_seq ?_
  refine g_region ?_
  refine go_p rfl rfl rfl (o_move rfl) ?_
  refine go_p rfl rfl rfl (o_move rfl) ?_
  obtain ⟨x1, hx1, hm⟩ := bind_some hm
  refine go_p rfl rfl rfl (o_call0 Try.call175 rfl (w_slices_Index_string_string hx1)) ?_
  refine go_p rfl rfl rfl (o_cmp rfl rfl rfl) ?_
  refine go_p rfl rfl rfl (o_assign rfl) ?_
  refine go_nil ?_
  refine g_ret ?_
  exact retK (ret_one' rfl (ret_tmp rfl) (perm_drop _)) (congrArg (fun (p : Bool) => (.bool p : D)) (some_eq hm))

def m_name_Keywords  : Option (List (List UInt8)) :=
  some [([102, 117, 110] : List UInt8), ([108, 101, 116] : List UInt8), ([114, 101, 99] : List UInt8), ([105, 110] : List UInt8), ([105, 102] : List UInt8), ([116, 104, 101, 110] : List UInt8), ([101, 108, 115, 101] : List UInt8), ([99, 97, 115, 101] : List UInt8), ([111, 102] : List UInt8), ([101, 110, 100] : List UInt8), ([116, 114, 117, 101] : List UInt8), ([102, 97, 108, 115, 101] : List UInt8), ([99, 104, 101, 99, 107] : List UInt8), ([97, 115, 107] : List UInt8), ([116, 111, 112] : List UInt8), ([98, 111, 116] : List UInt8), ([105, 110, 116] : List UInt8), ([98, 111, 111, 108] : List UInt8), ([115, 116, 114, 105, 110, 103] : List UInt8), ([109, 117] : List UInt8)]
theorem w_name_Keywords  {r : (List (List UInt8))} (hm : m_name_Keywords = some r) : Fn0 Try.prog 168 [] (.list 1 D.str r) := by
  unfold m_name_Keywords at hm
  refine fn_intro Try.func168 rfl Try.ntmps168 rfl fun H0 fr w0 => ?_
  refine g_seq ?_
  refine g_region ?_
  refine go_p rfl rfl rfl (o_assign rfl) ?_
  refine go_conv (nilE (i := 0) (sz := 1) (f := D.str) rfl).refines ?_
  refine go_nil ?_
  refine g_seq ?_
  refine g_region ?_
  refine go_p rfl rfl rfl (o_buildSlice (xs := [_, _, _, _, _, _, _, _, _, _, _, _, _, _, _, _, _, _, _, _]) (f := D.str) (l := [_, _, _, _, _, _, _, _, _, _, _, _, _, _, _, _, _, _, _, _]) Try.runUnderlying23 Try.sizeOf9 Try.zeroValue9 rfl rfl rfl (fun _ => ⟨rfl, rfl, rfl⟩) rfl) ?_
  refine go_p rfl rfl rfl (o_assign rfl) ?_
  refine go_nil ?_
  refine g_ret ?_
  exact retK (ret_one' rfl (ret_tmp rfl) (perm_drop _)) (congrArg (fun (p : (List (List UInt8))) => (.list 1 D.str p : D)) (some_eq hm))

def m_name_Keyword (s1 : (List UInt8)) : Option Bool :=
  (m_name_Keywords).bind fun x1 =>
  (m_slices_Contains_string_string x1 s1).bind fun x2 =>
  some x2
theorem w_name_Keyword {s1 : (List UInt8)} {r : Bool} (hm : m_name_Keyword s1 = some r) : Fn0 Try.prog 145 [.str s1] (.bool r) := by
  unfold m_name_Keyword at hm
  refine fn_intro Try.func145 rfl Try.ntmps145 rfl fun H0 fr w0 => ?_
  refine g_seq ?_
  refine g_region ?_
  refine go_p rfl rfl rfl (o_assign rfl) ?_
  refine go_nil ?_
  refine g_seq ?_
  refine g_region ?_
  obtain ⟨x1, hx1, hm⟩ := bind_some hm
  refine go_p rfl rfl rfl (o_call0 Try.call168 rfl (w_name_Keywords hx1)) ?_
  refine go_p rfl rfl rfl (o_move rfl) ?_
  obtain ⟨x2, hx2, hm⟩ := bind_some hm
  refine go_p rfl rfl rfl (o_call0 Try.call167 rfl (w_slices_Contains_string_string hx2)) ?_
  refine go_p rfl rfl rfl (o_assign rfl) ?_
  refine go_nil ?_
  refine g_ret ?_
  exact retK (ret_one' rfl (ret_tmp rfl) (perm_drop _)) (congrArg (fun (p : Bool) => (.bool p : D)) (some_eq hm))

def m_name_Name (s1 : (List UInt8)) : Option Bool :=
  (m_name_whole s1).bind fun x1 =>
  (bif x1 then ((idx s1 0).bind fun c1 =>
  (m_name_small c1).bind fun x2 =>
  some x2) else (some false)).bind fun p1 =>
  (bif p1 then ((m_name_Keyword s1).bind fun x3 =>
  some (!x3)) else (some false)).bind fun p2 =>
  some p2
theorem w_name_Name {s1 : (List UInt8)} {r : Bool} (hm : m_name_Name s1 = some r) : Fn0 Try.prog 113 [.str s1] (.bool r) := by
  unfold m_name_Name at hm
  refine fn_intro Try.func113 rfl Try.ntmps113 rfl fun H0 fr w0 => ?_
  refine g_seq ?_
  refine g_region ?_
  refine go_p rfl rfl rfl (o_assign rfl) ?_
  refine go_nil ?_
  refine g_seq ?_
  refine g_region ?_
  refine go_p rfl rfl rfl (o_move rfl) ?_
  obtain ⟨x1, hx1, hm⟩ := bind_some hm
  refine go_p rfl rfl rfl (o_call0 Try.call143 rfl (w_name_whole hx1)) ?_
  refine go_p rfl rfl rfl (o_move rfl) ?_
  obtain ⟨p1, hp_1, hm⟩ := bind_some hm
  refine go_two [(0, _)] 4 9 p1 (t := 5) ⟨rfl, trivial⟩ rfl (fun hg_1 hk1 => ?_) (fun hg_1 hk1 => ?_) ?_
  · replace hp_1 := cond_t hg_1 hp_1
    refine go_wantp rfl rfl rfl hg_1 rfl rfl (o_move rfl) ?_
    obtain ⟨c1, hx2, hp_1⟩ := bind_some hp_1
    refine go_wantp rfl rfl rfl hg_1 rfl rfl (o_index_m Try.runUnderlying9 rfl rfl hx2) ?_
    obtain ⟨x2, hx3, hp_1⟩ := bind_some hp_1
    refine go_wantp rfl rfl rfl hg_1 rfl rfl (o_call0 Try.call144 rfl (w_name_small hx3)) ?_
    refine go_p rfl rfl rfl (o_pickT rfl hg_1 rfl) ?_
    exact go_meet hk1 (congrArg (fun b => some (D.bool b)) (some_eq hp_1)) ⟨rfl, trivial⟩
  · replace hp_1 := cond_f hg_1 hp_1
    refine go_skip rfl rfl rfl hg_1 rfl rfl ?_
    refine go_skip rfl rfl rfl hg_1 rfl rfl ?_
    refine go_skip rfl rfl rfl hg_1 rfl rfl ?_
    refine go_p rfl rfl rfl (o_pickF rfl hg_1 rfl) ?_
    exact go_meet hk1 (congrArg (fun b => some (D.bool b)) (some_eq hp_1)) ⟨rfl, trivial⟩
  refine go_p rfl rfl rfl (o_move rfl) ?_
  obtain ⟨p2, hp_2, hm⟩ := bind_some hm
  refine go_two [] 4 14 p2 (t := 10) trivial rfl (fun hg_2 hk2 => ?_) (fun hg_2 hk2 => ?_) ?_
  · replace hp_2 := cond_t hg_2 hp_2
    refine go_wantp rfl rfl rfl hg_2 rfl rfl (o_move rfl) ?_
    obtain ⟨x3, hx4, hp_2⟩ := bind_some hp_2
    refine go_wantp rfl rfl rfl hg_2 rfl rfl (o_call0 Try.call145 rfl (w_name_Keyword hx4)) ?_
    refine go_wantp rfl rfl rfl hg_2 rfl rfl (o_not rfl) ?_
    refine go_p rfl rfl rfl (o_pickT rfl hg_2 rfl) ?_
    exact go_meet hk2 (congrArg (fun b => some (D.bool b)) (some_eq hp_2)) trivial
  · replace hp_2 := cond_f hg_2 hp_2
    refine go_skip rfl rfl rfl hg_2 rfl rfl ?_
    refine go_skip rfl rfl rfl hg_2 rfl rfl ?_
    refine go_skip rfl rfl rfl hg_2 rfl rfl ?_
    refine go_p rfl rfl rfl (o_pickF rfl hg_2 rfl) ?_
    exact go_meet hk2 (congrArg (fun b => some (D.bool b)) (some_eq hp_2)) trivial
  refine go_p rfl rfl rfl (o_assign rfl) ?_
  refine go_nil ?_
  refine g_ret ?_
  exact retK (ret_one' rfl (ret_tmp rfl) (perm_drop _)) (congrArg (fun (p : Bool) => (.bool p : D)) (some_eq hm))

def m_name_Tag (s1 : (List UInt8)) : Option Bool :=
  (m_name_whole s1).bind fun x1 =>
  (bif x1 then ((idx s1 0).bind fun c1 =>
  (m_name_great c1).bind fun x2 =>
  some x2) else (some false)).bind fun p1 =>
  some p1
theorem w_name_Tag {s1 : (List UInt8)} {r : Bool} (hm : m_name_Tag s1 = some r) : Fn0 Try.prog 114 [.str s1] (.bool r) := by
  unfold m_name_Tag at hm
  refine fn_intro Try.func114 rfl Try.ntmps114 rfl fun H0 fr w0 => ?_
  refine g_seq ?_
  refine g_region ?_
  refine go_p rfl rfl rfl (o_assign rfl) ?_
  refine go_nil ?_
  refine g_seq ?_
  refine g_region ?_
  refine go_p rfl rfl rfl (o_move rfl) ?_
  obtain ⟨x1, hx1, hm⟩ := bind_some hm
  refine go_p rfl rfl rfl (o_call0 Try.call143 rfl (w_name_whole hx1)) ?_
  refine go_p rfl rfl rfl (o_move rfl) ?_
  obtain ⟨p1, hp_1, hm⟩ := bind_some hm
  refine go_two [] 4 9 p1 (t := 5) trivial rfl (fun hg_1 hk1 => ?_) (fun hg_1 hk1 => ?_) ?_
  · replace hp_1 := cond_t hg_1 hp_1
    refine go_wantp rfl rfl rfl hg_1 rfl rfl (o_move rfl) ?_
    obtain ⟨c1, hx2, hp_1⟩ := bind_some hp_1
    refine go_wantp rfl rfl rfl hg_1 rfl rfl (o_index_m Try.runUnderlying9 rfl rfl hx2) ?_
    obtain ⟨x2, hx3, hp_1⟩ := bind_some hp_1
    refine go_wantp rfl rfl rfl hg_1 rfl rfl (o_call0 Try.call146 rfl (w_name_great hx3)) ?_
    refine go_p rfl rfl rfl (o_pickT rfl hg_1 rfl) ?_
    exact go_meet hk1 (congrArg (fun b => some (D.bool b)) (some_eq hp_1)) trivial
  · replace hp_1 := cond_f hg_1 hp_1
    refine go_skip rfl rfl rfl hg_1 rfl rfl ?_
    refine go_skip rfl rfl rfl hg_1 rfl rfl ?_
    refine go_skip rfl rfl rfl hg_1 rfl rfl ?_
    refine go_p rfl rfl rfl (o_pickF rfl hg_1 rfl) ?_
    exact go_meet hk1 (congrArg (fun b => some (D.bool b)) (some_eq hp_1)) trivial
  refine go_p rfl rfl rfl (o_assign rfl) ?_
  refine go_nil ?_
  refine g_ret ?_
  exact retK (ret_one' rfl (ret_tmp rfl) (perm_drop _)) (congrArg (fun (p : Bool) => (.bool p : D)) (some_eq hm))

def m_auto_Auto_right_1 (k1 : Int) (c1 : AutoAuto) (c2 : AutoState) : Option Bool :=
  (m_auto_Auto_on c1 k1 c2.plus).bind fun x1 =>
  some (!x1)
theorem w_auto_Auto_right_1 {k1 : Int} {c1 : AutoAuto} {c2 : AutoState} {r : Bool} (hm : m_auto_Auto_right_1 k1 c1 c2 = some r) : Fn0 Try.prog 115 [.i64 k1, .ref (AutoAuto.d c1), .ref (AutoState.d c2)] (.bool r) := by
  unfold m_auto_Auto_right_1 at hm
  refine fn_intro Try.func115 rfl Try.ntmps115 rfl fun H0 fr w0 => ?_
  refine g_seq ?_
  refine g_region ?_
  refine go_p rfl rfl rfl (o_assign rfl) ?_
  refine go_nil ?_
  refine g_seq ?_
  refine g_region ?_
  refine go_p rfl rfl rfl (o_load_agg Try.isAgg81 Try.sizeOf81 rfl rfl) ?_
  refine go_p rfl rfl rfl (o_move rfl) ?_
  refine go_p rfl rfl rfl (o_fieldAddr fi_89_0 rfl rfl rfl) ?_
  refine go_p rfl rfl rfl (o_load Try.isAgg4 rfl rfl) ?_
  obtain ⟨x1, hx1, hm⟩ := bind_some hm
  refine go_p rfl rfl rfl (o_call0 Try.call79 rfl (w_auto_Auto_on hx1)) ?_
  refine go_p rfl rfl rfl (o_not rfl) ?_
  refine go_p rfl rfl rfl (o_assign rfl) ?_
  refine go_nil ?_
  refine g_ret ?_
  exact retK (ret_one' rfl (ret_tmp rfl) (perm_drop _)) (congrArg (fun (p : Bool) => (.bool p : D)) (some_eq hm))

def m_auto_Auto_right (a1 : AutoAuto) (s1 : AutoState) : Option Bool :=
  (m_auto_bare s1).bind fun x1 =>
  (bif (!x1) then (some true) else ((m_auto_numbered s1.vars).bind fun x2 =>
  some (!x2))).bind fun p1 =>
  (bif p1 then (some true) else ((m_auto_named s1.fields (fun y0 => m_name_Name y0)).bind fun x3 =>
  some (!x3))).bind fun p2 =>
  (bif p2 then (some true) else ((m_auto_named s1.tags (fun y0 => m_name_Tag y0)).bind fun x4 =>
  some (!x4))).bind fun p3 =>
  bif p3 then
    some false
  else
    (bif s1.arrow then ((m_auto_Auto_on a1 s1.dom (!s1.plus)).bind fun x5 =>
    (bif (!x5) then (some true) else ((m_auto_Auto_on a1 s1.cod s1.plus).bind fun x6 =>
    some (!x6))).bind fun p5 =>
    some p5) else (some false)).bind fun p4 =>
    bif p4 then
      some false
    else
      (m_auto_tos s1.fields).bind fun x7 =>
      (m_auto_tos s1.tags).bind fun x8 =>
      (m_slices_Concat_int_int [x7, x8]).bind fun x9 =>
      (m_slices_ContainsFunc_int_int x9 (fun y0 => m_auto_Auto_right_1 y0 a1 s1)).bind fun x10 =>
      some (!x10)
theorem w_auto_Auto_right {a1 : AutoAuto} {s1 : AutoState} {r : Bool} (hm : m_auto_Auto_right a1 s1 = some r) : Fn0 Try.prog 82 [AutoAuto.d a1, AutoState.d s1] (.bool r) := by
  unfold m_auto_Auto_right at hm
  refine fn_intro Try.func82 rfl Try.ntmps82 rfl fun H0 fr w0 => ?_
  refine g_seq ?_
  refine g_region ?_
  refine go_p rfl rfl rfl (o_box rfl rfl) ?_
  refine go_p rfl rfl rfl (o_box rfl rfl) ?_
  refine go_p rfl rfl rfl (o_assign rfl) ?_
  refine go_nil ?_
  refine g_seq ?_
  refine g_seq ?_
  refine g_region ?_
  refine go_p rfl rfl rfl (o_load_agg Try.isAgg89 Try.sizeOf89 rfl rfl) ?_
  obtain ⟨x1, hx1, hm⟩ := bind_some hm
  refine go_p rfl rfl rfl (o_call0 Try.call110 rfl (w_auto_bare hx1)) ?_
  refine go_p rfl rfl rfl (o_not rfl) ?_
  refine go_p rfl rfl rfl (o_move rfl) ?_
  obtain ⟨p1, hp_1, hm⟩ := bind_some hm
  refine go_two [(2, _), (3, _)] 5 13 p1 (t := 8) ⟨rfl, rfl, trivial⟩ rfl (fun hg_1 hk1 => ?_) (fun hg_1 hk1 => ?_) ?_
  · replace hp_1 := cond_t hg_1 hp_1
    refine go_skip rfl rfl rfl hg_1 rfl rfl ?_
    refine go_skip rfl rfl rfl hg_1 rfl rfl ?_
    refine go_skip rfl rfl rfl hg_1 rfl rfl ?_
    refine go_skip rfl rfl rfl hg_1 rfl rfl ?_
    refine go_p rfl rfl rfl (o_pickT rfl hg_1 rfl) ?_
    exact go_meet hk1 (congrArg (fun b => some (D.bool b)) (some_eq hp_1)) ⟨rfl, rfl, trivial⟩
  · replace hp_1 := cond_f hg_1 hp_1
    refine go_wantp rfl rfl rfl hg_1 rfl rfl (o_fieldAddr fi_89_8 rfl rfl rfl) ?_
    refine go_wantp rfl rfl rfl hg_1 rfl rfl (o_load Try.isAgg47 rfl rfl) ?_
    obtain ⟨x2, hx2, hp_1⟩ := bind_some hp_1
    refine go_wantp rfl rfl rfl hg_1 rfl rfl (o_call0 Try.call111 rfl (w_auto_numbered hx2)) ?_
    refine go_wantp rfl rfl rfl hg_1 rfl rfl (o_not rfl) ?_
    refine go_p rfl rfl rfl (o_pickF rfl hg_1 rfl) ?_
    exact go_meet hk1 (congrArg (fun b => some (D.bool b)) (some_eq hp_1)) ⟨rfl, rfl, trivial⟩
  refine go_p rfl rfl rfl (o_move rfl) ?_
  obtain ⟨p2, hp_2, hm⟩ := bind_some hm
  refine go_two [(2, _), (3, _)] 5 19 p2 (t := 14) ⟨rfl, rfl, trivial⟩ rfl (fun hg_2 hk2 => ?_) (fun hg_2 hk2 => ?_) ?_
  · replace hp_2 := cond_t hg_2 hp_2
    refine go_skip rfl rfl rfl hg_2 rfl rfl ?_
    refine go_skip rfl rfl rfl hg_2 rfl rfl ?_
    refine go_skip rfl rfl rfl hg_2 rfl rfl ?_
    refine go_skip rfl rfl rfl hg_2 rfl rfl ?_
    refine go_p rfl rfl rfl (o_pickT rfl hg_2 rfl) ?_
    exact go_meet hk2 (congrArg (fun b => some (D.bool b)) (some_eq hp_2)) ⟨rfl, rfl, trivial⟩
  · replace hp_2 := cond_f hg_2 hp_2
    refine go_wantp rfl rfl rfl hg_2 rfl rfl (o_fieldAddr fi_89_11 rfl rfl rfl) ?_
    refine go_wantp rfl rfl rfl hg_2 rfl rfl (o_load Try.isAgg87 rfl rfl) ?_
    obtain ⟨x3, hx3, hp_2⟩ := bind_some hp_2
    refine go_wantp rfl rfl rfl hg_2 rfl rfl (o_call0 Try.call112 rfl (w_auto_named (fun _ _ h => fv_func Try.call113 (w_name_Name h)) hx3)) ?_
    refine go_wantp rfl rfl rfl hg_2 rfl rfl (o_not rfl) ?_
    refine go_p rfl rfl rfl (o_pickF rfl hg_2 rfl) ?_
    exact go_meet hk2 (congrArg (fun b => some (D.bool b)) (some_eq hp_2)) ⟨rfl, rfl, trivial⟩
  refine go_p rfl rfl rfl (o_move rfl) ?_
  obtain ⟨p3, hp_3, hm⟩ := bind_some hm
  refine go_two [(2, _), (3, _)] 5 25 p3 (t := 20) ⟨rfl, rfl, trivial⟩ rfl (fun hg_3 hk3 => ?_) (fun hg_3 hk3 => ?_) ?_
  · replace hp_3 := cond_t hg_3 hp_3
    refine go_skip rfl rfl rfl hg_3 rfl rfl ?_
    refine go_skip rfl rfl rfl hg_3 rfl rfl ?_
    refine go_skip rfl rfl rfl hg_3 rfl rfl ?_
    refine go_skip rfl rfl rfl hg_3 rfl rfl ?_
    refine go_p rfl rfl rfl (o_pickT rfl hg_3 rfl) ?_
    exact go_meet hk3 (congrArg (fun b => some (D.bool b)) (some_eq hp_3)) ⟨rfl, rfl, trivial⟩
  · replace hp_3 := cond_f hg_3 hp_3
    refine go_wantp rfl rfl rfl hg_3 rfl rfl (o_fieldAddr fi_89_12 rfl rfl rfl) ?_
    refine go_wantp rfl rfl rfl hg_3 rfl rfl (o_load Try.isAgg87 rfl rfl) ?_
    obtain ⟨x4, hx4, hp_3⟩ := bind_some hp_3
    refine go_wantp rfl rfl rfl hg_3 rfl rfl (o_call0 Try.call112 rfl (w_auto_named (fun _ _ h => fv_func Try.call114 (w_name_Tag h)) hx4)) ?_
    refine go_wantp rfl rfl rfl hg_3 rfl rfl (o_not rfl) ?_
    refine go_p rfl rfl rfl (o_pickF rfl hg_3 rfl) ?_
    exact go_meet hk3 (congrArg (fun b => some (D.bool b)) (some_eq hp_3)) ⟨rfl, rfl, trivial⟩
  refine go_nil ?_
  refine g_cond rfl (fun hc1 => ?_) (fun hc1 => ?_)
  · replace hm := cond_t hc1 hm
    refine g_seq ?_
    refine g_region ?_
    refine go_p rfl rfl rfl (o_assign rfl) ?_
    refine go_nil ?_
    refine g_ret ?_
    exact retK (ret_one' rfl (ret_tmp rfl) (perm_drop _)) (congrArg (fun (p : Bool) => (.bool p : D)) (some_eq hm))
  · replace hm := cond_f hc1 hm
    refine g_skip ?_
    refine g_seq ?_
    refine g_seq ?_
    refine g_region ?_
    refine go_p rfl rfl rfl (o_fieldAddr fi_89_5 rfl rfl rfl) ?_
    refine go_p rfl rfl rfl (o_load Try.isAgg4 rfl rfl) ?_
    refine go_p rfl rfl rfl (o_move rfl) ?_
    obtain ⟨p4, hp_4, hm⟩ := bind_some hm
    refine go_two [(2, _), (3, _)] 18 46 p4 (t := 28) ⟨rfl, rfl, trivial⟩ rfl (fun hg_4 hk4 => ?_) (fun hg_4 hk4 => ?_) ?_
    · replace hp_4 := cond_t hg_4 hp_4
      refine go_wantp rfl rfl rfl hg_4 rfl rfl (o_load_agg Try.isAgg81 Try.sizeOf81 rfl rfl) ?_
      refine go_wantp rfl rfl rfl hg_4 rfl rfl (o_fieldAddr fi_89_9 rfl rfl rfl) ?_
      refine go_wantp rfl rfl rfl hg_4 rfl rfl (o_load Try.isAgg3 rfl rfl) ?_
      refine go_wantp rfl rfl rfl hg_4 rfl rfl (o_fieldAddr fi_89_0 rfl rfl rfl) ?_
      refine go_wantp rfl rfl rfl hg_4 rfl rfl (o_load Try.isAgg4 rfl rfl) ?_
      refine go_wantp rfl rfl rfl hg_4 rfl rfl (o_not rfl) ?_
      obtain ⟨x5, hx5, hp_4⟩ := bind_some hp_4
      refine go_wantp rfl rfl rfl hg_4 rfl rfl (o_call0 Try.call79 rfl (w_auto_Auto_on hx5)) ?_
      refine go_wantp rfl rfl rfl hg_4 rfl rfl (o_not rfl) ?_
      refine go_wantp rfl rfl rfl hg_4 rfl rfl (o_move rfl) ?_
      obtain ⟨p5, hp_5, hp_4⟩ := bind_some hp_4
      refine go_two [(2, _), (3, _), (28, _)] 8 45 p5 (t := 37) ⟨rfl, rfl, rfl, trivial⟩ rfl (fun hg_5 hk5 => ?_) (fun hg_5 hk5 => ?_) ?_
      · replace hp_5 := cond_t hg_5 hp_5
        refine go_skip rfl rfl rfl hg_5 rfl rfl ?_
        refine go_skip rfl rfl rfl hg_5 rfl rfl ?_
        refine go_skip rfl rfl rfl hg_5 rfl rfl ?_
        refine go_skip rfl rfl rfl hg_5 rfl rfl ?_
        refine go_skip rfl rfl rfl hg_5 rfl rfl ?_
        refine go_skip rfl rfl rfl hg_5 rfl rfl ?_
        refine go_skip rfl rfl rfl hg_5 rfl rfl ?_
        refine go_wantp rfl rfl rfl hg_4 rfl rfl (o_pickT rfl hg_5 rfl) ?_
        exact go_meet hk5 (congrArg (fun b => some (D.bool b)) (some_eq hp_5)) ⟨rfl, rfl, rfl, trivial⟩
      · replace hp_5 := cond_f hg_5 hp_5
        refine go_wantp rfl rfl rfl hg_5 rfl rfl (o_load_agg Try.isAgg81 Try.sizeOf81 rfl rfl) ?_
        refine go_wantp rfl rfl rfl hg_5 rfl rfl (o_fieldAddr fi_89_10 rfl rfl rfl) ?_
        refine go_wantp rfl rfl rfl hg_5 rfl rfl (o_load Try.isAgg3 rfl rfl) ?_
        refine go_wantp rfl rfl rfl hg_5 rfl rfl (o_fieldAddr fi_89_0 rfl rfl rfl) ?_
        refine go_wantp rfl rfl rfl hg_5 rfl rfl (o_load Try.isAgg4 rfl rfl) ?_
        obtain ⟨x6, hx6, hp_5⟩ := bind_some hp_5
        refine go_wantp rfl rfl rfl hg_5 rfl rfl (o_call0 Try.call79 rfl (w_auto_Auto_on hx6)) ?_
        refine go_wantp rfl rfl rfl hg_5 rfl rfl (o_not rfl) ?_
        refine go_wantp rfl rfl rfl hg_4 rfl rfl (o_pickF rfl hg_5 rfl) ?_
        exact go_meet hk5 (congrArg (fun b => some (D.bool b)) (some_eq hp_5)) ⟨rfl, rfl, rfl, trivial⟩
      refine go_p rfl rfl rfl (o_pickT rfl hg_4 rfl) ?_
      exact go_meet hk4 (congrArg (fun b => some (D.bool b)) (some_eq hp_4)) ⟨rfl, rfl, trivial⟩
    · replace hp_4 := cond_f hg_4 hp_4
      refine go_skip rfl rfl rfl hg_4 rfl rfl ?_
      refine go_skip rfl rfl rfl hg_4 rfl rfl ?_
      refine go_skip rfl rfl rfl hg_4 rfl rfl ?_
      refine go_skip rfl rfl rfl hg_4 rfl rfl ?_
      refine go_skip rfl rfl rfl hg_4 rfl rfl ?_
      refine go_skip rfl rfl rfl hg_4 rfl rfl ?_
      refine go_skip rfl rfl rfl hg_4 rfl rfl ?_
      refine go_skip rfl rfl rfl hg_4 rfl rfl ?_
      refine go_skip rfl rfl rfl hg_4 rfl rfl ?_
      refine go_skipu rfl rfl rfl rfl rfl ?_
      refine go_skipu rfl rfl rfl rfl rfl ?_
      refine go_skipu rfl rfl rfl rfl rfl ?_
      refine go_skipu rfl rfl rfl rfl rfl ?_
      refine go_skipu rfl rfl rfl rfl rfl ?_
      refine go_skipu rfl rfl rfl rfl rfl ?_
      refine go_skipu rfl rfl rfl rfl rfl ?_
      refine go_skip rfl rfl rfl hg_4 rfl rfl ?_
      refine go_p rfl rfl rfl (o_pickF rfl hg_4 rfl) ?_
      exact go_meet hk4 (congrArg (fun b => some (D.bool b)) (some_eq hp_4)) ⟨rfl, rfl, trivial⟩
    refine go_nil ?_
    refine g_cond rfl (fun hc2 => ?_) (fun hc2 => ?_)
    · replace hm := cond_t hc2 hm
      refine g_seq ?_
      refine g_region ?_
      refine go_p rfl rfl rfl (o_assign rfl) ?_
      refine go_nil ?_
      refine g_ret ?_
      exact retK (ret_one' rfl (ret_tmp rfl) (perm_drop _)) (congrArg (fun (p : Bool) => (.bool p : D)) (some_eq hm))
    · replace hm := cond_f hc2 hm
      refine g_skip ?_
      refine g_seq ?_
      obtain ⟨x7, hx7, hm⟩ := bind_some hm
      obtain ⟨x8, hx8, hm⟩ := bind_some hm
      obtain ⟨x9, hx9, hm⟩ := bind_some hm
      obtain ⟨x10, hx10, hm⟩ := bind_some hm
      refine g_draw 12 Try_mixed (by decide +kernel) ?_
      refine gd_p rfl rfl rfl (o_fieldAddr fi_89_11 rfl rfl rfl) ?_
      refine gd_p rfl rfl rfl (o_load Try.isAgg87 rfl rfl) ?_
      refine gd_p rfl rfl rfl (o_call0 Try.call86 rfl (w_auto_tos hx7)) ?_
      refine gd_p rfl rfl rfl (o_fieldAddr fi_89_12 rfl rfl rfl) ?_
      refine gd_p rfl rfl rfl (o_load Try.isAgg87 rfl rfl) ?_
      refine gd_p rfl rfl rfl (o_call0 Try.call86 rfl (w_auto_tos hx8)) ?_
      refine gd_p rfl rfl rfl (o_buildSlice (xs := [_, _]) (f := (D.list 1 D.i64)) (l := [_, _]) Try.runUnderlying186 Try.sizeOf47 Try.zeroValue47 rfl rfl rfl (fun _ => ⟨rfl, rfl, rfl⟩) rfl) ?_
      refine gd_p rfl rfl rfl (o_call0 Try.call85 rfl (w_slices_Concat_int_int hx9)) ?_
      refine gd_p rfl rfl rfl (o_makeFunc rfl rfl) ?_
      refine gd_p rfl rfl rfl (o_call0 Try.call98 rfl (w_slices_ContainsFunc_int_int (fun _ _ h => fv_clo Try.call115 (w_auto_Auto_right_1 h)) hx10)) ?_
      refine gd_p rfl rfl rfl (o_not rfl) ?_
      refine gd_p rfl rfl rfl (o_assign rfl) ?_
      refine gd_nil ?_
      refine go_nil ?_
      refine g_ret ?_
      exact retK (ret_one' rfl (ret_tmp rfl) (perm_drop _)) (congrArg (fun (p : Bool) => (.bool p : D)) (some_eq hm))

def m_auto_May_1 (s1 : AutoState) (c1 : AutoAuto) : Option Bool :=
  (m_auto_Auto_right c1 s1).bind fun x1 =>
  some (!x1)
theorem w_auto_May_1 {s1 : AutoState} {c1 : AutoAuto} {r : Bool} (hm : m_auto_May_1 s1 c1 = some r) : Fn0 Try.prog 81 [AutoState.d s1, .ref (AutoAuto.d c1)] (.bool r) := by
  unfold m_auto_May_1 at hm
  refine fn_intro Try.func81 rfl Try.ntmps81 rfl fun H0 fr w0 => ?_
  refine g_seq ?_
  refine g_region ?_
  refine go_p rfl rfl rfl (o_box rfl rfl) ?_
  refine go_p rfl rfl rfl (o_assign rfl) ?_
  refine go_nil ?_
  refine g_seq ?_
  refine g_region ?_
  refine go_p rfl rfl rfl (o_load_agg Try.isAgg81 Try.sizeOf81 rfl rfl) ?_
  refine go_p rfl rfl rfl (o_load_agg Try.isAgg89 Try.sizeOf89 rfl rfl) ?_
  obtain ⟨x1, hx1, hm⟩ := bind_some hm
  refine go_p rfl rfl rfl (o_call0 Try.call82 rfl (w_auto_Auto_right hx1)) ?_
  refine go_p rfl rfl rfl (o_not rfl) ?_
  refine go_p rfl rfl rfl (o_assign rfl) ?_
  refine go_nil ?_
  refine g_ret ?_
  exact retK (ret_one' rfl (ret_tmp rfl) (perm_drop _)) (congrArg (fun (p : Bool) => (.bool p : D)) (some_eq hm))

def m_auto_May (a1 : AutoAuto) : Option Int :=
  bif ((decide ((a1.l.length : Int) = 0)) || (decide (2000 < (a1.l.length : Int)))) then
    some 8
  else
    (m_auto_Auto_on a1 a1.start true).bind fun x1 =>
    (bif (!x1) then (some true) else ((m_slices_ContainsFunc_auto_State_auto_State a1.l (fun y0 => m_auto_May_1 y0 a1)).bind fun x2 =>
    some x2)).bind fun p1 =>
    bif p1 then
      some 4
    else
      some 0
theorem w_auto_May {a1 : AutoAuto} {r : Int} (hm : m_auto_May a1 = some r) : Fn0 Try.prog 47 [AutoAuto.d a1] (.i64 r) := by
  unfold m_auto_May at hm
  refine fn_intro Try.func47 rfl Try.ntmps47 rfl fun H0 fr w0 => ?_
  refine g_seq ?_
  refine g_region ?_
  refine go_p rfl rfl rfl (o_box rfl rfl) ?_
  refine go_p rfl rfl rfl (o_assign rfl) ?_
  refine go_nil ?_
  refine g_seq ?_
  refine g_seq ?_
  refine g_region ?_
  refine go_p rfl rfl rfl (o_fieldAddr fi_81_0 rfl rfl rfl) ?_
  refine go_p rfl rfl rfl (o_load Try.isAgg79 rfl rfl) ?_
  refine go_p rfl rfl rfl (o_len Try.runUnderlying79 rfl) ?_
  refine go_p rfl rfl rfl (o_cmp rfl rfl rfl) ?_
  refine go_p rfl rfl rfl (o_move rfl) ?_
  apply go_or [(1, _)] 5 12 (t := 7) ⟨rfl, trivial⟩ rfl
  · intro hg_1 hk1
    refine go_wantp rfl rfl rfl hg_1 rfl rfl (o_fieldAddr fi_81_0 rfl rfl rfl) ?_
    refine go_wantp rfl rfl rfl hg_1 rfl rfl (o_load Try.isAgg79 rfl rfl) ?_
    refine go_wantp rfl rfl rfl hg_1 rfl rfl (o_len Try.runUnderlying79 rfl) ?_
    refine go_wantp rfl rfl rfl hg_1 rfl rfl (o_cmp rfl rfl rfl) ?_
    refine go_p rfl rfl rfl (o_pickF rfl hg_1 rfl) ?_
    exact go_meet hk1 (rfl) ⟨rfl, trivial⟩
  · intro hg_1 hk1
    refine go_skip rfl rfl rfl hg_1 rfl rfl ?_
    refine go_skip rfl rfl rfl hg_1 rfl rfl ?_
    refine go_skip rfl rfl rfl hg_1 rfl rfl ?_
    refine go_skip rfl rfl rfl hg_1 rfl rfl ?_
    refine go_p rfl rfl rfl (o_pickT rfl hg_1 rfl) ?_
    exact go_meet hk1 (rfl) ⟨rfl, trivial⟩
  refine go_nil ?_
  refine g_cond rfl (fun hc1 => ?_) (fun hc1 => ?_)
  · replace hm := cond_t hc1 hm
    refine g_seq ?_
    refine g_region ?_
    refine go_p rfl rfl rfl (o_assign rfl) ?_
    refine go_nil ?_
    refine g_ret ?_
    exact retK (ret_one' rfl (ret_tmp rfl) (perm_drop _)) (congrArg (fun (p : Int) => (.i64 p : D)) (some_eq hm))
  · replace hm := cond_f hc1 hm
    refine g_skip ?_
    refine g_seq ?_
    refine g_seq ?_
    refine g_region ?_
    refine go_p rfl rfl rfl (o_load_agg Try.isAgg81 Try.sizeOf81 rfl rfl) ?_
    refine go_p rfl rfl rfl (o_fieldAddr fi_81_1 rfl rfl rfl) ?_
    refine go_p rfl rfl rfl (o_load Try.isAgg3 rfl rfl) ?_
    obtain ⟨x1, hx1, hm⟩ := bind_some hm
    refine go_p rfl rfl rfl (o_call0 Try.call79 rfl (w_auto_Auto_on hx1)) ?_
    refine go_p rfl rfl rfl (o_not rfl) ?_
    refine go_p rfl rfl rfl (o_move rfl) ?_
    obtain ⟨p1, hp_2, hm⟩ := bind_some hm
    refine go_two [] 5 23 p1 (t := 18) trivial rfl (fun hg_2 hk2 => ?_) (fun hg_2 hk2 => ?_) ?_
    · replace hp_2 := cond_t hg_2 hp_2
      refine go_skip rfl rfl rfl hg_2 rfl rfl ?_
      refine go_skip rfl rfl rfl hg_2 rfl rfl ?_
      refine go_skip rfl rfl rfl hg_2 rfl rfl ?_
      refine go_skip rfl rfl rfl hg_2 rfl rfl ?_
      refine go_p rfl rfl rfl (o_pickT rfl hg_2 rfl) ?_
      exact go_meet hk2 (congrArg (fun b => some (D.bool b)) (some_eq hp_2)) trivial
    · replace hp_2 := cond_f hg_2 hp_2
      refine go_wantp rfl rfl rfl hg_2 rfl rfl (o_fieldAddr fi_81_0 rfl rfl rfl) ?_
      refine go_wantp rfl rfl rfl hg_2 rfl rfl (o_load Try.isAgg79 rfl rfl) ?_
      refine go_wantp rfl rfl rfl hg_2 rfl rfl (o_makeFunc rfl rfl) ?_
      obtain ⟨x2, hx2, hp_2⟩ := bind_some hp_2
      refine go_wantp rfl rfl rfl hg_2 rfl rfl (o_call0 Try.call80 rfl (w_slices_ContainsFunc_auto_State_auto_State (fun _ _ h => fv_clo Try.call81 (w_auto_May_1 h)) hx2)) ?_
      refine go_p rfl rfl rfl (o_pickF rfl hg_2 rfl) ?_
      exact go_meet hk2 (congrArg (fun b => some (D.bool b)) (some_eq hp_2)) trivial
    refine go_nil ?_
    refine g_cond rfl (fun hc2 => ?_) (fun hc2 => ?_)
    · replace hm := cond_t hc2 hm
      refine g_seq ?_
      refine g_region ?_
      refine go_p rfl rfl rfl (o_assign rfl) ?_
      refine go_nil ?_
      refine g_ret ?_
      exact retK (ret_one' rfl (ret_tmp rfl) (perm_drop _)) (congrArg (fun (p : Int) => (.i64 p : D)) (some_eq hm))
    · replace hm := cond_f hc2 hm
      refine g_skip ?_
      refine g_seq ?_
      refine g_region ?_
      refine go_p rfl rfl rfl (o_assign rfl) ?_
      refine go_nil ?_
      refine g_ret ?_
      exact retK (ret_one' rfl (ret_tmp rfl) (perm_drop _)) (congrArg (fun (p : Int) => (.i64 p : D)) (some_eq hm))

def m_syntagmaref24_Next_l1 (s1 : AutoState) : Nat → (Int × (List Int)) → Option (List Int)
  | 0, _ => none
  | n + 1, (i1, l3) =>
    bif (decide (i1 < (s1.fields.length : Int))) then
      (idx s1.fields i1).bind fun x1 =>
      grd ((l3.length + ([x1.to_] : List _).length) * 8 ≤ 140737488355328) <|
      grd (InR (i1 + 1)) <|
      m_syntagmaref24_Next_l1 s1 n ((i1 + 1), (l3 ++ [x1.to_]))
    else
      some l3

def m_syntagmaref24_Next_l2 (s1 : AutoState) : Nat → (Int × (List Int)) → Option (List Int)
  | 0, _ => none
  | n + 1, (i2, l5) =>
    bif (decide (i2 < (s1.tags.length : Int))) then
      (idx s1.tags i2).bind fun x2 =>
      grd ((l5.length + ([x2.to_] : List _).length) * 8 ≤ 140737488355328) <|
      grd (InR (i2 + 1)) <|
      m_syntagmaref24_Next_l2 s1 n ((i2 + 1), (l5 ++ [x2.to_]))
    else
      some l5
def m_syntagmaref24_Next (s1 : AutoState) : Option (List Int) :=
  (bif s1.arrow then
    some [s1.dom, s1.cod]
  else
    some [] : Option (List Int)).bind fun l1 =>
  (m_syntagmaref24_Next_l1 s1 FU (0, l1) : Option (List Int)).bind fun l2 =>
  (m_syntagmaref24_Next_l2 s1 FU (0, l2) : Option (List Int)).bind fun l4 =>
  some l4
theorem w_syntagmaref24_Next {s1 : AutoState} {r : (List Int)} (hm : m_syntagmaref24_Next s1 = some r) : Fn0 Try.prog 51 [AutoState.d s1] (.list 1 D.i64 r) := by
  unfold m_syntagmaref24_Next at hm
  refine fn_intro Try.func51 rfl Try.ntmps51 rfl fun H0 fr w0 => ?_
  refine g_seq ?_
  refine g_region ?_
  refine go_p rfl rfl rfl (o_box rfl rfl) ?_
  refine go_p rfl rfl rfl (o_assign rfl) ?_
  refine go_conv (nilE (i := 2) (sz := 1) (f := D.i64) rfl).refines ?_
  refine go_nil ?_
  refine g_seq ?_
  refine g_region ?_
  refine go_op rfl rfl rfl (o_buildSlice_row (xs := []) (f := D.i64) (l := []) Try.runUnderlying47 Try.sizeOf3 Try.zeroValue3 rfl rfl rfl (fun _ => ⟨rfl, rfl, rfl⟩) rfl (by simp [maxLen])) ?_
  rintro _ _ ⟨a_r1, rfl, rfl⟩
  refine go_p rfl rfl rfl (o_assign rfl) ?_
  refine go_nil ?_
  refine g_seq ?_
  refine g_seq ?_
  refine g_region ?_
  refine go_p rfl rfl rfl (o_fieldAddr fi_93_5 rfl rfl rfl) ?_
  refine go_p rfl rfl rfl (o_load Try.isAgg4 rfl rfl) ?_
  refine go_nil ?_
  obtain ⟨o_1, hj1, hm1⟩ := bind_some hm
  refine g_cut_m [(1, _)] [] (fun (st : (List Int)) (hid : (Option Addr × Nat)) => match st, hid with | l1, (a_r1, cap_r1) => [(3, .v (.slice a_r1 l1.length cap_r1))]) (fun F (st : (List Int)) (hid : (Option Addr × Nat)) => match st, hid with | l1, (a_r1, cap_r1) => [row a_r1 cap_r1 3 1 D.i64 l1]) (fun st => st = o_1) ⟨rfl, trivial⟩ trivial ?_ ?_
  · skip
    refine g_cond rfl (fun hc1 => ?_) (fun hc1 => ?_)
    · replace hj1 := cond_t hc1 hj1
      refine g_region ?_
      refine go_p rfl rfl rfl (o_fieldAddr fi_93_9 rfl rfl rfl) ?_
      refine go_p rfl rfl rfl (o_load Try.isAgg3 rfl rfl) ?_
      refine go_p rfl rfl rfl (o_fieldAddr fi_93_10 rfl rfl rfl) ?_
      refine go_p rfl rfl rfl (o_load Try.isAgg3 rfl rfl) ?_
      refine go_op rfl rfl rfl (o_buildSlice_row (xs := [_, _]) (f := D.i64) (l := [_, _]) Try.runUnderlying47 Try.sizeOf3 Try.zeroValue3 rfl rfl rfl (fun _ => ⟨rfl, rfl, rfl⟩) rfl (by simp [maxLen])) ?_
      rintro _ _ ⟨a_r2, rfl, rfl⟩
      refine go_p rfl rfl rfl (o_assign rfl) ?_
      refine go_conv (refines_shift 0 1 rfl rfl rfl rfl) ?_
      refine go_nil ?_
      exact ⟨_, (_, _), some_eq hj1, ⟨rfl, trivial⟩, ⟨rfl, trivial⟩, [], rfl⟩
    · replace hj1 := cond_f hc1 hj1
      refine g_skip ?_
      exact ⟨_, (_, _), some_eq hj1, ⟨rfl, trivial⟩, ⟨rfl, trivial⟩, [], rfl⟩
  · rintro l1 ⟨a_r1, cap_r1⟩ hst
    subst hst
    refine k_norm (L' := [(3, .v (.slice a_r1 l1.length cap_r1)), (1, _)]) (ms' := [row a_r1 cap_r1 3 1 D.i64 l1]) rfl rfl ?_
    refine g_seq ?_
    refine g_seq ?_
    refine g_region ?_
    refine go_p rfl rfl rfl (o_assign rfl) ?_
    refine go_nil ?_
    obtain ⟨o_2, hj2, hm2⟩ := bind_some hm1
    refine g_cut_m [(1, _)] [] (fun (st : (List Int)) (hid : (Option Addr × Nat)) => match st, hid with | l2, (a_r1, cap_r1) => [(3, .v (.slice a_r1 l2.length cap_r1))]) (fun F (st : (List Int)) (hid : (Option Addr × Nat)) => match st, hid with | l2, (a_r1, cap_r1) => [row a_r1 cap_r1 3 1 D.i64 l2]) (fun st => st = o_2) ⟨rfl, trivial⟩ trivial ?_ ?_
    · skip
      refine g_block ?_
      refine g_loop_m [(1, _)] [] (fun (st : (Int × (List Int))) (hid : (Option Addr × Nat)) => match st, hid with | (i1, l3), (a_r1, cap_r1) => [(3, .v (.slice a_r1 l3.length cap_r1)), (4, .i64 i1)]) (fun F (st : (Int × (List Int))) (hid : (Option Addr × Nat)) => match st, hid with | (i1, l3), (a_r1, cap_r1) => [row a_r1 cap_r1 3 1 D.i64 l3]) (_, _) hj2 (fun _ => rfl) ⟨rfl, trivial⟩ trivial ⟨rfl, rfl, trivial⟩ rfl ?_
      rintro n ⟨i1, l3⟩ ⟨a_r1, cap_r1⟩ hj2
      rw [m_syntagmaref24_Next_l1] at hj2
      refine g_norm (L' := [(3, .v (.slice a_r1 l3.length cap_r1)), (4, .i64 i1), (1, _)]) (ms' := [row a_r1 cap_r1 3 1 D.i64 l3]) rfl rfl ?_
      refine g_seq ?_
      refine g_seq ?_
      refine g_region ?_
      refine go_p rfl rfl rfl (o_move rfl) ?_
      refine go_p rfl rfl rfl (o_fieldAddr fi_93_11 rfl rfl rfl) ?_
      refine go_p rfl rfl rfl (o_load Try.isAgg91 rfl rfl) ?_
      refine go_p rfl rfl rfl (o_len Try.runUnderlying91 rfl) ?_
      refine go_p rfl rfl rfl (o_cmp rfl rfl rfl) ?_
      refine go_nil ?_
      refine g_cond rfl (fun hc2 => ?_) (fun hc2 => ?_)
      · replace hj2 := cond_t hc2 hj2
        refine g_skip ?_
        refine g_seq ?_
        refine g_block ?_
        refine g_region ?_
        refine go_p rfl rfl rfl (o_move rfl) ?_
        refine go_p rfl rfl rfl (o_fieldAddr fi_93_11 rfl rfl rfl) ?_
        refine go_p rfl rfl rfl (o_load Try.isAgg91 rfl rfl) ?_
        refine go_p rfl rfl rfl (o_move rfl) ?_
        obtain ⟨x1, hx1, hj2⟩ := bind_some hj2
        refine go_p rfl rfl rfl (o_indexAddr_m Try.runUnderlying91 Try.sizeOf144 rfl rfl hx1) ?_
        refine go_p rfl rfl rfl (o_fieldAddr fi_144_1 rfl rfl rfl) ?_
        refine go_p rfl rfl rfl (o_load Try.isAgg3 rfl rfl) ?_
        refine go_p rfl rfl rfl (o_buildSlice (xs := [_]) (f := D.i64) (l := [_]) Try.runUnderlying47 Try.sizeOf3 Try.zeroValue3 rfl rfl rfl (fun _ => ⟨rfl, rfl, rfl⟩) rfl) ?_
        obtain ⟨hg2, hj2⟩ := grd_some hj2
        refine go_op rfl rfl rfl (o_append (a := _) 0 Try.underlying47 Try.type3 rfl rfl rfl rfl rfl rfl rfl (fun _ => rfl) (fun _ => rfl) hg2 (app_len hg2 rfl)) ?_
        rintro _ _ ⟨a_r1, cap_r1, rfl, rfl⟩
        refine go_ms (ms' := [_]) rfl ?_
        refine go_p rfl rfl rfl (o_assign rfl) ?_
        refine go_nil ?_
        refine g_region ?_
        refine go_p rfl rfl rfl (o_move rfl) ?_
        obtain ⟨hg3, hj2⟩ := grd_some hj2
        refine go_p rfl rfl rfl (o_add rfl rfl (i64_id hg3)) ?_
        refine go_p rfl rfl rfl (o_assign rfl) ?_
        refine go_nil ?_
        exact ⟨_, (_, _), hj2, ⟨rfl, rfl, trivial⟩, ⟨rfl, trivial⟩, [], rfl⟩
      · replace hj2 := cond_f hc2 hj2
        refine g_exit ?_
        exact ⟨_, (_, _), some_eq hj2, ⟨rfl, trivial⟩, ⟨rfl, trivial⟩, [], rfl⟩
    · rintro l2 ⟨a_r1, cap_r1⟩ hst
      subst hst
      refine k_norm (L' := [(3, .v (.slice a_r1 l2.length cap_r1)), (1, _)]) (ms' := [row a_r1 cap_r1 3 1 D.i64 l2]) rfl rfl ?_
      refine g_seq ?_
      refine g_seq ?_
      refine g_region ?_
      refine go_p rfl rfl rfl (o_assign rfl) ?_
      refine go_nil ?_
      obtain ⟨o_3, hj3, hm3⟩ := bind_some hm2
      refine g_cut_m [] [] (fun (st : (List Int)) (hid : (Option Addr × Nat)) => match st, hid with | l4, (a_r1, cap_r1) => [(3, .v (.slice a_r1 l4.length cap_r1))]) (fun F (st : (List Int)) (hid : (Option Addr × Nat)) => match st, hid with | l4, (a_r1, cap_r1) => [row a_r1 cap_r1 3 1 D.i64 l4]) (fun st => st = o_3) trivial trivial ?_ ?_
      · skip
        refine g_block ?_
        refine g_loop_m [(1, _)] [] (fun (st : (Int × (List Int))) (hid : (Option Addr × Nat)) => match st, hid with | (i2, l5), (a_r1, cap_r1) => [(3, .v (.slice a_r1 l5.length cap_r1)), (5, .i64 i2)]) (fun F (st : (Int × (List Int))) (hid : (Option Addr × Nat)) => match st, hid with | (i2, l5), (a_r1, cap_r1) => [row a_r1 cap_r1 3 1 D.i64 l5]) (_, _) hj3 (fun _ => rfl) ⟨rfl, trivial⟩ trivial ⟨rfl, rfl, trivial⟩ rfl ?_
        rintro n ⟨i2, l5⟩ ⟨a_r1, cap_r1⟩ hj3
        rw [m_syntagmaref24_Next_l2] at hj3
        refine g_norm (L' := [(3, .v (.slice a_r1 l5.length cap_r1)), (5, .i64 i2), (1, _)]) (ms' := [row a_r1 cap_r1 3 1 D.i64 l5]) rfl rfl ?_
        refine g_seq ?_
        refine g_seq ?_
        refine g_region ?_
        refine go_p rfl rfl rfl (o_move rfl) ?_
        refine go_p rfl rfl rfl (o_fieldAddr fi_93_12 rfl rfl rfl) ?_
        refine go_p rfl rfl rfl (o_load Try.isAgg91 rfl rfl) ?_
        refine go_p rfl rfl rfl (o_len Try.runUnderlying91 rfl) ?_
        refine go_p rfl rfl rfl (o_cmp rfl rfl rfl) ?_
        refine go_nil ?_
        refine g_cond rfl (fun hc3 => ?_) (fun hc3 => ?_)
        · replace hj3 := cond_t hc3 hj3
          refine g_skip ?_
          refine g_seq ?_
          refine g_block ?_
          refine g_region ?_
          refine go_p rfl rfl rfl (o_move rfl) ?_
          refine go_p rfl rfl rfl (o_fieldAddr fi_93_12 rfl rfl rfl) ?_
          refine go_p rfl rfl rfl (o_load Try.isAgg91 rfl rfl) ?_
          refine go_p rfl rfl rfl (o_move rfl) ?_
          obtain ⟨x2, hx4, hj3⟩ := bind_some hj3
          refine go_p rfl rfl rfl (o_indexAddr_m Try.runUnderlying91 Try.sizeOf144 rfl rfl hx4) ?_
          refine go_p rfl rfl rfl (o_fieldAddr fi_144_1 rfl rfl rfl) ?_
          refine go_p rfl rfl rfl (o_load Try.isAgg3 rfl rfl) ?_
          refine go_p rfl rfl rfl (o_buildSlice (xs := [_]) (f := D.i64) (l := [_]) Try.runUnderlying47 Try.sizeOf3 Try.zeroValue3 rfl rfl rfl (fun _ => ⟨rfl, rfl, rfl⟩) rfl) ?_
          obtain ⟨hg5, hj3⟩ := grd_some hj3
          refine go_op rfl rfl rfl (o_append (a := _) 0 Try.underlying47 Try.type3 rfl rfl rfl rfl rfl rfl rfl (fun _ => rfl) (fun _ => rfl) hg5 (app_len hg5 rfl)) ?_
          rintro _ _ ⟨a_r1, cap_r1, rfl, rfl⟩
          refine go_ms (ms' := [_]) rfl ?_
          refine go_p rfl rfl rfl (o_assign rfl) ?_
          refine go_nil ?_
          refine g_region ?_
          refine go_p rfl rfl rfl (o_move rfl) ?_
          obtain ⟨hg6, hj3⟩ := grd_some hj3
          refine go_p rfl rfl rfl (o_add rfl rfl (i64_id hg6)) ?_
          refine go_p rfl rfl rfl (o_assign rfl) ?_
          refine go_nil ?_
          exact ⟨_, (_, _), hj3, ⟨rfl, rfl, trivial⟩, ⟨rfl, trivial⟩, [], rfl⟩
        · replace hj3 := cond_f hc3 hj3
          refine g_exit ?_
          exact ⟨_, (_, _), some_eq hj3, ⟨rfl, trivial⟩, trivial, [], rfl⟩
      · rintro l4 ⟨a_r1, cap_r1⟩ hst
        subst hst
        refine k_norm (L' := [(3, .v (.slice a_r1 l4.length cap_r1))]) (ms' := [row a_r1 cap_r1 3 1 D.i64 l4]) rfl rfl ?_
        refine g_seq ?_
        refine g_region ?_
        refine go_p rfl rfl rfl (o_move rfl) ?_
        refine go_p rfl rfl rfl (o_assign rfl) ?_
        refine go_nil ?_
        refine g_conv (peekE (i := 2) 0 rfl rfl rfl).refines ?_
        refine g_ret ?_
        exact retK (ret_one' rfl (ret_tmp rfl) (perm_drop _)) (congrArg (fun (p : (List Int)) => (.list 1 D.i64 p : D)) (some_eq hm3))

def m_syntagmaref03_small (c1 : UInt8) : Option Bool :=
  some (((decide (97 ≤ (c1.toNat : Int))) && (decide ((c1.toNat : Int) ≤ 122))) || (decide ((c1.toNat : Int) = 95)))
theorem w_syntagmaref03_small {c1 : UInt8} {r : Bool} (hm : m_syntagmaref03_small c1 = some r) : Fn0 Try.prog 156 [.u8 c1] (.bool r) := by
  unfold m_syntagmaref03_small at hm
  refine fn_intro Try.func156 rfl Try.ntmps156 rfl fun H0 fr w0 => ?_
  refine g_seq ?_
  refine g_region ?_
  refine go_p rfl rfl rfl (o_assign rfl) ?_
  refine go_nil ?_
  refine g_seq ?_
  refine g_region ?_
  refine go_p rfl rfl rfl (o_move rfl) ?_
  refine go_p rfl rfl rfl (o_cmp rfl rfl rfl) ?_
  refine go_p rfl rfl rfl (o_move rfl) ?_
  apply go_and [(0, _)] 3 8 (t := 5) ⟨rfl, trivial⟩ rfl
  · intro hg_1 hk1
    refine go_wantp rfl rfl rfl hg_1 rfl rfl (o_move rfl) ?_
    refine go_wantp rfl rfl rfl hg_1 rfl rfl (o_cmp rfl rfl rfl) ?_
    refine go_p rfl rfl rfl (o_pickT rfl hg_1 rfl) ?_
    exact go_meet hk1 (rfl) ⟨rfl, trivial⟩
  · intro hg_1 hk1
    refine go_skip rfl rfl rfl hg_1 rfl rfl ?_
    refine go_skip rfl rfl rfl hg_1 rfl rfl ?_
    refine go_p rfl rfl rfl (o_pickF rfl hg_1 rfl) ?_
    exact go_meet hk1 (rfl) ⟨rfl, trivial⟩
  refine go_p rfl rfl rfl (o_move rfl) ?_
  apply go_or [] 3 12 (t := 9) trivial rfl
  · intro hg_2 hk2
    refine go_wantp rfl rfl rfl hg_2 rfl rfl (o_move rfl) ?_
    refine go_wantp rfl rfl rfl hg_2 rfl rfl (o_cmp rfl rfl rfl) ?_
    refine go_p rfl rfl rfl (o_pickF rfl hg_2 rfl) ?_
    exact go_meet hk2 (rfl) trivial
  · intro hg_2 hk2
    refine go_skip rfl rfl rfl hg_2 rfl rfl ?_
    refine go_skip rfl rfl rfl hg_2 rfl rfl ?_
    refine go_p rfl rfl rfl (o_pickT rfl hg_2 rfl) ?_
    exact go_meet hk2 (rfl) trivial
  refine go_p rfl rfl rfl (o_assign rfl) ?_
  refine go_nil ?_
  refine g_ret ?_
  exact retK (ret_one' rfl (ret_tmp rfl) (perm_drop _)) (congrArg (fun (p : Bool) => (.bool p : D)) (some_eq hm))

def m_syntagmaref03_great (c1 : UInt8) : Option Bool :=
  some ((decide (65 ≤ (c1.toNat : Int))) && (decide ((c1.toNat : Int) ≤ 90)))
theorem w_syntagmaref03_great {c1 : UInt8} {r : Bool} (hm : m_syntagmaref03_great c1 = some r) : Fn0 Try.prog 157 [.u8 c1] (.bool r) := by
  unfold m_syntagmaref03_great at hm
  refine fn_intro Try.func157 rfl Try.ntmps157 rfl fun H0 fr w0 => ?_
  refine g_seq ?_
  refine g_region ?_
  refine go_p rfl rfl rfl (o_assign rfl) ?_
  refine go_nil ?_
  refine g_seq ?_
  refine g_region ?_
  refine go_p rfl rfl rfl (o_move rfl) ?_
  refine go_p rfl rfl rfl (o_cmp rfl rfl rfl) ?_
  refine go_p rfl rfl rfl (o_move rfl) ?_
  apply go_and [] 3 8 (t := 5) trivial rfl
  · intro hg_1 hk1
    refine go_wantp rfl rfl rfl hg_1 rfl rfl (o_move rfl) ?_
    refine go_wantp rfl rfl rfl hg_1 rfl rfl (o_cmp rfl rfl rfl) ?_
    refine go_p rfl rfl rfl (o_pickT rfl hg_1 rfl) ?_
    exact go_meet hk1 (rfl) trivial
  · intro hg_1 hk1
    refine go_skip rfl rfl rfl hg_1 rfl rfl ?_
    refine go_skip rfl rfl rfl hg_1 rfl rfl ?_
    refine go_p rfl rfl rfl (o_pickF rfl hg_1 rfl) ?_
    exact go_meet hk1 (rfl) trivial
  refine go_p rfl rfl rfl (o_assign rfl) ?_
  refine go_nil ?_
  refine g_ret ?_
  exact retK (ret_one' rfl (ret_tmp rfl) (perm_drop _)) (congrArg (fun (p : Bool) => (.bool p : D)) (some_eq hm))

def m_syntagmaref03_Word_l1 (s1 : (List UInt8)) : Nat → Int → Option Int
  | 0, _ => none
  | n + 1, n2 =>
    (bif (decide (n2 < (s1.length : Int))) then ((idx s1 n2).bind fun c3 =>
    (m_syntagmaref03_small c3).bind fun x3 =>
    (bif x3 then (some true) else ((idx s1 n2).bind fun c4 =>
    (m_syntagmaref03_great c4).bind fun x4 =>
    some x4)).bind fun p4 =>
    (bif p4 then (some true) else ((idx s1 n2).bind fun c5 =>
    (bif (decide (48 ≤ (c5.toNat : Int))) then ((idx s1 n2).bind fun c6 =>
    some (decide ((c6.toNat : Int) ≤ 57))) else (some false)).bind fun p6 =>
    some p6)).bind fun p5 =>
    some p5) else (some false)).bind fun p3 =>
    bif p3 then
      grd (InR (n2 + 1)) <|
      m_syntagmaref03_Word_l1 s1 n (n2 + 1)
    else
      some n2
def m_syntagmaref03_Word (s1 : (List UInt8)) : Option Int :=
  (bif (decide ((s1.length : Int) = 0)) then (some true) else ((idx s1 0).bind fun c1 =>
  (m_syntagmaref03_small c1).bind fun x1 =>
  (bif (!x1) then ((idx s1 0).bind fun c2 =>
  (m_syntagmaref03_great c2).bind fun x2 =>
  some (!x2)) else (some false)).bind fun p2 =>
  some p2)).bind fun p1 =>
  bif p1 then
    some 0
  else
    (m_syntagmaref03_Word_l1 s1 FU 1 : Option Int).bind fun n1 =>
    some n1
theorem w_syntagmaref03_Word {s1 : (List UInt8)} {r : Int} (hm : m_syntagmaref03_Word s1 = some r) : Fn0 Try.prog 126 [.str s1] (.i64 r) := by
  unfold m_syntagmaref03_Word at hm
  refine fn_intro Try.func126 rfl Try.ntmps126 rfl fun H0 fr w0 => ?_
  refine g_seq ?_
  refine g_region ?_
  refine go_p rfl rfl rfl (o_assign rfl) ?_
  refine go_nil ?_
  refine g_seq ?_
  refine g_seq ?_
  refine g_region ?_
  refine go_p rfl rfl rfl (o_move rfl) ?_
  refine go_p rfl rfl rfl (o_len_str Try.runUnderlying9 rfl) ?_
  refine go_p rfl rfl rfl (o_cmp rfl rfl rfl) ?_
  refine go_p rfl rfl rfl (o_move rfl) ?_
  obtain ⟨p1, hp_1, hm⟩ := bind_some hm
  refine go_two [(0, _)] 11 18 p1 (t := 7) ⟨rfl, trivial⟩ rfl (fun hg_1 hk1 => ?_) (fun hg_1 hk1 => ?_) ?_
  · replace hp_1 := cond_t hg_1 hp_1
    refine go_skip rfl rfl rfl hg_1 rfl rfl ?_
    refine go_skip rfl rfl rfl hg_1 rfl rfl ?_
    refine go_skip rfl rfl rfl hg_1 rfl rfl ?_
    refine go_skip rfl rfl rfl hg_1 rfl rfl ?_
    refine go_skip rfl rfl rfl hg_1 rfl rfl ?_
    refine go_skipu rfl rfl rfl rfl rfl ?_
    refine go_skipu rfl rfl rfl rfl rfl ?_
    refine go_skipu rfl rfl rfl rfl rfl ?_
    refine go_skipu rfl rfl rfl rfl rfl ?_
    refine go_skip rfl rfl rfl hg_1 rfl rfl ?_
    refine go_p rfl rfl rfl (o_pickT rfl hg_1 rfl) ?_
    exact go_meet hk1 (congrArg (fun b => some (D.bool b)) (some_eq hp_1)) ⟨rfl, trivial⟩
  · replace hp_1 := cond_f hg_1 hp_1
    refine go_wantp rfl rfl rfl hg_1 rfl rfl (o_move rfl) ?_
    obtain ⟨c1, hx1, hp_1⟩ := bind_some hp_1
    refine go_wantp rfl rfl rfl hg_1 rfl rfl (o_index_m Try.runUnderlying9 rfl rfl hx1) ?_
    obtain ⟨x1, hx2, hp_1⟩ := bind_some hp_1
    refine go_wantp rfl rfl rfl hg_1 rfl rfl (o_call0 Try.call156 rfl (w_syntagmaref03_small hx2)) ?_
    refine go_wantp rfl rfl rfl hg_1 rfl rfl (o_not rfl) ?_
    refine go_wantp rfl rfl rfl hg_1 rfl rfl (o_move rfl) ?_
    obtain ⟨p2, hp_2, hp_1⟩ := bind_some hp_1
    refine go_two [(0, _), (7, _)] 5 17 p2 (t := 12) ⟨rfl, rfl, trivial⟩ rfl (fun hg_2 hk2 => ?_) (fun hg_2 hk2 => ?_) ?_
    · replace hp_2 := cond_t hg_2 hp_2
      refine go_wantp rfl rfl rfl hg_2 rfl rfl (o_move rfl) ?_
      obtain ⟨c2, hx3, hp_2⟩ := bind_some hp_2
      refine go_wantp rfl rfl rfl hg_2 rfl rfl (o_index_m Try.runUnderlying9 rfl rfl hx3) ?_
      obtain ⟨x2, hx4, hp_2⟩ := bind_some hp_2
      refine go_wantp rfl rfl rfl hg_2 rfl rfl (o_call0 Try.call157 rfl (w_syntagmaref03_great hx4)) ?_
      refine go_wantp rfl rfl rfl hg_2 rfl rfl (o_not rfl) ?_
      refine go_wantp rfl rfl rfl hg_1 rfl rfl (o_pickT rfl hg_2 rfl) ?_
      exact go_meet hk2 (congrArg (fun b => some (D.bool b)) (some_eq hp_2)) ⟨rfl, rfl, trivial⟩
    · replace hp_2 := cond_f hg_2 hp_2
      refine go_skip rfl rfl rfl hg_2 rfl rfl ?_
      refine go_skip rfl rfl rfl hg_2 rfl rfl ?_
      refine go_skip rfl rfl rfl hg_2 rfl rfl ?_
      refine go_skip rfl rfl rfl hg_2 rfl rfl ?_
      refine go_wantp rfl rfl rfl hg_1 rfl rfl (o_pickF rfl hg_2 rfl) ?_
      exact go_meet hk2 (congrArg (fun b => some (D.bool b)) (some_eq hp_2)) ⟨rfl, rfl, trivial⟩
    refine go_p rfl rfl rfl (o_pickF rfl hg_1 rfl) ?_
    exact go_meet hk1 (congrArg (fun b => some (D.bool b)) (some_eq hp_1)) ⟨rfl, trivial⟩
  refine go_nil ?_
  refine g_cond rfl (fun hc1 => ?_) (fun hc1 => ?_)
  · replace hm := cond_t hc1 hm
    refine g_seq ?_
    refine g_region ?_
    refine go_p rfl rfl rfl (o_assign rfl) ?_
    refine go_nil ?_
    refine g_ret ?_
    exact retK (ret_one' rfl (ret_tmp rfl) (perm_drop _)) (congrArg (fun (p : Int) => (.i64 p : D)) (some_eq hm))
  · replace hm := cond_f hc1 hm
    refine g_skip ?_
    refine g_seq ?_
    refine g_region ?_
    refine go_p rfl rfl rfl (o_assign rfl) ?_
    refine go_nil ?_
    refine g_seq ?_
    obtain ⟨o_1, hj1, hm1⟩ := bind_some hm
    refine g_cut_m [] [] (fun (st : Int) (hid : Unit) => match st, hid with | n1, _ => [(3, .i64 n1)]) (fun F (st : Int) (hid : Unit) => match st, hid with | n1, _ => []) (fun st => st = o_1) trivial trivial ?_ ?_
    · skip
      refine g_block ?_
      refine g_loop_m [(0, _)] [] (fun (st : Int) (hid : Unit) => match st, hid with | n2, _ => [(3, .i64 n2)]) (fun F (st : Int) (hid : Unit) => match st, hid with | n2, _ => []) () hj1 (fun _ => rfl) ⟨rfl, trivial⟩ trivial ⟨rfl, trivial⟩ rfl ?_
      rintro n n2 _ hj1
      rw [m_syntagmaref03_Word_l1] at hj1
      refine g_norm (L' := [(3, .i64 n2), (0, _)]) (ms' := []) rfl rfl ?_
      refine g_seq ?_
      refine g_seq ?_
      refine g_region ?_
      refine go_p rfl rfl rfl (o_move rfl) ?_
      refine go_p rfl rfl rfl (o_move rfl) ?_
      refine go_p rfl rfl rfl (o_len_str Try.runUnderlying9 rfl) ?_
      refine go_p rfl rfl rfl (o_cmp rfl rfl rfl) ?_
      refine go_p rfl rfl rfl (o_move rfl) ?_
      obtain ⟨p3, hp_3, hj1⟩ := bind_some hj1
      refine go_two [(0, _), (3, _)] 23 46 p3 (t := 23) ⟨rfl, rfl, trivial⟩ rfl (fun hg_3 hk3 => ?_) (fun hg_3 hk3 => ?_) ?_
      · replace hp_3 := cond_t hg_3 hp_3
        refine go_wantp rfl rfl rfl hg_3 rfl rfl (o_move rfl) ?_
        refine go_wantp rfl rfl rfl hg_3 rfl rfl (o_move rfl) ?_
        obtain ⟨c3, hx5, hp_3⟩ := bind_some hp_3
        refine go_wantp rfl rfl rfl hg_3 rfl rfl (o_index_m Try.runUnderlying9 rfl rfl hx5) ?_
        obtain ⟨x3, hx6, hp_3⟩ := bind_some hp_3
        refine go_wantp rfl rfl rfl hg_3 rfl rfl (o_call0 Try.call156 rfl (w_syntagmaref03_small hx6)) ?_
        refine go_wantp rfl rfl rfl hg_3 rfl rfl (o_move rfl) ?_
        obtain ⟨p4, hp_4, hp_3⟩ := bind_some hp_3
        refine go_two [(0, _), (3, _), (23, _)] 5 33 p4 (t := 28) ⟨rfl, rfl, rfl, trivial⟩ rfl (fun hg_4 hk4 => ?_) (fun hg_4 hk4 => ?_) ?_
        · replace hp_4 := cond_t hg_4 hp_4
          refine go_skip rfl rfl rfl hg_4 rfl rfl ?_
          refine go_skip rfl rfl rfl hg_4 rfl rfl ?_
          refine go_skip rfl rfl rfl hg_4 rfl rfl ?_
          refine go_skip rfl rfl rfl hg_4 rfl rfl ?_
          refine go_wantp rfl rfl rfl hg_3 rfl rfl (o_pickT rfl hg_4 rfl) ?_
          exact go_meet hk4 (congrArg (fun b => some (D.bool b)) (some_eq hp_4)) ⟨rfl, rfl, rfl, trivial⟩
        · replace hp_4 := cond_f hg_4 hp_4
          refine go_wantp rfl rfl rfl hg_4 rfl rfl (o_move rfl) ?_
          refine go_wantp rfl rfl rfl hg_4 rfl rfl (o_move rfl) ?_
          obtain ⟨c4, hx7, hp_4⟩ := bind_some hp_4
          refine go_wantp rfl rfl rfl hg_4 rfl rfl (o_index_m Try.runUnderlying9 rfl rfl hx7) ?_
          obtain ⟨x4, hx8, hp_4⟩ := bind_some hp_4
          refine go_wantp rfl rfl rfl hg_4 rfl rfl (o_call0 Try.call157 rfl (w_syntagmaref03_great hx8)) ?_
          refine go_wantp rfl rfl rfl hg_3 rfl rfl (o_pickF rfl hg_4 rfl) ?_
          exact go_meet hk4 (congrArg (fun b => some (D.bool b)) (some_eq hp_4)) ⟨rfl, rfl, rfl, trivial⟩
        refine go_wantp rfl rfl rfl hg_3 rfl rfl (o_move rfl) ?_
        obtain ⟨p5, hp_5, hp_3⟩ := bind_some hp_3
        refine go_two [(0, _), (3, _), (23, _)] 11 45 p5 (t := 34) ⟨rfl, rfl, rfl, trivial⟩ rfl (fun hg_5 hk5 => ?_) (fun hg_5 hk5 => ?_) ?_
        · replace hp_5 := cond_t hg_5 hp_5
          refine go_skip rfl rfl rfl hg_5 rfl rfl ?_
          refine go_skip rfl rfl rfl hg_5 rfl rfl ?_
          refine go_skip rfl rfl rfl hg_5 rfl rfl ?_
          refine go_skip rfl rfl rfl hg_5 rfl rfl ?_
          refine go_skip rfl rfl rfl hg_5 rfl rfl ?_
          refine go_skipu rfl rfl rfl rfl rfl ?_
          refine go_skipu rfl rfl rfl rfl rfl ?_
          refine go_skipu rfl rfl rfl rfl rfl ?_
          refine go_skipu rfl rfl rfl rfl rfl ?_
          refine go_skip rfl rfl rfl hg_5 rfl rfl ?_
          refine go_wantp rfl rfl rfl hg_3 rfl rfl (o_pickT rfl hg_5 rfl) ?_
          exact go_meet hk5 (congrArg (fun b => some (D.bool b)) (some_eq hp_5)) ⟨rfl, rfl, rfl, trivial⟩
        · replace hp_5 := cond_f hg_5 hp_5
          refine go_wantp rfl rfl rfl hg_5 rfl rfl (o_move rfl) ?_
          refine go_wantp rfl rfl rfl hg_5 rfl rfl (o_move rfl) ?_
          obtain ⟨c5, hx9, hp_5⟩ := bind_some hp_5
          refine go_wantp rfl rfl rfl hg_5 rfl rfl (o_index_m Try.runUnderlying9 rfl rfl hx9) ?_
          refine go_wantp rfl rfl rfl hg_5 rfl rfl (o_cmp rfl rfl rfl) ?_
          refine go_wantp rfl rfl rfl hg_5 rfl rfl (o_move rfl) ?_
          obtain ⟨p6, hp_6, hp_5⟩ := bind_some hp_5
          refine go_two [(0, _), (3, _), (23, _), (34, _)] 5 44 p6 (t := 39) ⟨rfl, rfl, rfl, rfl, trivial⟩ rfl (fun hg_6 hk6 => ?_) (fun hg_6 hk6 => ?_) ?_
          · replace hp_6 := cond_t hg_6 hp_6
            refine go_wantp rfl rfl rfl hg_6 rfl rfl (o_move rfl) ?_
            refine go_wantp rfl rfl rfl hg_6 rfl rfl (o_move rfl) ?_
            obtain ⟨c6, hx10, hp_6⟩ := bind_some hp_6
            refine go_wantp rfl rfl rfl hg_6 rfl rfl (o_index_m Try.runUnderlying9 rfl rfl hx10) ?_
            refine go_wantp rfl rfl rfl hg_6 rfl rfl (o_cmp rfl rfl rfl) ?_
            refine go_wantp rfl rfl rfl hg_5 rfl rfl (o_pickT rfl hg_6 rfl) ?_
            exact go_meet hk6 (congrArg (fun b => some (D.bool b)) (some_eq hp_6)) ⟨rfl, rfl, rfl, rfl, trivial⟩
          · replace hp_6 := cond_f hg_6 hp_6
            refine go_skip rfl rfl rfl hg_6 rfl rfl ?_
            refine go_skip rfl rfl rfl hg_6 rfl rfl ?_
            refine go_skip rfl rfl rfl hg_6 rfl rfl ?_
            refine go_skip rfl rfl rfl hg_6 rfl rfl ?_
            refine go_wantp rfl rfl rfl hg_5 rfl rfl (o_pickF rfl hg_6 rfl) ?_
            exact go_meet hk6 (congrArg (fun b => some (D.bool b)) (some_eq hp_6)) ⟨rfl, rfl, rfl, rfl, trivial⟩
          refine go_wantp rfl rfl rfl hg_3 rfl rfl (o_pickF rfl hg_5 rfl) ?_
          exact go_meet hk5 (congrArg (fun b => some (D.bool b)) (some_eq hp_5)) ⟨rfl, rfl, rfl, trivial⟩
        refine go_p rfl rfl rfl (o_pickT rfl hg_3 rfl) ?_
        exact go_meet hk3 (congrArg (fun b => some (D.bool b)) (some_eq hp_3)) ⟨rfl, rfl, trivial⟩
      · replace hp_3 := cond_f hg_3 hp_3
        refine go_skip rfl rfl rfl hg_3 rfl rfl ?_
        refine go_skip rfl rfl rfl hg_3 rfl rfl ?_
        refine go_skip rfl rfl rfl hg_3 rfl rfl ?_
        refine go_skip rfl rfl rfl hg_3 rfl rfl ?_
        refine go_skip rfl rfl rfl hg_3 rfl rfl ?_
        refine go_skipu rfl rfl rfl rfl rfl ?_
        refine go_skipu rfl rfl rfl rfl rfl ?_
        refine go_skipu rfl rfl rfl rfl rfl ?_
        refine go_skipu rfl rfl rfl rfl rfl ?_
        refine go_skip rfl rfl rfl hg_3 rfl rfl ?_
        refine go_skip rfl rfl rfl hg_3 rfl rfl ?_
        refine go_skipu rfl rfl rfl rfl rfl ?_
        refine go_skipu rfl rfl rfl rfl rfl ?_
        refine go_skipu rfl rfl rfl rfl rfl ?_
        refine go_skipu rfl rfl rfl rfl rfl ?_
        refine go_skipu rfl rfl rfl rfl rfl ?_
        refine go_skipu rfl rfl rfl rfl rfl ?_
        refine go_skipu rfl rfl rfl rfl rfl ?_
        refine go_skipu rfl rfl rfl rfl rfl ?_
        refine go_skipu rfl rfl rfl rfl rfl ?_
        refine go_skipu rfl rfl rfl rfl rfl ?_
        refine go_skip rfl rfl rfl hg_3 rfl rfl ?_
        refine go_p rfl rfl rfl (o_pickF rfl hg_3 rfl) ?_
        exact go_meet hk3 (congrArg (fun b => some (D.bool b)) (some_eq hp_3)) ⟨rfl, rfl, trivial⟩
      refine go_nil ?_
      refine g_cond rfl (fun hc2 => ?_) (fun hc2 => ?_)
      · replace hj1 := cond_t hc2 hj1
        refine g_skip ?_
        refine g_block ?_
        refine g_region ?_
        refine go_p rfl rfl rfl (o_move rfl) ?_
        obtain ⟨hg11, hj1⟩ := grd_some hj1
        refine go_p rfl rfl rfl (o_add rfl rfl (i64_id hg11)) ?_
        refine go_p rfl rfl rfl (o_assign rfl) ?_
        refine go_nil ?_
        exact ⟨_, (), hj1, ⟨rfl, trivial⟩, ⟨rfl, trivial⟩, [], rfl⟩
      · replace hj1 := cond_f hc2 hj1
        refine g_exit ?_
        exact ⟨_, (), some_eq hj1, ⟨rfl, trivial⟩, trivial, [], rfl⟩
    · rintro n1 _ hst
      subst hst
      refine k_norm (L' := [(3, .i64 n1)]) (ms' := []) rfl rfl ?_
      refine g_seq ?_
      refine g_region ?_
      refine go_p rfl rfl rfl (o_move rfl) ?_
      refine go_p rfl rfl rfl (o_assign rfl) ?_
      refine go_nil ?_
      refine g_ret ?_
      exact retK (ret_one' rfl (ret_tmp rfl) (perm_drop _)) (congrArg (fun (p : Int) => (.i64 p : D)) (some_eq hm1))

def m_syntagmaref03_In_l1 (s1 : (List UInt8)) (l1 : (List (List UInt8))) : Nat → Int → Option (Out Bool Unit)
  | 0, _ => none
  | n + 1, i1 =>
    bif (decide (i1 < (l1.length : Int))) then
      (idx l1 i1).bind fun x1 =>
      bif (decide ((x1 : List UInt8) = s1)) then
        some (Out.ret true)
      else
        grd (InR (i1 + 1)) <|
        m_syntagmaref03_In_l1 s1 l1 n (i1 + 1)
    else
      some (Out.go (()))
def m_syntagmaref03_In (s1 : (List UInt8)) (l1 : (List (List UInt8))) : Option Bool :=
  ((m_syntagmaref03_In_l1 s1 l1 FU 0 : Option (Out Bool Unit))).bind (fun oo => oo.on (fun r1 => some r1) (fun _ =>
  some false))
theorem w_syntagmaref03_In {s1 : (List UInt8)} {l1 : (List (List UInt8))} {r : Bool} (hm : m_syntagmaref03_In s1 l1 = some r) : Fn0 Try.prog 158 [.str s1, .list 1 D.str l1] (.bool r) := by
  unfold m_syntagmaref03_In at hm
  refine fn_intro Try.func158 rfl Try.ntmps158 rfl fun H0 fr w0 => ?_
  refine g_seq ?_
  refine g_region ?_
  refine go_p rfl rfl rfl (o_assign rfl) ?_
  refine go_nil ?_
  refine g_seq ?_
  refine g_seq ?_
  refine g_region ?_
  refine go_p rfl rfl rfl (o_assign rfl) ?_
  refine go_nil ?_
  obtain ⟨o_1, hj1, hm1⟩ := bind_some hm
  refine g_cut_m [] [] (fun (st : Unit) (hid : Unit) => match st, hid with | _, _ => []) (fun F (st : Unit) (hid : Unit) => match st, hid with | _, _ => []) (fun st => Out.go (st) = o_1) trivial trivial ?_ ?_
  · skip
    refine g_block ?_
    refine g_loop_m [(0, _), (1, _)] [] (fun (st : Int) (hid : Unit) => match st, hid with | i1, _ => [(5, .i64 i1)]) (fun F (st : Int) (hid : Unit) => match st, hid with | i1, _ => []) () hj1 (fun _ => rfl) ⟨rfl, rfl, trivial⟩ trivial ⟨rfl, trivial⟩ rfl ?_
    rintro n i1 _ hj1
    rw [m_syntagmaref03_In_l1] at hj1
    refine g_norm (L' := [(5, .i64 i1), (0, _), (1, _)]) (ms' := []) rfl rfl ?_
    refine g_seq ?_
    refine g_seq ?_
    refine g_region ?_
    refine go_p rfl rfl rfl (o_move rfl) ?_
    refine go_p rfl rfl rfl (o_move rfl) ?_
    refine go_p rfl rfl rfl (o_len Try.runUnderlying23 rfl) ?_
    refine go_p rfl rfl rfl (o_cmp rfl rfl rfl) ?_
    refine go_nil ?_
    refine g_cond rfl (fun hc1 => ?_) (fun hc1 => ?_)
    · replace hj1 := cond_t hc1 hj1
      refine g_skip ?_
      refine g_seq ?_
      refine g_block ?_
      refine g_seq ?_
      refine g_region ?_
      refine go_p rfl rfl rfl (o_move rfl) ?_
      refine go_p rfl rfl rfl (o_move rfl) ?_
      obtain ⟨x1, hx1, hj1⟩ := bind_some hj1
      refine go_p rfl rfl rfl (o_indexAddr_m Try.runUnderlying23 Try.sizeOf9 rfl rfl hx1) ?_
      refine go_p rfl rfl rfl (o_load Try.isAgg9 rfl rfl) ?_
      refine go_p rfl rfl rfl (o_move rfl) ?_
      refine go_p rfl rfl rfl (o_cmps rfl rfl rfl) ?_
      refine go_nil ?_
      refine g_cond rfl (fun hc2 => ?_) (fun hc2 => ?_)
      · replace hj1 := cond_t hc2 hj1
        refine g_seq ?_
        refine g_region ?_
        refine go_p rfl rfl rfl (o_assign rfl) ?_
        refine go_nil ?_
        refine g_ret ?_
        obtain rfl := some_eq hj1
        replace hm1 := on_ret hm1
        exact retK (ret_one' rfl (ret_tmp rfl) (perm_drop _)) (congrArg (fun (p : Bool) => (.bool p : D)) (some_eq hm1))
      · replace hj1 := cond_f hc2 hj1
        refine g_skip ?_
        refine g_region ?_
        refine go_p rfl rfl rfl (o_move rfl) ?_
        obtain ⟨hg2, hj1⟩ := grd_some hj1
        refine go_p rfl rfl rfl (o_add rfl rfl (i64_id hg2)) ?_
        refine go_p rfl rfl rfl (o_assign rfl) ?_
        refine go_nil ?_
        exact ⟨_, (), hj1, ⟨rfl, trivial⟩, ⟨rfl, rfl, trivial⟩, [], rfl⟩
    · replace hj1 := cond_f hc1 hj1
      refine g_exit ?_
      exact ⟨_, (), some_eq hj1, trivial, trivial, [], rfl⟩
  · rintro _ _ hst
    subst hst
    replace hm1 := on_go hm1
    refine k_norm (L' := []) (ms' := []) rfl rfl ?_
    refine g_seq ?_
    refine g_region ?_
    refine go_p rfl rfl rfl (o_assign rfl) ?_
    refine go_nil ?_
    refine g_ret ?_
    exact retK (ret_one' rfl (ret_tmp rfl) (perm_drop _)) (congrArg (fun (p : Bool) => (.bool p : D)) (some_eq hm1))

def m_syntagmaref03_Keywords  : Option (List (List UInt8)) :=
  some [([102, 117, 110] : List UInt8), ([108, 101, 116] : List UInt8), ([114, 101, 99] : List UInt8), ([105, 110] : List UInt8), ([105, 102] : List UInt8), ([116, 104, 101, 110] : List UInt8), ([101, 108, 115, 101] : List UInt8), ([99, 97, 115, 101] : List UInt8), ([111, 102] : List UInt8), ([101, 110, 100] : List UInt8), ([116, 114, 117, 101] : List UInt8), ([102, 97, 108, 115, 101] : List UInt8), ([99, 104, 101, 99, 107] : List UInt8), ([97, 115, 107] : List UInt8), ([116, 111, 112] : List UInt8), ([98, 111, 116] : List UInt8), ([105, 110, 116] : List UInt8), ([98, 111, 111, 108] : List UInt8), ([115, 116, 114, 105, 110, 103] : List UInt8), ([109, 117] : List UInt8)]
theorem w_syntagmaref03_Keywords  {r : (List (List UInt8))} (hm : m_syntagmaref03_Keywords = some r) : Fn0 Try.prog 159 [] (.list 1 D.str r) := by
  unfold m_syntagmaref03_Keywords at hm
  refine fn_intro Try.func159 rfl Try.ntmps159 rfl fun H0 fr w0 => ?_
  refine g_seq ?_
  refine g_region ?_
  refine go_p rfl rfl rfl (o_assign rfl) ?_
  refine go_conv (nilE (i := 0) (sz := 1) (f := D.str) rfl).refines ?_
  refine go_nil ?_
  refine g_seq ?_
  refine g_region ?_
  refine go_p rfl rfl rfl (o_buildSlice (xs := [_, _, _, _, _, _, _, _, _, _, _, _, _, _, _, _, _, _, _, _]) (f := D.str) (l := [_, _, _, _, _, _, _, _, _, _, _, _, _, _, _, _, _, _, _, _]) Try.runUnderlying23 Try.sizeOf9 Try.zeroValue9 rfl rfl rfl (fun _ => ⟨rfl, rfl, rfl⟩) rfl) ?_
  refine go_p rfl rfl rfl (o_assign rfl) ?_
  refine go_nil ?_
  refine g_ret ?_
  exact retK (ret_one' rfl (ret_tmp rfl) (perm_drop _)) (congrArg (fun (p : (List (List UInt8))) => (.list 1 D.str p : D)) (some_eq hm))

def m_syntagmaref03_Keyword (s1 : (List UInt8)) : Option Bool :=
  (m_syntagmaref03_Keywords).bind fun x1 =>
  (m_syntagmaref03_In s1 x1).bind fun x2 =>
  some x2
theorem w_syntagmaref03_Keyword {s1 : (List UInt8)} {r : Bool} (hm : m_syntagmaref03_Keyword s1 = some r) : Fn0 Try.prog 127 [.str s1] (.bool r) := by
  unfold m_syntagmaref03_Keyword at hm
  refine fn_intro Try.func127 rfl Try.ntmps127 rfl fun H0 fr w0 => ?_
  refine g_seq ?_
  refine g_region ?_
  refine go_p rfl rfl rfl (o_assign rfl) ?_
  refine go_nil ?_
  refine g_seq ?_
  refine g_region ?_
  refine go_p rfl rfl rfl (o_move rfl) ?_
  obtain ⟨x1, hx1, hm⟩ := bind_some hm
  refine go_p rfl rfl rfl (o_call0 Try.call159 rfl (w_syntagmaref03_Keywords hx1)) ?_
  obtain ⟨x2, hx2, hm⟩ := bind_some hm
  refine go_p rfl rfl rfl (o_call0 Try.call158 rfl (w_syntagmaref03_In hx2)) ?_
  refine go_p rfl rfl rfl (o_assign rfl) ?_
  refine go_nil ?_
  refine g_ret ?_
  exact retK (ret_one' rfl (ret_tmp rfl) (perm_drop _)) (congrArg (fun (p : Bool) => (.bool p : D)) (some_eq hm))

def m_syntagmaref03_Name (s1 : (List UInt8)) : Option Bool :=
  (bif ((decide (0 < (s1.length : Int))) && (decide ((s1.length : Int) ≤ 20))) then ((m_syntagmaref03_Word s1).bind fun x1 =>
  some (decide (x1 = (s1.length : Int)))) else (some false)).bind fun p1 =>
  (bif p1 then ((idx s1 0).bind fun c1 =>
  (m_syntagmaref03_small c1).bind fun x2 =>
  some x2) else (some false)).bind fun p2 =>
  (bif p2 then ((m_syntagmaref03_Keyword s1).bind fun x3 =>
  some (!x3)) else (some false)).bind fun p3 =>
  some p3
theorem w_syntagmaref03_Name {s1 : (List UInt8)} {r : Bool} (hm : m_syntagmaref03_Name s1 = some r) : Fn0 Try.prog 130 [.str s1] (.bool r) := by
  unfold m_syntagmaref03_Name at hm
  refine fn_intro Try.func130 rfl Try.ntmps130 rfl fun H0 fr w0 => ?_
  refine g_seq ?_
  refine g_region ?_
  refine go_p rfl rfl rfl (o_assign rfl) ?_
  refine go_nil ?_
  refine g_seq ?_
  refine g_region ?_
  refine go_p rfl rfl rfl (o_move rfl) ?_
  refine go_p rfl rfl rfl (o_len_str Try.runUnderlying9 rfl) ?_
  refine go_p rfl rfl rfl (o_cmp rfl rfl rfl) ?_
  refine go_p rfl rfl rfl (o_move rfl) ?_
  apply go_and [(0, _)] 4 10 (t := 6) ⟨rfl, trivial⟩ rfl
  · intro hg_1 hk1
    refine go_wantp rfl rfl rfl hg_1 rfl rfl (o_move rfl) ?_
    refine go_wantp rfl rfl rfl hg_1 rfl rfl (o_len_str Try.runUnderlying9 rfl) ?_
    refine go_wantp rfl rfl rfl hg_1 rfl rfl (o_cmp rfl rfl rfl) ?_
    refine go_p rfl rfl rfl (o_pickT rfl hg_1 rfl) ?_
    exact go_meet hk1 (rfl) ⟨rfl, trivial⟩
  · intro hg_1 hk1
    refine go_skip rfl rfl rfl hg_1 rfl rfl ?_
    refine go_skip rfl rfl rfl hg_1 rfl rfl ?_
    refine go_skip rfl rfl rfl hg_1 rfl rfl ?_
    refine go_p rfl rfl rfl (o_pickF rfl hg_1 rfl) ?_
    exact go_meet hk1 (rfl) ⟨rfl, trivial⟩
  refine go_p rfl rfl rfl (o_move rfl) ?_
  obtain ⟨p1, hp_2, hm⟩ := bind_some hm
  refine go_two [(0, _)] 6 17 p1 (t := 11) ⟨rfl, trivial⟩ rfl (fun hg_2 hk2 => ?_) (fun hg_2 hk2 => ?_) ?_
  · replace hp_2 := cond_t hg_2 hp_2
    refine go_wantp rfl rfl rfl hg_2 rfl rfl (o_move rfl) ?_
    obtain ⟨x1, hx1, hp_2⟩ := bind_some hp_2
    refine go_wantp rfl rfl rfl hg_2 rfl rfl (o_call0 Try.call126 rfl (w_syntagmaref03_Word hx1)) ?_
    refine go_wantp rfl rfl rfl hg_2 rfl rfl (o_move rfl) ?_
    refine go_wantp rfl rfl rfl hg_2 rfl rfl (o_len_str Try.runUnderlying9 rfl) ?_
    refine go_wantp rfl rfl rfl hg_2 rfl rfl (o_cmp rfl rfl rfl) ?_
    refine go_p rfl rfl rfl (o_pickT rfl hg_2 rfl) ?_
    exact go_meet hk2 (congrArg (fun b => some (D.bool b)) (some_eq hp_2)) ⟨rfl, trivial⟩
  · replace hp_2 := cond_f hg_2 hp_2
    refine go_skip rfl rfl rfl hg_2 rfl rfl ?_
    refine go_skip rfl rfl rfl hg_2 rfl rfl ?_
    refine go_skip rfl rfl rfl hg_2 rfl rfl ?_
    refine go_skip rfl rfl rfl hg_2 rfl rfl ?_
    refine go_skip rfl rfl rfl hg_2 rfl rfl ?_
    refine go_p rfl rfl rfl (o_pickF rfl hg_2 rfl) ?_
    exact go_meet hk2 (congrArg (fun b => some (D.bool b)) (some_eq hp_2)) ⟨rfl, trivial⟩
  refine go_p rfl rfl rfl (o_move rfl) ?_
  obtain ⟨p2, hp_3, hm⟩ := bind_some hm
  refine go_two [(0, _)] 4 22 p2 (t := 18) ⟨rfl, trivial⟩ rfl (fun hg_3 hk3 => ?_) (fun hg_3 hk3 => ?_) ?_
  · replace hp_3 := cond_t hg_3 hp_3
    refine go_wantp rfl rfl rfl hg_3 rfl rfl (o_move rfl) ?_
    obtain ⟨c1, hx2, hp_3⟩ := bind_some hp_3
    refine go_wantp rfl rfl rfl hg_3 rfl rfl (o_index_m Try.runUnderlying9 rfl rfl hx2) ?_
    obtain ⟨x2, hx3, hp_3⟩ := bind_some hp_3
    refine go_wantp rfl rfl rfl hg_3 rfl rfl (o_call0 Try.call156 rfl (w_syntagmaref03_small hx3)) ?_
    refine go_p rfl rfl rfl (o_pickT rfl hg_3 rfl) ?_
    exact go_meet hk3 (congrArg (fun b => some (D.bool b)) (some_eq hp_3)) ⟨rfl, trivial⟩
  · replace hp_3 := cond_f hg_3 hp_3
    refine go_skip rfl rfl rfl hg_3 rfl rfl ?_
    refine go_skip rfl rfl rfl hg_3 rfl rfl ?_
    refine go_skip rfl rfl rfl hg_3 rfl rfl ?_
    refine go_p rfl rfl rfl (o_pickF rfl hg_3 rfl) ?_
    exact go_meet hk3 (congrArg (fun b => some (D.bool b)) (some_eq hp_3)) ⟨rfl, trivial⟩
  refine go_p rfl rfl rfl (o_move rfl) ?_
  obtain ⟨p3, hp_4, hm⟩ := bind_some hm
  refine go_two [] 4 27 p3 (t := 23) trivial rfl (fun hg_4 hk4 => ?_) (fun hg_4 hk4 => ?_) ?_
  · replace hp_4 := cond_t hg_4 hp_4
    refine go_wantp rfl rfl rfl hg_4 rfl rfl (o_move rfl) ?_
    obtain ⟨x3, hx4, hp_4⟩ := bind_some hp_4
    refine go_wantp rfl rfl rfl hg_4 rfl rfl (o_call0 Try.call127 rfl (w_syntagmaref03_Keyword hx4)) ?_
    refine go_wantp rfl rfl rfl hg_4 rfl rfl (o_not rfl) ?_
    refine go_p rfl rfl rfl (o_pickT rfl hg_4 rfl) ?_
    exact go_meet hk4 (congrArg (fun b => some (D.bool b)) (some_eq hp_4)) trivial
  · replace hp_4 := cond_f hg_4 hp_4
    refine go_skip rfl rfl rfl hg_4 rfl rfl ?_
    refine go_skip rfl rfl rfl hg_4 rfl rfl ?_
    refine go_skip rfl rfl rfl hg_4 rfl rfl ?_
    refine go_p rfl rfl rfl (o_pickF rfl hg_4 rfl) ?_
    exact go_meet hk4 (congrArg (fun b => some (D.bool b)) (some_eq hp_4)) trivial
  refine go_p rfl rfl rfl (o_assign rfl) ?_
  refine go_nil ?_
  refine g_ret ?_
  exact retK (ret_one' rfl (ret_tmp rfl) (perm_drop _)) (congrArg (fun (p : Bool) => (.bool p : D)) (some_eq hm))

def m_syntagmaref03_Tag (s1 : (List UInt8)) : Option Bool :=
  (bif ((decide (0 < (s1.length : Int))) && (decide ((s1.length : Int) ≤ 20))) then ((m_syntagmaref03_Word s1).bind fun x1 =>
  some (decide (x1 = (s1.length : Int)))) else (some false)).bind fun p1 =>
  (bif p1 then ((idx s1 0).bind fun c1 =>
  (m_syntagmaref03_great c1).bind fun x2 =>
  some x2) else (some false)).bind fun p2 =>
  some p2
theorem w_syntagmaref03_Tag {s1 : (List UInt8)} {r : Bool} (hm : m_syntagmaref03_Tag s1 = some r) : Fn0 Try.prog 131 [.str s1] (.bool r) := by
  unfold m_syntagmaref03_Tag at hm
  refine fn_intro Try.func131 rfl Try.ntmps131 rfl fun H0 fr w0 => ?_
  refine g_seq ?_
  refine g_region ?_
  refine go_p rfl rfl rfl (o_assign rfl) ?_
  refine go_nil ?_
  refine g_seq ?_
  refine g_region ?_
  refine go_p rfl rfl rfl (o_move rfl) ?_
  refine go_p rfl rfl rfl (o_len_str Try.runUnderlying9 rfl) ?_
  refine go_p rfl rfl rfl (o_cmp rfl rfl rfl) ?_
  refine go_p rfl rfl rfl (o_move rfl) ?_
  apply go_and [(0, _)] 4 10 (t := 6) ⟨rfl, trivial⟩ rfl
  · intro hg_1 hk1
    refine go_wantp rfl rfl rfl hg_1 rfl rfl (o_move rfl) ?_
    refine go_wantp rfl rfl rfl hg_1 rfl rfl (o_len_str Try.runUnderlying9 rfl) ?_
    refine go_wantp rfl rfl rfl hg_1 rfl rfl (o_cmp rfl rfl rfl) ?_
    refine go_p rfl rfl rfl (o_pickT rfl hg_1 rfl) ?_
    exact go_meet hk1 (rfl) ⟨rfl, trivial⟩
  · intro hg_1 hk1
    refine go_skip rfl rfl rfl hg_1 rfl rfl ?_
    refine go_skip rfl rfl rfl hg_1 rfl rfl ?_
    refine go_skip rfl rfl rfl hg_1 rfl rfl ?_
    refine go_p rfl rfl rfl (o_pickF rfl hg_1 rfl) ?_
    exact go_meet hk1 (rfl) ⟨rfl, trivial⟩
  refine go_p rfl rfl rfl (o_move rfl) ?_
  obtain ⟨p1, hp_2, hm⟩ := bind_some hm
  refine go_two [(0, _)] 6 17 p1 (t := 11) ⟨rfl, trivial⟩ rfl (fun hg_2 hk2 => ?_) (fun hg_2 hk2 => ?_) ?_
  · replace hp_2 := cond_t hg_2 hp_2
    refine go_wantp rfl rfl rfl hg_2 rfl rfl (o_move rfl) ?_
    obtain ⟨x1, hx1, hp_2⟩ := bind_some hp_2
    refine go_wantp rfl rfl rfl hg_2 rfl rfl (o_call0 Try.call126 rfl (w_syntagmaref03_Word hx1)) ?_
    refine go_wantp rfl rfl rfl hg_2 rfl rfl (o_move rfl) ?_
    refine go_wantp rfl rfl rfl hg_2 rfl rfl (o_len_str Try.runUnderlying9 rfl) ?_
    refine go_wantp rfl rfl rfl hg_2 rfl rfl (o_cmp rfl rfl rfl) ?_
    refine go_p rfl rfl rfl (o_pickT rfl hg_2 rfl) ?_
    exact go_meet hk2 (congrArg (fun b => some (D.bool b)) (some_eq hp_2)) ⟨rfl, trivial⟩
  · replace hp_2 := cond_f hg_2 hp_2
    refine go_skip rfl rfl rfl hg_2 rfl rfl ?_
    refine go_skip rfl rfl rfl hg_2 rfl rfl ?_
    refine go_skip rfl rfl rfl hg_2 rfl rfl ?_
    refine go_skip rfl rfl rfl hg_2 rfl rfl ?_
    refine go_skip rfl rfl rfl hg_2 rfl rfl ?_
    refine go_p rfl rfl rfl (o_pickF rfl hg_2 rfl) ?_
    exact go_meet hk2 (congrArg (fun b => some (D.bool b)) (some_eq hp_2)) ⟨rfl, trivial⟩
  refine go_p rfl rfl rfl (o_move rfl) ?_
  obtain ⟨p2, hp_3, hm⟩ := bind_some hm
  refine go_two [] 4 22 p2 (t := 18) trivial rfl (fun hg_3 hk3 => ?_) (fun hg_3 hk3 => ?_) ?_
  · replace hp_3 := cond_t hg_3 hp_3
    refine go_wantp rfl rfl rfl hg_3 rfl rfl (o_move rfl) ?_
    obtain ⟨c1, hx2, hp_3⟩ := bind_some hp_3
    refine go_wantp rfl rfl rfl hg_3 rfl rfl (o_index_m Try.runUnderlying9 rfl rfl hx2) ?_
    obtain ⟨x2, hx3, hp_3⟩ := bind_some hp_3
    refine go_wantp rfl rfl rfl hg_3 rfl rfl (o_call0 Try.call157 rfl (w_syntagmaref03_great hx3)) ?_
    refine go_p rfl rfl rfl (o_pickT rfl hg_3 rfl) ?_
    exact go_meet hk3 (congrArg (fun b => some (D.bool b)) (some_eq hp_3)) trivial
  · replace hp_3 := cond_f hg_3 hp_3
    refine go_skip rfl rfl rfl hg_3 rfl rfl ?_
    refine go_skip rfl rfl rfl hg_3 rfl rfl ?_
    refine go_skip rfl rfl rfl hg_3 rfl rfl ?_
    refine go_p rfl rfl rfl (o_pickF rfl hg_3 rfl) ?_
    exact go_meet hk3 (congrArg (fun b => some (D.bool b)) (some_eq hp_3)) trivial
  refine go_p rfl rfl rfl (o_assign rfl) ?_
  refine go_nil ?_
  refine g_ret ?_
  exact retK (ret_one' rfl (ret_tmp rfl) (perm_drop _)) (congrArg (fun (p : Bool) => (.bool p : D)) (some_eq hm))

def m_syntagmaref24_edges_l1 (l1 : (List AutoEdge)) (tags1 : Bool) : Nat → Int → Option (Out Bool Unit)
  | 0, _ => none
  | n + 1, i1 =>
    bif (decide (i1 < (l1.length : Int))) then
      (idx l1 i1).bind fun x1 =>
      (bif (!tags1) then ((m_syntagmaref03_Name x1.name).bind fun x2 =>
      some (!x2)) else (some false)).bind fun p1 =>
      (bif p1 then (some true) else ((bif tags1 then ((m_syntagmaref03_Tag x1.name).bind fun x3 =>
      some (!x3)) else (some false)).bind fun p3 =>
      some p3)).bind fun p2 =>
      (bif p2 then (some true) else ((bif (decide (0 < i1)) then (grd (InR (i1 - 1)) <|
      (idx l1 (i1 - 1)).bind fun x4 =>
      some (!Op.bytesLess x4.name x1.name)) else (some false)).bind fun p5 =>
      some p5)).bind fun p4 =>
      bif p4 then
        some (Out.ret false)
      else
        grd (InR (i1 + 1)) <|
        m_syntagmaref24_edges_l1 l1 tags1 n (i1 + 1)
    else
      some (Out.go (()))
def m_syntagmaref24_edges (l1 : (List AutoEdge)) (tags1 : Bool) : Option Bool :=
  ((m_syntagmaref24_edges_l1 l1 tags1 FU 0 : Option (Out Bool Unit))).bind (fun oo => oo.on (fun r1 => some r1) (fun _ =>
  some (decide ((l1.length : Int) ≤ 30))))
theorem w_syntagmaref24_edges {l1 : (List AutoEdge)} {tags1 : Bool} {r : Bool} (hm : m_syntagmaref24_edges l1 tags1 = some r) : Fn0 Try.prog 116 [.list 2 AutoEdge.d l1, .bool tags1] (.bool r) := by
  unfold m_syntagmaref24_edges at hm
  refine fn_intro Try.func116 rfl Try.ntmps116 rfl fun H0 fr w0 => ?_
  refine g_seq ?_
  refine g_region ?_
  refine go_p rfl rfl rfl (o_assign rfl) ?_
  refine go_nil ?_
  refine g_seq ?_
  refine g_seq ?_
  refine g_region ?_
  refine go_p rfl rfl rfl (o_assign rfl) ?_
  refine go_nil ?_
  obtain ⟨o_1, hj1, hm1⟩ := bind_some hm
  refine g_cut_m [(0, _)] [] (fun (st : Unit) (hid : Unit) => match st, hid with | _, _ => []) (fun F (st : Unit) (hid : Unit) => match st, hid with | _, _ => []) (fun st => Out.go (st) = o_1) ⟨rfl, trivial⟩ trivial ?_ ?_
  · skip
    refine g_block ?_
    refine g_loop_m [(0, _), (1, _)] [] (fun (st : Int) (hid : Unit) => match st, hid with | i1, _ => [(5, .i64 i1)]) (fun F (st : Int) (hid : Unit) => match st, hid with | i1, _ => []) () hj1 (fun _ => rfl) ⟨rfl, rfl, trivial⟩ trivial ⟨rfl, trivial⟩ rfl ?_
    rintro n i1 _ hj1
    rw [m_syntagmaref24_edges_l1] at hj1
    refine g_norm (L' := [(5, .i64 i1), (0, _), (1, _)]) (ms' := []) rfl rfl ?_
    refine g_seq ?_
    refine g_seq ?_
    refine g_region ?_
    refine go_p rfl rfl rfl (o_move rfl) ?_
    refine go_p rfl rfl rfl (o_move rfl) ?_
    refine go_p rfl rfl rfl (o_len Try.runUnderlying91 rfl) ?_
    refine go_p rfl rfl rfl (o_cmp rfl rfl rfl) ?_
    refine go_nil ?_
    refine g_cond rfl (fun hc1 => ?_) (fun hc1 => ?_)
    · replace hj1 := cond_t hc1 hj1
      refine g_skip ?_
      refine g_seq ?_
      refine g_block ?_
      refine g_seq ?_
      refine g_region ?_
      refine go_p rfl rfl rfl (o_move rfl) ?_
      refine go_p rfl rfl rfl (o_move rfl) ?_
      obtain ⟨x1, hx1, hj1⟩ := bind_some hj1
      refine go_p rfl rfl rfl (o_indexAddr_m Try.runUnderlying91 Try.sizeOf144 rfl rfl hx1) ?_
      refine go_p rfl rfl rfl (o_fieldAddr fi_144_0 rfl rfl rfl) ?_
      refine go_p rfl rfl rfl (o_load Try.isAgg9 rfl rfl) ?_
      refine go_p rfl rfl rfl (o_assign rfl) ?_
      refine go_nil ?_
      refine g_seq ?_
      refine g_region ?_
      refine go_p rfl rfl rfl (o_move rfl) ?_
      refine go_p rfl rfl rfl (o_not rfl) ?_
      refine go_p rfl rfl rfl (o_move rfl) ?_
      obtain ⟨p1, hp_1, hj1⟩ := bind_some hj1
      refine go_two [(0, _), (1, _), (5, _), (6, _)] 4 24 p1 (t := 20) ⟨rfl, rfl, rfl, rfl, trivial⟩ rfl (fun hg_1 hk1 => ?_) (fun hg_1 hk1 => ?_) ?_
      · replace hp_1 := cond_t hg_1 hp_1
        refine go_wantp rfl rfl rfl hg_1 rfl rfl (o_move rfl) ?_
        obtain ⟨x2, hx2, hp_1⟩ := bind_some hp_1
        refine go_wantp rfl rfl rfl hg_1 rfl rfl (o_call0 Try.call130 rfl (w_syntagmaref03_Name hx2)) ?_
        refine go_wantp rfl rfl rfl hg_1 rfl rfl (o_not rfl) ?_
        refine go_p rfl rfl rfl (o_pickT rfl hg_1 rfl) ?_
        exact go_meet hk1 (congrArg (fun b => some (D.bool b)) (some_eq hp_1)) ⟨rfl, rfl, rfl, rfl, trivial⟩
      · replace hp_1 := cond_f hg_1 hp_1
        refine go_skip rfl rfl rfl hg_1 rfl rfl ?_
        refine go_skip rfl rfl rfl hg_1 rfl rfl ?_
        refine go_skip rfl rfl rfl hg_1 rfl rfl ?_
        refine go_p rfl rfl rfl (o_pickF rfl hg_1 rfl) ?_
        exact go_meet hk1 (congrArg (fun b => some (D.bool b)) (some_eq hp_1)) ⟨rfl, rfl, rfl, rfl, trivial⟩
      refine go_p rfl rfl rfl (o_move rfl) ?_
      obtain ⟨p2, hp_2, hj1⟩ := bind_some hj1
      refine go_two [(0, _), (1, _), (5, _), (6, _)] 7 32 p2 (t := 25) ⟨rfl, rfl, rfl, rfl, trivial⟩ rfl (fun hg_2 hk2 => ?_) (fun hg_2 hk2 => ?_) ?_
      · replace hp_2 := cond_t hg_2 hp_2
        refine go_skip rfl rfl rfl hg_2 rfl rfl ?_
        refine go_skip rfl rfl rfl hg_2 rfl rfl ?_
        refine go_skipu rfl rfl rfl rfl rfl ?_
        refine go_skipu rfl rfl rfl rfl rfl ?_
        refine go_skipu rfl rfl rfl rfl rfl ?_
        refine go_skip rfl rfl rfl hg_2 rfl rfl ?_
        refine go_p rfl rfl rfl (o_pickT rfl hg_2 rfl) ?_
        exact go_meet hk2 (congrArg (fun b => some (D.bool b)) (some_eq hp_2)) ⟨rfl, rfl, rfl, rfl, trivial⟩
      · replace hp_2 := cond_f hg_2 hp_2
        refine go_wantp rfl rfl rfl hg_2 rfl rfl (o_move rfl) ?_
        refine go_wantp rfl rfl rfl hg_2 rfl rfl (o_move rfl) ?_
        obtain ⟨p3, hp_3, hp_2⟩ := bind_some hp_2
        refine go_two [(0, _), (1, _), (5, _), (6, _), (25, _)] 4 31 p3 (t := 27) ⟨rfl, rfl, rfl, rfl, rfl, trivial⟩ rfl (fun hg_3 hk3 => ?_) (fun hg_3 hk3 => ?_) ?_
        · replace hp_3 := cond_t hg_3 hp_3
          refine go_wantp rfl rfl rfl hg_3 rfl rfl (o_move rfl) ?_
          obtain ⟨x3, hx3, hp_3⟩ := bind_some hp_3
          refine go_wantp rfl rfl rfl hg_3 rfl rfl (o_call0 Try.call131 rfl (w_syntagmaref03_Tag hx3)) ?_
          refine go_wantp rfl rfl rfl hg_3 rfl rfl (o_not rfl) ?_
          refine go_wantp rfl rfl rfl hg_2 rfl rfl (o_pickT rfl hg_3 rfl) ?_
          exact go_meet hk3 (congrArg (fun b => some (D.bool b)) (some_eq hp_3)) ⟨rfl, rfl, rfl, rfl, rfl, trivial⟩
        · replace hp_3 := cond_f hg_3 hp_3
          refine go_skip rfl rfl rfl hg_3 rfl rfl ?_
          refine go_skip rfl rfl rfl hg_3 rfl rfl ?_
          refine go_skip rfl rfl rfl hg_3 rfl rfl ?_
          refine go_wantp rfl rfl rfl hg_2 rfl rfl (o_pickF rfl hg_3 rfl) ?_
          exact go_meet hk3 (congrArg (fun b => some (D.bool b)) (some_eq hp_3)) ⟨rfl, rfl, rfl, rfl, rfl, trivial⟩
        refine go_p rfl rfl rfl (o_pickF rfl hg_2 rfl) ?_
        exact go_meet hk2 (congrArg (fun b => some (D.bool b)) (some_eq hp_2)) ⟨rfl, rfl, rfl, rfl, trivial⟩
      refine go_p rfl rfl rfl (o_move rfl) ?_
      obtain ⟨p4, hp_4, hj1⟩ := bind_some hj1
      refine go_two [(0, _), (1, _), (5, _)] 13 46 p4 (t := 33) ⟨rfl, rfl, rfl, trivial⟩ rfl (fun hg_4 hk4 => ?_) (fun hg_4 hk4 => ?_) ?_
      · replace hp_4 := cond_t hg_4 hp_4
        refine go_skip rfl rfl rfl hg_4 rfl rfl ?_
        refine go_skip rfl rfl rfl hg_4 rfl rfl ?_
        refine go_skip rfl rfl rfl hg_4 rfl rfl ?_
        refine go_skipu rfl rfl rfl rfl rfl ?_
        refine go_skipu rfl rfl rfl rfl rfl ?_
        refine go_skipu rfl rfl rfl rfl rfl ?_
        refine go_skipu rfl rfl rfl rfl rfl ?_
        refine go_skipu rfl rfl rfl rfl rfl ?_
        refine go_skipu rfl rfl rfl rfl rfl ?_
        refine go_skipu rfl rfl rfl rfl rfl ?_
        refine go_skipu rfl rfl rfl rfl rfl ?_
        refine go_skip rfl rfl rfl hg_4 rfl rfl ?_
        refine go_p rfl rfl rfl (o_pickT rfl hg_4 rfl) ?_
        exact go_meet hk4 (congrArg (fun b => some (D.bool b)) (some_eq hp_4)) ⟨rfl, rfl, rfl, trivial⟩
      · replace hp_4 := cond_f hg_4 hp_4
        refine go_wantp rfl rfl rfl hg_4 rfl rfl (o_move rfl) ?_
        refine go_wantp rfl rfl rfl hg_4 rfl rfl (o_cmp rfl rfl rfl) ?_
        refine go_wantp rfl rfl rfl hg_4 rfl rfl (o_move rfl) ?_
        obtain ⟨p5, hp_5, hp_4⟩ := bind_some hp_4
        refine go_two [(0, _), (1, _), (5, _), (33, _)] 9 45 p5 (t := 36) ⟨rfl, rfl, rfl, rfl, trivial⟩ rfl (fun hg_5 hk5 => ?_) (fun hg_5 hk5 => ?_) ?_
        · replace hp_5 := cond_t hg_5 hp_5
          refine go_wantp rfl rfl rfl hg_5 rfl rfl (o_move rfl) ?_
          refine go_wantp rfl rfl rfl hg_5 rfl rfl (o_move rfl) ?_
          obtain ⟨hg4, hp_5⟩ := grd_some hp_5
          refine go_wantp rfl rfl rfl hg_5 rfl rfl (o_sub rfl rfl (i64_id hg4)) ?_
          obtain ⟨x4, hx5, hp_5⟩ := bind_some hp_5
          refine go_wantp rfl rfl rfl hg_5 rfl rfl (o_indexAddr_m Try.runUnderlying91 Try.sizeOf144 rfl rfl hx5) ?_
          refine go_wantp rfl rfl rfl hg_5 rfl rfl (o_fieldAddr fi_144_0 rfl rfl rfl) ?_
          refine go_wantp rfl rfl rfl hg_5 rfl rfl (o_load Try.isAgg9 rfl rfl) ?_
          refine go_wantp rfl rfl rfl hg_5 rfl rfl (o_move rfl) ?_
          refine go_wantp rfl rfl rfl hg_5 rfl rfl (o_cmps rfl rfl rfl) ?_
          refine go_wantp rfl rfl rfl hg_4 rfl rfl (o_pickT rfl hg_5 rfl) ?_
          exact go_meet hk5 (congrArg (fun b => some (D.bool b)) (some_eq hp_5)) ⟨rfl, rfl, rfl, rfl, trivial⟩
        · replace hp_5 := cond_f hg_5 hp_5
          refine go_skip rfl rfl rfl hg_5 rfl rfl ?_
          refine go_skip rfl rfl rfl hg_5 rfl rfl ?_
          refine go_skip rfl rfl rfl hg_5 rfl rfl ?_
          refine go_skip rfl rfl rfl hg_5 rfl rfl ?_
          refine go_skip rfl rfl rfl hg_5 rfl rfl ?_
          refine go_skip rfl rfl rfl hg_5 rfl rfl ?_
          refine go_skip rfl rfl rfl hg_5 rfl rfl ?_
          refine go_skip rfl rfl rfl hg_5 rfl rfl ?_
          refine go_wantp rfl rfl rfl hg_4 rfl rfl (o_pickF rfl hg_5 rfl) ?_
          exact go_meet hk5 (congrArg (fun b => some (D.bool b)) (some_eq hp_5)) ⟨rfl, rfl, rfl, rfl, trivial⟩
        refine go_p rfl rfl rfl (o_pickF rfl hg_4 rfl) ?_
        exact go_meet hk4 (congrArg (fun b => some (D.bool b)) (some_eq hp_4)) ⟨rfl, rfl, rfl, trivial⟩
      refine go_nil ?_
      refine g_cond rfl (fun hc2 => ?_) (fun hc2 => ?_)
      · replace hj1 := cond_t hc2 hj1
        refine g_seq ?_
        refine g_region ?_
        refine go_p rfl rfl rfl (o_assign rfl) ?_
        refine go_nil ?_
        refine g_ret ?_
        obtain rfl := some_eq hj1
        replace hm1 := on_ret hm1
        exact retK (ret_one' rfl (ret_tmp rfl) (perm_drop _)) (congrArg (fun (p : Bool) => (.bool p : D)) (some_eq hm1))
      · replace hj1 := cond_f hc2 hj1
        refine g_skip ?_
        refine g_region ?_
        refine go_p rfl rfl rfl (o_move rfl) ?_
        obtain ⟨hg6, hj1⟩ := grd_some hj1
        refine go_p rfl rfl rfl (o_add rfl rfl (i64_id hg6)) ?_
        refine go_p rfl rfl rfl (o_assign rfl) ?_
        refine go_nil ?_
        exact ⟨_, (), hj1, ⟨rfl, trivial⟩, ⟨rfl, rfl, trivial⟩, [], rfl⟩
    · replace hj1 := cond_f hc1 hj1
      refine g_exit ?_
      exact ⟨_, (), some_eq hj1, trivial, ⟨rfl, trivial⟩, [], rfl⟩
  · rintro _ _ hst
    subst hst
    replace hm1 := on_go hm1
    refine k_norm (L' := [(0, _)]) (ms' := []) rfl rfl ?_
    refine g_seq ?_
    refine g_region ?_
    refine go_p rfl rfl rfl (o_move rfl) ?_
    refine go_p rfl rfl rfl (o_len Try.runUnderlying91 rfl) ?_
    refine go_p rfl rfl rfl (o_cmp rfl rfl rfl) ?_
    refine go_p rfl rfl rfl (o_assign rfl) ?_
    refine go_nil ?_
    refine g_ret ?_
    exact retK (ret_one' rfl (ret_tmp rfl) (perm_drop _)) (congrArg (fun (p : Bool) => (.bool p : D)) (some_eq hm1))

def m_syntagmaref24_right_l1 (s1 : AutoState) : Nat → Int → Option (Out Bool Unit)
  | 0, _ => none
  | n + 1, i1 =>
    bif (decide (i1 < (s1.vars.length : Int))) then
      (idx s1.vars i1).bind fun x1 =>
      bif (decide (x1 < 0)) then (some (Out.ret false)) else ((idx s1.vars i1).bind fun x2 =>
      bif (decide (999 < x2)) then (some (Out.ret false)) else (bif (decide (0 < i1)) then (grd (InR (i1 - 1)) <|
      (idx s1.vars (i1 - 1)).bind fun x3 =>
      (idx s1.vars i1).bind fun x4 =>
      bif (decide (x4 ≤ x3)) then
        some (Out.ret false)
      else
        grd (InR (i1 + 1)) <|
        m_syntagmaref24_right_l1 s1 n (i1 + 1)) else (grd (InR (i1 + 1)) <|
      m_syntagmaref24_right_l1 s1 n (i1 + 1))))
    else
      some (Out.go (()))

def m_syntagmaref24_right_l2 (a1 : AutoAuto) (s1 : AutoState) (x5 : (List Int)) : Nat → Int → Option (Out Bool Unit)
  | 0, _ => none
  | n + 1, i2 =>
    bif (decide (i2 < (x5.length : Int))) then
      (idx x5 i2).bind fun x6 =>
      bif (decide (x6 < 0)) then (some (Out.ret false)) else ((idx x5 i2).bind fun x7 =>
      bif (decide ((a1.l.length : Int) ≤ x7)) then
        some (Out.ret false)
      else
        (idx x5 i2).bind fun x8 =>
        (idx a1.l x8).bind fun x9 =>
        bif ((x9.plus == s1.plus) == (s1.arrow && (decide (i2 = 0)))) then
          some (Out.ret false)
        else
          grd (InR (i2 + 1)) <|
          m_syntagmaref24_right_l2 a1 s1 x5 n (i2 + 1))
    else
      some (Out.go (()))
end Go.Proofs.Ytfcifodaohhcbaa
