/- Part 2 of the proof: a program logic, what the functions compute, and what these answer; no condition. -/
import Derived.Test.Ytafphfokopkhdaap1
import Derived.Test.YtafphfokopkhdaaProg
set_option linter.unusedVariables false
set_option linter.unusedSimpArgs false
set_option maxRecDepth 100000
set_option maxHeartbeats 2000000
namespace Go.Proofs.Ytafphfokopkhdaa
open Go.V
theorem Try_mixed : Try.prog.follows .mixedOrders = true := by kernel_rfl
structure ApiTField where
  name : (List UInt8)
  at_ : Int
def ApiTField.d (x : ApiTField) : D := .agg [.str x.name, .i64 x.at_]
structure ApiTNode where
  kind : Int
  a : Int
  b : Int
  l : (List ApiTField)
def ApiTNode.d (x : ApiTNode) : D := .agg [.i64 x.kind, .i64 x.a, .i64 x.b, .list 2 ApiTField.d x.l]
structure AutoEdge where
  name : (List UInt8)
  to_ : Int
def AutoEdge.d (x : AutoEdge) : D := .agg [.str x.name, .i64 x.to_]
theorem pl_110 : ∀ fs, (∀ w, (underlying 110).run Try.prog w = .ok (.struct fs) w) → placesOf Try.prog fs [(0, 1), (1, 1)] := by
  intro fs h w
  have := (h w).symm.trans (Try.runUnderlying110 w)
  simp only [Result.ok.injEq, TypeDesc.struct.injEq, and_true] at this
  subst this
  simp [Try.sizeOf108, Try.sizeOf28, Sem.run]
structure QueueQueueInt where
  first : (Nat × List Int)
  more : (List Int)
def m_qi_New (room1 : Int)  : Option QueueQueueInt :=
  grd (0 ≤ (if 64 < (if 0 > room1 then 0 else room1) then 64 else (if 0 > room1 then 0 else room1))) <|
  grd ((if 64 < (if 0 > room1 then 0 else room1) then 64 else (if 0 > room1 then 0 else room1)) ≤ 9223372036854775807) <|
  grd ((8 : Int) * (if 64 < (if 0 > room1 then 0 else room1) then 64 else (if 0 > room1 then 0 else room1)) ≤ 281474976710544) <|
  some (⟨(((if 64 < (if 0 > room1 then 0 else room1) then 64 else (if 0 > room1 then 0 else room1))).toNat, ([] : List Int)), ([] : List Int)⟩ : QueueQueueInt)
theorem w_qi_New {room1 : Int}  {s_1 : QueueQueueInt} (hm : m_qi_New room1 = some s_1) : Go.V.Fn Try.prog 12 [.i64 room1] [] (fun d ms' => ∃ b_s_1 c_s_1c0 a_s_1c1 cap_s_1c1, d = .v (.pointer (some ⟨b_s_1, 0, none⟩)) ∧ ms' = [box b_s_1 110 [.v (.chan (some c_s_1c0)), .v (.slice a_s_1c1 s_1.more.length cap_s_1c1)], chn c_s_1c0 s_1.first.1 D.i64 s_1.first.2, que a_s_1c1 cap_s_1c1 3 1 D.i64 s_1.more]) := by
  unfold m_qi_New at hm
  refine fn_intro Try.func12 rfl Try.ntmps12 rfl fun H0 fr w0 => ?_
  refine g_seq ?_
  refine g_region ?_
  refine go_p rfl rfl rfl (o_assign rfl) ?_
  refine go_nil ?_
  refine g_seq ?_
  refine g_region ?_
  refine go_p rfl rfl rfl (o_move rfl) ?_
  refine go_p rfl rfl rfl (o_max rfl rfl) ?_
  refine go_p rfl rfl rfl (o_min rfl rfl) ?_
  obtain ⟨hg1, hm⟩ := grd_some hm
  obtain ⟨hg2, hm⟩ := grd_some hm
  obtain ⟨hg3, hm⟩ := grd_some hm
  refine go_op rfl rfl rfl (o_makeChan (f := D.i64) Try.underlying108 Try.type3 rfl hg1 hg2 hg3) ?_
  rintro _ _ ⟨c_r1, rfl, rfl⟩
  refine go_p rfl rfl rfl (o_build (zs := [.v (.chan none), .v (.slice none 0 0)]) Try.runUnderlying110 Try.zeroValue110 (pl_110 _ Try.runUnderlying110) rfl rfl rfl rfl) ?_
  refine go_op rfl rfl rfl (o_box_own rfl rfl rfl) ?_
  rintro _ _ ⟨b1, rfl, rfl⟩
  refine go_conv (refines_newrow (T := 3) (sz := 1) (f := D.i64)) ?_
  refine go_p rfl rfl rfl (o_assign rfl) ?_
  refine go_nil ?_
  refine g_conv (refines_que 0 rfl rfl) ?_
  refine g_ret ?_
  obtain rfl := some_eq hm
  exact retK (ret_one' rfl (ret_tmp rfl) (permA 1 rfl (permA 1 rfl (permA 0 rfl permN)))) ⟨_, _, _, _, rfl, rfl⟩
theorem fi_110_1 : FieldIs Try.prog 110 1 1 1 false := ⟨⟨_, _, Try.runUnderlying110, rfl, rfl, Try.sizeOf28, by decide, Try.isAgg28⟩⟩
theorem fi_110_0 : FieldIs Try.prog 110 0 0 1 false := ⟨⟨_, _, Try.runUnderlying110, rfl, rfl, Try.sizeOf108, by decide, Try.isAgg108⟩⟩
def m_qi_fill_l1  : Nat → ((Nat × List Int) × (List Int)) → Option QueueQueueInt
  | 0, _ => none
  | n + 1, (ch1, l1) =>
    bif (decide (0 < (l1.length : Int))) then
      (idx l1 0).bind fun x1 =>
      bif (decide (ch1.1 ≤ ch1.2.length)) then
        some (⟨ch1, l1⟩ : QueueQueueInt)
      else
        (sli l1 1 (l1.length : Int)).bind fun l2 =>
        m_qi_fill_l1 n ((ch1.1, (ch1.2 ++ [x1])), l2)
    else
      some (⟨ch1, l1⟩ : QueueQueueInt)
def m_qi_fill (q1 : QueueQueueInt)  : Option QueueQueueInt :=
  m_qi_fill_l1 FU (q1.first, q1.more)
theorem w_qi_fill {q1 : QueueQueueInt}  {s_1 : QueueQueueInt} {b_q0 : Nat} {c_q0c0 : Nat} {a_q0c1 : Option Addr} {cap_q0c1 : Nat} (hm : m_qi_fill q1 = some s_1) : Go.V.Fn Try.prog 69 [.v (.pointer (some ⟨b_q0, 0, none⟩))] [box b_q0 110 [.v (.chan (some c_q0c0)), .v (.slice a_q0c1 q1.more.length cap_q0c1)], chn c_q0c0 q1.first.1 D.i64 q1.first.2, que a_q0c1 cap_q0c1 3 1 D.i64 q1.more] (fun d ms' => ∃ c_s_1c0 a_s_1c1 cap_s_1c1, d = .tup [] ∧ ms' = [box b_q0 110 [.v (.chan (some c_s_1c0)), .v (.slice a_s_1c1 s_1.more.length cap_s_1c1)], chn c_s_1c0 s_1.first.1 D.i64 s_1.first.2, que a_s_1c1 cap_s_1c1 3 1 D.i64 s_1.more]) := by
  unfold m_qi_fill at hm
  refine fn_intro Try.func69 rfl Try.ntmps69 rfl fun H0 fr w0 => ?_
  refine g_block ?_
  refine g_loop_m [(0, _)] [] (fun (st : ((Nat × List Int) × (List Int))) (hid : Nat × (Option Addr × Nat)) => match st, hid with | (ch1, l1), (c_q0c0, (a_q0c1, cap_q0c1)) => []) (fun F (st : ((Nat × List Int) × (List Int))) (hid : Nat × (Option Addr × Nat)) => match st, hid with | (ch1, l1), (c_q0c0, (a_q0c1, cap_q0c1)) => [box b_q0 110 [.v (.chan (some c_q0c0)), .v (.slice a_q0c1 l1.length cap_q0c1)], chn c_q0c0 ch1.1 D.i64 ch1.2, que a_q0c1 cap_q0c1 3 1 D.i64 l1]) (_, (_, _)) hm (fun _ => rfl) ⟨rfl, trivial⟩ trivial trivial rfl ?_
  rintro n ⟨ch1, l1⟩ ⟨c_q0c0, ⟨a_q0c1, cap_q0c1⟩⟩ hm
  rw [m_qi_fill_l1] at hm
  refine g_norm (L' := [(0, _)]) (ms' := [box b_q0 110 [.v (.chan (some c_q0c0)), .v (.slice a_q0c1 l1.length cap_q0c1)], chn c_q0c0 ch1.1 D.i64 ch1.2, que a_q0c1 cap_q0c1 3 1 D.i64 l1]) rfl rfl ?_
  refine g_seq ?_
  refine g_seq ?_
  refine g_region ?_
  refine go_p rfl rfl rfl (o_move rfl) ?_
  refine go_p rfl rfl rfl (o_nilCheck_box rfl) ?_
  refine go_p rfl rfl rfl (o_fieldAddr_box fi_110_1 rfl) ?_
  refine go_p rfl rfl rfl (o_load_box 0 Try.isAgg28 rfl rfl rfl rfl) ?_
  refine go_p rfl rfl rfl (.view (peekQ (i := 5) 2 rfl rfl rfl) (o_len Try.runUnderlying28 rfl)) ?_
  refine go_p rfl rfl rfl (o_cmp rfl rfl rfl) ?_
  refine go_nil ?_
  refine g_cond rfl (fun hc1 => ?_) (fun hc1 => ?_)
  · replace hm := cond_t hc1 hm
    refine g_skip ?_
    refine g_block ?_
    refine g_seq ?_
    refine g_seq ?_
    refine g_region ?_
    refine go_p rfl rfl rfl (o_move rfl) ?_
    refine go_p rfl rfl rfl (o_nilCheck_box rfl) ?_
    refine go_p rfl rfl rfl (o_fieldAddr_box fi_110_0 rfl) ?_
    refine go_p rfl rfl rfl (o_load_box 0 Try.isAgg108 rfl rfl rfl rfl) ?_
    refine go_nil ?_
    refine g_region ?_
    refine go_p rfl rfl rfl (o_move rfl) ?_
    refine go_p rfl rfl rfl (o_nilCheck_box rfl) ?_
    refine go_p rfl rfl rfl (o_fieldAddr_box fi_110_1 rfl) ?_
    refine go_p rfl rfl rfl (o_load_box 0 Try.isAgg28 rfl rfl rfl rfl) ?_
    obtain ⟨x1, hx1, hm⟩ := bind_some hm
    refine go_p rfl rfl rfl (.view (peekQ (i := 15) 2 rfl rfl rfl) (o_indexAddr_m Try.runUnderlying28 Try.sizeOf3 rfl rfl hx1)) ?_
    refine go_p rfl rfl rfl (o_load Try.isAgg3 rfl rfl) ?_
    refine go_nil ?_
    refine g_seq ?_
    rcases cond_split hm with ⟨hc2, hm⟩ | ⟨hc2, hm⟩
    · skip
      refine g_selp rfl rfl (s_send_full (q := x1) 1 Try.zeroValue3 rfl rfl rfl hc2) (fun _ _ => rfl) ?_
      refine go_ms (ms' := [box b_q0 110 [_, _], _, _]) rfl ?_
      refine go_p rfl rfl rfl (o_extract rfl rfl) ?_
      refine go_p rfl rfl rfl (o_cmp rfl rfl rfl) ?_
      refine go_nil ?_
      refine g_block ?_
      refine g_cond_false rfl rfl ?_
      refine g_ret ?_
      obtain rfl := some_eq hm
      exact retK (ret_none rfl (permA 0 rfl (permA 0 rfl (permA 0 rfl permN)))) ⟨_, _, _, rfl, rfl⟩
    · skip
      refine g_selp rfl rfl (s_send_room (q := x1) 1 Try.zeroValue3 rfl rfl rfl hc2) (fun _ _ => rfl) ?_
      refine go_ms (ms' := [box b_q0 110 [_, _], _, _]) rfl ?_
      refine go_p rfl rfl rfl (o_extract rfl rfl) ?_
      refine go_p rfl rfl rfl (o_cmp rfl rfl rfl) ?_
      refine go_nil ?_
      refine g_block ?_
      refine g_cond_true rfl rfl ?_
      refine g_region ?_
      refine go_p rfl rfl rfl (o_move rfl) ?_
      refine go_p rfl rfl rfl (o_move rfl) ?_
      refine go_p rfl rfl rfl (o_nilCheck_box rfl) ?_
      refine go_p rfl rfl rfl (o_fieldAddr_box fi_110_1 rfl) ?_
      refine go_p rfl rfl rfl (o_load_box 0 Try.isAgg28 rfl rfl rfl rfl) ?_
      obtain ⟨l2, hx2, hm⟩ := bind_some hm
      refine go_op rfl rfl rfl (o_slice_que 2 Try.runUnderlying28 Try.sizeOf3 rfl rfl rfl rfl hx2) ?_
      rintro _ _ ⟨a_q0c1, cap_q0c1, rfl, rfl⟩
      refine go_p rfl rfl rfl (o_nilCheck_box rfl) ?_
      refine go_p rfl rfl rfl (o_fieldAddr_box fi_110_1 rfl) ?_
      refine go_u rfl rfl (o_store_box 0 Try.sizeOf28 rfl rfl rfl rfl rfl rfl rfl rfl (Nat.le_of_ble_eq_true rfl)) ?_
      rintro _ _ rfl
      refine go_ms (ms' := [box b_q0 110 [_, _], _, _]) rfl ?_
      refine go_nil ?_
      exact ⟨_, (_, (_, _)), hm, trivial, ⟨rfl, trivial⟩, [], rfl⟩
  · replace hm := cond_f hc1 hm
    refine g_exit ?_
    obtain rfl := some_eq hm
    exact retKn (ret_none rfl (permA 0 rfl (permA 0 rfl (permA 0 rfl permN)))) ⟨_, _, _, rfl, rfl⟩
def m_qi_Push (q1 : QueueQueueInt) (l1 : (List Int))  : Option QueueQueueInt :=
  grd ((q1.more.length + l1.length) * 8 ≤ 140737488355328) <|
  (m_qi_fill (⟨q1.first, (q1.more ++ l1)⟩ : QueueQueueInt)).bind fun s1 =>
  some (⟨s1.first, s1.more⟩ : QueueQueueInt)
theorem w_qi_Push {q1 : QueueQueueInt} {l1 : (List Int)}  {s_1 : QueueQueueInt} {b_q0 : Nat} {c_q0c0 : Nat} {a_q0c1 : Option Addr} {cap_q0c1 : Nat} (hm : m_qi_Push q1 l1 = some s_1) : Go.V.Fn Try.prog 20 [.v (.pointer (some ⟨b_q0, 0, none⟩)), .list 1 D.i64 l1] [box b_q0 110 [.v (.chan (some c_q0c0)), .v (.slice a_q0c1 q1.more.length cap_q0c1)], chn c_q0c0 q1.first.1 D.i64 q1.first.2, que a_q0c1 cap_q0c1 3 1 D.i64 q1.more] (fun d ms' => ∃ c_s_1c0 a_s_1c1 cap_s_1c1, d = .tup [] ∧ ms' = [box b_q0 110 [.v (.chan (some c_s_1c0)), .v (.slice a_s_1c1 s_1.more.length cap_s_1c1)], chn c_s_1c0 s_1.first.1 D.i64 s_1.first.2, que a_s_1c1 cap_s_1c1 3 1 D.i64 s_1.more]) := by
  unfold m_qi_Push at hm
  refine fn_intro Try.func20 rfl Try.ntmps20 rfl fun H0 fr w0 => ?_
  refine g_seq ?_
  refine g_seq ?_
  refine g_region ?_
  refine go_p rfl rfl rfl (o_move rfl) ?_
  refine go_p rfl rfl rfl (o_eqnil Try.runUnderlying23 rfl nilP_ptr rfl) ?_
  refine go_nil ?_
  refine g_cond_false rfl rfl ?_
  refine g_skip ?_
  refine g_seq ?_
  refine g_region ?_
  refine go_p rfl rfl rfl (o_move rfl) ?_
  refine go_p rfl rfl rfl (o_move rfl) ?_
  refine go_p rfl rfl rfl (o_nilCheck_box rfl) ?_
  refine go_p rfl rfl rfl (o_fieldAddr_box fi_110_1 rfl) ?_
  refine go_p rfl rfl rfl (o_load_box 0 Try.isAgg28 rfl rfl rfl rfl) ?_
  refine go_p rfl rfl rfl (o_move rfl) ?_
  obtain ⟨hg1, hm⟩ := grd_some hm
  refine go_op rfl rfl rfl (o_append_que (a := _) 2 Try.underlying28 Try.type3 rfl rfl rfl rfl rfl rfl rfl (fun _ => rfl) (fun _ => rfl) hg1 (app_len hg1 rfl)) ?_
  rintro _ _ ⟨a_q0c1, cap_q0c1, rfl, rfl⟩
  refine go_ms (ms' := [box b_q0 110 [_, _], _, _]) rfl ?_
  refine go_p rfl rfl rfl (o_nilCheck_box rfl) ?_
  refine go_p rfl rfl rfl (o_fieldAddr_box fi_110_1 rfl) ?_
  refine go_u rfl rfl (o_store_box 0 Try.sizeOf28 rfl rfl rfl rfl rfl rfl rfl rfl (Nat.le_of_ble_eq_true rfl)) ?_
  rintro _ _ rfl
  refine go_ms (ms' := [box b_q0 110 [_, _], _, _]) rfl ?_
  refine go_nil ?_
  refine g_region ?_
  refine go_p rfl rfl rfl (o_move rfl) ?_
  obtain ⟨s1, hx2, hm⟩ := bind_some hm
  refine go_op rfl rfl rfl (o_call_own [0, 1, 2] Try.call69 rfl rfl (getL_c rfl (getL_c rfl (getL_c rfl getL_n))) (w_qi_fill hx2) (by rintro _ _ ⟨_, _, _, rfl, rfl⟩; rfl)) ?_
  rintro _ _ ⟨_, ⟨c_q0c0, a_q0c1, cap_q0c1, rfl, rfl⟩, rfl⟩
  refine go_ms (ms' := [box b_q0 110 [_, _], _, _]) rfl ?_
  refine go_nil ?_
  obtain rfl := some_eq hm
  exact retKn (ret_none rfl (permA 0 rfl (permA 0 rfl (permA 0 rfl permN)))) ⟨_, _, _, rfl, rfl⟩
def m_qi_PushN (l1 : (List Int))  : Option Unit :=
  some ()
theorem w_qi_PushN {l1 : (List Int)}   (hm : m_qi_PushN l1 = some ()) : Fn0 Try.prog 20 [.v (.pointer none), .list 1 D.i64 l1] (.tup []) := by
  unfold m_qi_PushN at hm
  refine fn_intro Try.func20 rfl Try.ntmps20 rfl fun H0 fr w0 => ?_
  refine g_seq ?_
  refine g_seq ?_
  refine g_region ?_
  refine go_p rfl rfl rfl (o_move rfl) ?_
  refine go_p rfl rfl rfl (o_eqnil Try.runUnderlying23 rfl nilP_nil rfl) ?_
  refine go_nil ?_
  refine g_cond_true rfl rfl ?_
  refine g_ret ?_
  exact retK (ret_none rfl (perm_drop _)) (congrArg (fun (p : Unit) => D.tup []) (some_eq hm))
def m_qi_Pop (q1 : QueueQueueInt)  : Option (Int × Bool × QueueQueueInt) :=
  bif q1.first.2.isEmpty then
    bif (decide ((q1.more.length : Int) = 0)) then
      some (0, false, (⟨q1.first, q1.more⟩ : QueueQueueInt))
    else
      (idx q1.more 0).bind fun x1 =>
      (sli q1.more 1 (q1.more.length : Int)).bind fun l1 =>
      some (x1, true, (⟨q1.first, l1⟩ : QueueQueueInt))
  else
    (idx q1.first.2 0).bind fun x2 =>
    (sli q1.first.2 1 (q1.first.2.length : Int)).bind fun l2 =>
    (m_qi_fill (⟨(q1.first.1, l2), q1.more⟩ : QueueQueueInt)).bind fun s1 =>
    some (x2, true, (⟨s1.first, s1.more⟩ : QueueQueueInt))
theorem w_qi_Pop {q1 : QueueQueueInt}  {r_1 : Int} {r_2 : Bool} {s_1 : QueueQueueInt} {b_q0 : Nat} {c_q0c0 : Nat} {a_q0c1 : Option Addr} {cap_q0c1 : Nat} (hm : m_qi_Pop q1 = some (r_1, r_2, s_1)) : Go.V.Fn Try.prog 16 [.v (.pointer (some ⟨b_q0, 0, none⟩))] [box b_q0 110 [.v (.chan (some c_q0c0)), .v (.slice a_q0c1 q1.more.length cap_q0c1)], chn c_q0c0 q1.first.1 D.i64 q1.first.2, que a_q0c1 cap_q0c1 3 1 D.i64 q1.more] (fun d ms' => ∃ c_s_1c0 a_s_1c1 cap_s_1c1, d = .tup [.i64 r_1, .bool r_2] ∧ ms' = [box b_q0 110 [.v (.chan (some c_s_1c0)), .v (.slice a_s_1c1 s_1.more.length cap_s_1c1)], chn c_s_1c0 s_1.first.1 D.i64 s_1.first.2, que a_s_1c1 cap_s_1c1 3 1 D.i64 s_1.more]) := by
  unfold m_qi_Pop at hm
  refine fn_intro Try.func16 rfl Try.ntmps16 rfl fun H0 fr w0 => ?_
  refine g_seq ?_
  refine g_region ?_
  refine go_p rfl rfl rfl (o_assign rfl) ?_
  refine go_p rfl rfl rfl (o_assign rfl) ?_
  refine go_nil ?_
  refine g_seq ?_
  refine g_region ?_
  refine go_p rfl rfl rfl (o_assign rfl) ?_
  refine go_nil ?_
  refine g_seq ?_
  refine g_seq ?_
  refine g_region ?_
  refine go_p rfl rfl rfl (o_move rfl) ?_
  refine go_p rfl rfl rfl (o_eqnil Try.runUnderlying23 rfl nilP_ptr rfl) ?_
  refine go_nil ?_
  refine g_cond_false rfl rfl ?_
  refine g_skip ?_
  refine g_seq ?_
  refine g_seq ?_
  refine g_region ?_
  refine go_p rfl rfl rfl (o_move rfl) ?_
  refine go_p rfl rfl rfl (o_nilCheck_box rfl) ?_
  refine go_p rfl rfl rfl (o_fieldAddr_box fi_110_0 rfl) ?_
  refine go_p rfl rfl rfl (o_load_box 0 Try.isAgg108 rfl rfl rfl rfl) ?_
  refine go_nil ?_
  refine g_seq ?_
  rcases cond_split hm with ⟨hc1, hm⟩ | ⟨hc1, hm⟩
  · skip
    refine g_selp rfl rfl (s_recv_none 1 Try.zeroValue3 rfl rfl hc1) (fun _ _ => rfl) ?_
    refine go_ms (ms' := [box b_q0 110 [_, _], _, _]) rfl ?_
    refine go_p rfl rfl rfl (o_extract rfl rfl) ?_
    refine go_p rfl rfl rfl (o_cmp rfl rfl rfl) ?_
    refine go_nil ?_
    refine g_block ?_
    refine g_cond_false rfl rfl ?_
    refine g_skip ?_
    refine g_seq ?_
    refine g_seq ?_
    refine g_region ?_
    refine go_p rfl rfl rfl (o_move rfl) ?_
    refine go_p rfl rfl rfl (o_nilCheck_box rfl) ?_
    refine go_p rfl rfl rfl (o_fieldAddr_box fi_110_1 rfl) ?_
    refine go_p rfl rfl rfl (o_load_box 0 Try.isAgg28 rfl rfl rfl rfl) ?_
    refine go_p rfl rfl rfl (.view (peekQ (i := 24) 2 rfl rfl rfl) (o_len Try.runUnderlying28 rfl)) ?_
    refine go_p rfl rfl rfl (o_cmp rfl rfl rfl) ?_
    refine go_nil ?_
    refine g_cond rfl (fun hc2 => ?_) (fun hc2 => ?_)
    · replace hm := cond_t hc2 hm
      refine g_seq ?_
      refine g_region ?_
      refine go_p rfl rfl rfl (o_move rfl) ?_
      refine go_p rfl rfl rfl (o_assign rfl) ?_
      refine go_p rfl rfl rfl (o_assign rfl) ?_
      refine go_nil ?_
      refine g_ret ?_
      have hq1 := some_eq hm
      obtain ⟨rfl, hq2⟩ := Prod.mk.inj hq1
      obtain ⟨rfl, rfl⟩ := Prod.mk.inj hq2
      exact retK (ret_many (ds := [_, _]) rfl (by decide) ⟨ret_tmp rfl, ⟨ret_tmp rfl, rfl⟩⟩ (permA 0 rfl (permA 0 rfl (permA 0 rfl permN)))) ⟨_, _, _, rfl, rfl⟩
    · replace hm := cond_f hc2 hm
      refine g_skip ?_
      refine g_seq ?_
      refine g_region ?_
      refine go_p rfl rfl rfl (o_move rfl) ?_
      refine go_p rfl rfl rfl (o_nilCheck_box rfl) ?_
      refine go_p rfl rfl rfl (o_fieldAddr_box fi_110_1 rfl) ?_
      refine go_p rfl rfl rfl (o_load_box 0 Try.isAgg28 rfl rfl rfl rfl) ?_
      obtain ⟨x1, hx1, hm⟩ := bind_some hm
      refine go_p rfl rfl rfl (.view (peekQ (i := 31) 2 rfl rfl rfl) (o_indexAddr_m Try.runUnderlying28 Try.sizeOf3 rfl rfl hx1)) ?_
      refine go_p rfl rfl rfl (o_load Try.isAgg3 rfl rfl) ?_
      refine go_p rfl rfl rfl (o_assign rfl) ?_
      refine go_nil ?_
      refine g_seq ?_
      refine g_region ?_
      refine go_p rfl rfl rfl (o_move rfl) ?_
      refine go_p rfl rfl rfl (o_move rfl) ?_
      refine go_p rfl rfl rfl (o_nilCheck_box rfl) ?_
      refine go_p rfl rfl rfl (o_fieldAddr_box fi_110_1 rfl) ?_
      refine go_p rfl rfl rfl (o_load_box 0 Try.isAgg28 rfl rfl rfl rfl) ?_
      obtain ⟨l1, hx2, hm⟩ := bind_some hm
      refine go_op rfl rfl rfl (o_slice_que 2 Try.runUnderlying28 Try.sizeOf3 rfl rfl rfl rfl hx2) ?_
      rintro _ _ ⟨a_q0c1, cap_q0c1, rfl, rfl⟩
      refine go_p rfl rfl rfl (o_nilCheck_box rfl) ?_
      refine go_p rfl rfl rfl (o_fieldAddr_box fi_110_1 rfl) ?_
      refine go_u rfl rfl (o_store_box 0 Try.sizeOf28 rfl rfl rfl rfl rfl rfl rfl rfl (Nat.le_of_ble_eq_true rfl)) ?_
      rintro _ _ rfl
      refine go_ms (ms' := [box b_q0 110 [_, _], _, _]) rfl ?_
      refine go_nil ?_
      refine g_seq ?_
      refine g_region ?_
      refine go_p rfl rfl rfl (o_move rfl) ?_
      refine go_p rfl rfl rfl (o_assign rfl) ?_
      refine go_p rfl rfl rfl (o_assign rfl) ?_
      refine go_nil ?_
      refine g_ret ?_
      have hq1 := some_eq hm
      obtain ⟨rfl, hq2⟩ := Prod.mk.inj hq1
      obtain ⟨rfl, rfl⟩ := Prod.mk.inj hq2
      exact retK (ret_many (ds := [_, _]) rfl (by decide) ⟨ret_tmp rfl, ⟨ret_tmp rfl, rfl⟩⟩ (permA 0 rfl (permA 0 rfl (permA 0 rfl permN)))) ⟨_, _, _, rfl, rfl⟩
  · skip
    obtain ⟨x2, hx3, hm⟩ := bind_some hm
    obtain ⟨l2, hx4, hm⟩ := bind_some hm
    refine g_selp rfl rfl (s_recv_some 1 Try.zeroValue3 rfl rfl hx3 hx4) (fun _ _ => rfl) ?_
    refine go_ms (ms' := [box b_q0 110 [_, _], _, _]) rfl ?_
    refine go_p rfl rfl rfl (o_extract rfl rfl) ?_
    refine go_p rfl rfl rfl (o_cmp rfl rfl rfl) ?_
    refine go_nil ?_
    refine g_block ?_
    refine g_cond_true rfl rfl ?_
    refine g_seq ?_
    refine g_region ?_
    refine go_p rfl rfl rfl (o_extract rfl rfl) ?_
    refine go_p rfl rfl rfl (o_assign rfl) ?_
    refine go_nil ?_
    refine g_seq ?_
    refine g_region ?_
    refine go_p rfl rfl rfl (o_move rfl) ?_
    obtain ⟨s1, hx5, hm⟩ := bind_some hm
    refine go_op rfl rfl rfl (o_call_own [0, 1, 2] Try.call69 rfl rfl (getL_c rfl (getL_c rfl (getL_c rfl getL_n))) (w_qi_fill hx5) (by rintro _ _ ⟨_, _, _, rfl, rfl⟩; rfl)) ?_
    rintro _ _ ⟨_, ⟨c_q0c0, a_q0c1, cap_q0c1, rfl, rfl⟩, rfl⟩
    refine go_ms (ms' := [box b_q0 110 [_, _], _, _]) rfl ?_
    refine go_nil ?_
    refine g_seq ?_
    refine g_region ?_
    refine go_p rfl rfl rfl (o_move rfl) ?_
    refine go_p rfl rfl rfl (o_assign rfl) ?_
    refine go_p rfl rfl rfl (o_assign rfl) ?_
    refine go_nil ?_
    refine g_ret ?_
    have hq1 := some_eq hm
    obtain ⟨rfl, hq2⟩ := Prod.mk.inj hq1
    obtain ⟨rfl, rfl⟩ := Prod.mk.inj hq2
    exact retK (ret_many (ds := [_, _]) rfl (by decide) ⟨ret_tmp rfl, ⟨ret_tmp rfl, rfl⟩⟩ (permA 0 rfl (permA 0 rfl (permA 0 rfl permN)))) ⟨_, _, _, rfl, rfl⟩
def m_qi_PopN   : Option (Int × Bool) :=
  some (0, false)
theorem w_qi_PopN   {r_1 : Int} {r_2 : Bool} (hm : m_qi_PopN = some (r_1, r_2)) : Fn0 Try.prog 16 [.v (.pointer none)] (.tup [.i64 r_1, .bool r_2]) := by
  unfold m_qi_PopN at hm
  refine fn_intro Try.func16 rfl Try.ntmps16 rfl fun H0 fr w0 => ?_
  refine g_seq ?_
  refine g_region ?_
  refine go_p rfl rfl rfl (o_assign rfl) ?_
  refine go_p rfl rfl rfl (o_assign rfl) ?_
  refine go_nil ?_
  refine g_seq ?_
  refine g_region ?_
  refine go_p rfl rfl rfl (o_assign rfl) ?_
  refine go_nil ?_
  refine g_seq ?_
  refine g_seq ?_
  refine g_region ?_
  refine go_p rfl rfl rfl (o_move rfl) ?_
  refine go_p rfl rfl rfl (o_eqnil Try.runUnderlying23 rfl nilP_nil rfl) ?_
  refine go_nil ?_
  refine g_cond_true rfl rfl ?_
  refine g_seq ?_
  refine g_region ?_
  refine go_p rfl rfl rfl (o_move rfl) ?_
  refine go_p rfl rfl rfl (o_assign rfl) ?_
  refine go_p rfl rfl rfl (o_assign rfl) ?_
  refine go_nil ?_
  refine g_ret ?_
  exact retK (ret_many (ds := [_, _]) rfl (by decide) ⟨ret_tmp rfl, ⟨ret_tmp rfl, rfl⟩⟩ (perm_drop _)) (congrArg (fun (p : (Int × Bool)) => D.tup [.i64 p.1, .bool p.2]) (some_eq hm))
def m_qi_Len (q1 : QueueQueueInt)  : Option Int :=
  grd (InR ((q1.first.2.length : Int) + (q1.more.length : Int))) <|
  some ((q1.first.2.length : Int) + (q1.more.length : Int))
theorem w_qi_Len {q1 : QueueQueueInt}  {r_1 : Int} {b_q0 : Nat} {c_q0c0 : Nat} {a_q0c1 : Option Addr} {cap_q0c1 : Nat} (hm : m_qi_Len q1 = some r_1) : Go.V.Fn Try.prog 21 [.v (.pointer (some ⟨b_q0, 0, none⟩))] [box b_q0 110 [.v (.chan (some c_q0c0)), .v (.slice a_q0c1 q1.more.length cap_q0c1)], chn c_q0c0 q1.first.1 D.i64 q1.first.2, que a_q0c1 cap_q0c1 3 1 D.i64 q1.more] (fun d ms' => d = .i64 r_1 ∧ ms' = [box b_q0 110 [.v (.chan (some c_q0c0)), .v (.slice a_q0c1 q1.more.length cap_q0c1)], chn c_q0c0 q1.first.1 D.i64 q1.first.2, que a_q0c1 cap_q0c1 3 1 D.i64 q1.more]) := by
  unfold m_qi_Len at hm
  refine fn_intro Try.func21 rfl Try.ntmps21 rfl fun H0 fr w0 => ?_
  refine g_seq ?_
  refine g_region ?_
  refine go_p rfl rfl rfl (o_assign rfl) ?_
  refine go_nil ?_
  refine g_seq ?_
  refine g_seq ?_
  refine g_region ?_
  refine go_p rfl rfl rfl (o_move rfl) ?_
  refine go_p rfl rfl rfl (o_eqnil Try.runUnderlying23 rfl nilP_ptr rfl) ?_
  refine go_nil ?_
  refine g_cond_false rfl rfl ?_
  refine g_skip ?_
  refine g_seq ?_
  obtain ⟨hg1, hm⟩ := grd_some hm
  refine g_draw 12 Try_mixed (by decide +kernel) ?_
  refine gd_p rfl rfl rfl (o_move rfl) ?_
  refine gd_p rfl rfl rfl (o_nilCheck_box rfl) ?_
  refine gd_p rfl rfl rfl (o_fieldAddr_box fi_110_0 rfl) ?_
  refine gd_p rfl rfl rfl (o_load_box 0 Try.isAgg108 rfl rfl rfl rfl) ?_
  refine gd_p rfl rfl rfl (o_len_chn 1 Try.underlying108 rfl rfl) ?_
  refine gd_p rfl rfl rfl (o_move rfl) ?_
  refine gd_p rfl rfl rfl (o_nilCheck_box rfl) ?_
  refine gd_p rfl rfl rfl (o_fieldAddr_box fi_110_1 rfl) ?_
  refine gd_p rfl rfl rfl (o_load_box 0 Try.isAgg28 rfl rfl rfl rfl) ?_
  refine gd_p rfl rfl rfl (.view (peekQ (i := 13) 2 rfl rfl rfl) (o_len Try.runUnderlying28 rfl)) ?_
  refine gd_p rfl rfl rfl (o_add rfl rfl (i64_id hg1)) ?_
  refine gd_p rfl rfl rfl (o_assign rfl) ?_
  refine gd_nil ?_
  refine go_nil ?_
  refine g_ret ?_
  obtain rfl := some_eq hm
  exact retK (ret_one' rfl (ret_tmp rfl) (permA 0 rfl (permA 0 rfl (permA 0 rfl permN)))) ⟨rfl, rfl⟩
def m_qi_LenN   : Option Int :=
  some 0
theorem w_qi_LenN   {r_1 : Int} (hm : m_qi_LenN = some r_1) : Fn0 Try.prog 21 [.v (.pointer none)] (.i64 r_1) := by
  unfold m_qi_LenN at hm
  refine fn_intro Try.func21 rfl Try.ntmps21 rfl fun H0 fr w0 => ?_
  refine g_seq ?_
  refine g_region ?_
  refine go_p rfl rfl rfl (o_assign rfl) ?_
  refine go_nil ?_
  refine g_seq ?_
  refine g_seq ?_
  refine g_region ?_
  refine go_p rfl rfl rfl (o_move rfl) ?_
  refine go_p rfl rfl rfl (o_eqnil Try.runUnderlying23 rfl nilP_nil rfl) ?_
  refine go_nil ?_
  refine g_cond_true rfl rfl ?_
  refine g_seq ?_
  refine g_region ?_
  refine go_p rfl rfl rfl (o_assign rfl) ?_
  refine go_nil ?_
  refine g_ret ?_
  exact retK (ret_one' rfl (ret_tmp rfl) (perm_drop _)) (congrArg (fun (p : Int) => (.i64 p : D)) (some_eq hm))
def m_qi_Room (q1 : QueueQueueInt)  : Option Int :=
  some (q1.first.1 : Int)
theorem w_qi_Room {q1 : QueueQueueInt}  {r_1 : Int} {b_q0 : Nat} {c_q0c0 : Nat} {a_q0c1 : Option Addr} {cap_q0c1 : Nat} (hm : m_qi_Room q1 = some r_1) : Go.V.Fn Try.prog 14 [.v (.pointer (some ⟨b_q0, 0, none⟩))] [box b_q0 110 [.v (.chan (some c_q0c0)), .v (.slice a_q0c1 q1.more.length cap_q0c1)], chn c_q0c0 q1.first.1 D.i64 q1.first.2, que a_q0c1 cap_q0c1 3 1 D.i64 q1.more] (fun d ms' => d = .i64 r_1 ∧ ms' = [box b_q0 110 [.v (.chan (some c_q0c0)), .v (.slice a_q0c1 q1.more.length cap_q0c1)], chn c_q0c0 q1.first.1 D.i64 q1.first.2, que a_q0c1 cap_q0c1 3 1 D.i64 q1.more]) := by
  unfold m_qi_Room at hm
  refine fn_intro Try.func14 rfl Try.ntmps14 rfl fun H0 fr w0 => ?_
  refine g_seq ?_
  refine g_region ?_
  refine go_p rfl rfl rfl (o_assign rfl) ?_
  refine go_nil ?_
  refine g_seq ?_
  refine g_seq ?_
  refine g_region ?_
  refine go_p rfl rfl rfl (o_move rfl) ?_
  refine go_p rfl rfl rfl (o_eqnil Try.runUnderlying23 rfl nilP_ptr rfl) ?_
  refine go_nil ?_
  refine g_cond_false rfl rfl ?_
  refine g_skip ?_
  refine g_seq ?_
  refine g_region ?_
  refine go_p rfl rfl rfl (o_move rfl) ?_
  refine go_p rfl rfl rfl (o_nilCheck_box rfl) ?_
  refine go_p rfl rfl rfl (o_fieldAddr_box fi_110_0 rfl) ?_
  refine go_p rfl rfl rfl (o_load_box 0 Try.isAgg108 rfl rfl rfl rfl) ?_
  refine go_p rfl rfl rfl (o_cap_chn 1 Try.underlying108 rfl rfl) ?_
  refine go_p rfl rfl rfl (o_assign rfl) ?_
  refine go_nil ?_
  refine g_ret ?_
  obtain rfl := some_eq hm
  exact retK (ret_one' rfl (ret_tmp rfl) (permA 0 rfl (permA 0 rfl (permA 0 rfl permN)))) ⟨rfl, rfl⟩
def m_qi_RoomN   : Option Int :=
  some 0
theorem w_qi_RoomN   {r_1 : Int} (hm : m_qi_RoomN = some r_1) : Fn0 Try.prog 14 [.v (.pointer none)] (.i64 r_1) := by
  unfold m_qi_RoomN at hm
  refine fn_intro Try.func14 rfl Try.ntmps14 rfl fun H0 fr w0 => ?_
  refine g_seq ?_
  refine g_region ?_
  refine go_p rfl rfl rfl (o_assign rfl) ?_
  refine go_nil ?_
  refine g_seq ?_
  refine g_seq ?_
  refine g_region ?_
  refine go_p rfl rfl rfl (o_move rfl) ?_
  refine go_p rfl rfl rfl (o_eqnil Try.runUnderlying23 rfl nilP_nil rfl) ?_
  refine go_nil ?_
  refine g_cond_true rfl rfl ?_
  refine g_seq ?_
  refine g_region ?_
  refine go_p rfl rfl rfl (o_assign rfl) ?_
  refine go_nil ?_
  refine g_ret ?_
  exact retK (ret_one' rfl (ret_tmp rfl) (perm_drop _)) (congrArg (fun (p : Int) => (.i64 p : D)) (some_eq hm))
def m_qi_Drain_l1  : Nat → ((List Int) × (Nat × List Int) × (List Int)) → Option ((List Int) × QueueQueueInt)
  | 0, _ => none
  | n + 1, (l1, ch1, l2) =>
    (m_qi_Pop (⟨ch1, l2⟩ : QueueQueueInt)).bind fun (x1, x2, s1) =>
    bif (!x2) then
      some (l1, (⟨s1.first, s1.more⟩ : QueueQueueInt))
    else
      grd ((l1.length + ([x1] : List _).length) * 8 ≤ 140737488355328) <|
      m_qi_Drain_l1 n ((l1 ++ [x1]), s1.first, s1.more)
def m_qi_Drain (q1 : QueueQueueInt)  : Option ((List Int) × QueueQueueInt) :=
  m_qi_Drain_l1 FU ([], q1.first, q1.more)
theorem w_qi_Drain {q1 : QueueQueueInt}  {r_1 : (List Int)} {s_1 : QueueQueueInt} {b_q0 : Nat} {c_q0c0 : Nat} {a_q0c1 : Option Addr} {cap_q0c1 : Nat} (hm : m_qi_Drain q1 = some (r_1, s_1)) : Go.V.Fn Try.prog 19 [.v (.pointer (some ⟨b_q0, 0, none⟩))] [box b_q0 110 [.v (.chan (some c_q0c0)), .v (.slice a_q0c1 q1.more.length cap_q0c1)], chn c_q0c0 q1.first.1 D.i64 q1.first.2, que a_q0c1 cap_q0c1 3 1 D.i64 q1.more] (fun d ms' => ∃ c_s_1c0 a_s_1c1 cap_s_1c1, d = .list 1 D.i64 r_1 ∧ ms' = [box b_q0 110 [.v (.chan (some c_s_1c0)), .v (.slice a_s_1c1 s_1.more.length cap_s_1c1)], chn c_s_1c0 s_1.first.1 D.i64 s_1.first.2, que a_s_1c1 cap_s_1c1 3 1 D.i64 s_1.more]) := by
  unfold m_qi_Drain at hm
  refine fn_intro Try.func19 rfl Try.ntmps19 rfl fun H0 fr w0 => ?_
  refine g_seq ?_
  refine g_region ?_
  refine go_p rfl rfl rfl (o_assign rfl) ?_
  refine go_conv (nilE (i := 2) (sz := 1) (f := D.i64) rfl).refines ?_
  refine go_nil ?_
  refine g_seq ?_
  refine g_region ?_
  refine go_p rfl rfl rfl (o_assign rfl) ?_
  refine go_conv (refines_newrow (T := 3) (sz := 1) (f := D.i64)) ?_
  refine go_nil ?_
  refine g_block ?_
  refine g_loop_m [(0, _)] [] (fun (st : ((List Int) × (Nat × List Int) × (List Int))) (hid : (Option Addr × Nat) × Nat × (Option Addr × Nat)) => match st, hid with | (l1, ch1, l2), ((a_r1, cap_r1), c_q0c0, (a_q0c1, cap_q0c1)) => [(3, .v (.slice a_r1 l1.length cap_r1))]) (fun F (st : ((List Int) × (Nat × List Int) × (List Int))) (hid : (Option Addr × Nat) × Nat × (Option Addr × Nat)) => match st, hid with | (l1, ch1, l2), ((a_r1, cap_r1), c_q0c0, (a_q0c1, cap_q0c1)) => [row a_r1 cap_r1 3 1 D.i64 l1, box b_q0 110 [.v (.chan (some c_q0c0)), .v (.slice a_q0c1 l2.length cap_q0c1)], chn c_q0c0 ch1.1 D.i64 ch1.2, que a_q0c1 cap_q0c1 3 1 D.i64 l2]) ((_, _), _, (_, _)) hm (fun _ => rfl) ⟨rfl, trivial⟩ trivial ⟨rfl, trivial⟩ rfl ?_
  rintro n ⟨l1, ch1, l2⟩ ⟨⟨a_r1, cap_r1⟩, c_q0c0, ⟨a_q0c1, cap_q0c1⟩⟩ hm
  rw [m_qi_Drain_l1] at hm
  refine g_norm (L' := [(3, .v (.slice a_r1 l1.length cap_r1)), (0, _)]) (ms' := [row a_r1 cap_r1 3 1 D.i64 l1, box b_q0 110 [.v (.chan (some c_q0c0)), .v (.slice a_q0c1 l2.length cap_q0c1)], chn c_q0c0 ch1.1 D.i64 ch1.2, que a_q0c1 cap_q0c1 3 1 D.i64 l2]) rfl rfl ?_
  refine g_block ?_
  refine g_seq ?_
  refine g_region ?_
  refine go_p rfl rfl rfl (o_move rfl) ?_
  obtain ⟨⟨x1, x2, s1⟩, hx1, hm⟩ := bind_some hm
  refine go_op rfl rfl rfl (o_call_own [1, 2, 3] Try.call16 rfl rfl (getL_c rfl (getL_c rfl (getL_c rfl getL_n))) (w_qi_Pop hx1) (by rintro _ _ ⟨_, _, _, rfl, rfl⟩; rfl)) ?_
  rintro _ _ ⟨_, ⟨c_q0c0, a_q0c1, cap_q0c1, rfl, rfl⟩, rfl⟩
  refine go_ms (ms' := [_, box b_q0 110 [_, _], _, _]) rfl ?_
  refine go_p rfl rfl rfl (o_move rfl) ?_
  refine go_p rfl rfl rfl (o_extract rfl rfl) ?_
  refine go_p rfl rfl rfl (o_extract rfl rfl) ?_
  refine go_p rfl rfl rfl (o_assign rfl) ?_
  refine go_p rfl rfl rfl (o_assign rfl) ?_
  refine go_nil ?_
  refine g_seq ?_
  refine g_seq ?_
  refine g_region ?_
  refine go_p rfl rfl rfl (o_move rfl) ?_
  refine go_p rfl rfl rfl (o_not rfl) ?_
  refine go_nil ?_
  refine g_cond rfl (fun hc1 => ?_) (fun hc1 => ?_)
  · replace hm := cond_t hc1 hm
    refine g_seq ?_
    refine g_region ?_
    refine go_p rfl rfl rfl (o_move rfl) ?_
    refine go_p rfl rfl rfl (o_assign rfl) ?_
    refine go_nil ?_
    refine g_conv (peekE (i := 2) 0 rfl rfl rfl).refines ?_
    refine g_ret ?_
    have hq1 := some_eq hm
    obtain ⟨rfl, rfl⟩ := Prod.mk.inj hq1
    exact retK (ret_one' rfl (ret_tmp rfl) (permA 1 rfl (permA 1 rfl (permA 1 rfl permN)))) ⟨_, _, _, rfl, rfl⟩
  · replace hm := cond_f hc1 hm
    refine g_skip ?_
    refine g_region ?_
    refine go_p rfl rfl rfl (o_move rfl) ?_
    refine go_p rfl rfl rfl (o_move rfl) ?_
    refine go_p rfl rfl rfl (o_buildSlice (xs := [_]) (f := D.i64) (l := [_]) Try.runUnderlying28 Try.sizeOf3 Try.zeroValue3 rfl rfl rfl (fun _ => ⟨rfl, rfl, rfl⟩) rfl) ?_
    obtain ⟨hg2, hm⟩ := grd_some hm
    refine go_op rfl rfl rfl (o_append (a := _) 0 Try.underlying28 Try.type3 rfl rfl rfl rfl rfl rfl rfl (fun _ => rfl) (fun _ => rfl) hg2 (app_len hg2 rfl)) ?_
    rintro _ _ ⟨a_r1, cap_r1, rfl, rfl⟩
    refine go_ms (ms' := [_, box b_q0 110 [_, _], _, _]) rfl ?_
    refine go_p rfl rfl rfl (o_assign rfl) ?_
    refine go_nil ?_
    exact ⟨_, ((_, _), _, (_, _)), hm, ⟨rfl, trivial⟩, ⟨rfl, trivial⟩, [], rfl⟩
def m_qi_DrainN_l1  : Nat → (List Int) → Option (List Int)
  | 0, _ => none
  | n + 1, l1 =>
    (m_qi_PopN).bind fun (x1, x2) =>
    bif (!x2) then
      some l1
    else
      grd ((l1.length + ([x1] : List _).length) * 8 ≤ 140737488355328) <|
      m_qi_DrainN_l1 n (l1 ++ [x1])
def m_qi_DrainN   : Option (List Int) :=
  m_qi_DrainN_l1 FU []
theorem w_qi_DrainN   {r_1 : (List Int)} (hm : m_qi_DrainN = some r_1) : Fn0 Try.prog 19 [.v (.pointer none)] (.list 1 D.i64 r_1) := by
  unfold m_qi_DrainN at hm
  refine fn_intro Try.func19 rfl Try.ntmps19 rfl fun H0 fr w0 => ?_
  refine g_seq ?_
  refine g_region ?_
  refine go_p rfl rfl rfl (o_assign rfl) ?_
  refine go_conv (nilE (i := 2) (sz := 1) (f := D.i64) rfl).refines ?_
  refine go_nil ?_
  refine g_seq ?_
  refine g_region ?_
  refine go_p rfl rfl rfl (o_assign rfl) ?_
  refine go_conv (refines_newrow (T := 3) (sz := 1) (f := D.i64)) ?_
  refine go_nil ?_
  refine g_block ?_
  refine g_loop_m [(0, _)] [] (fun (st : (List Int)) (hid : (Option Addr × Nat)) => match st, hid with | l1, (a_r1, cap_r1) => [(3, .v (.slice a_r1 l1.length cap_r1))]) (fun F (st : (List Int)) (hid : (Option Addr × Nat)) => match st, hid with | l1, (a_r1, cap_r1) => [row a_r1 cap_r1 3 1 D.i64 l1]) (_, _) hm (fun _ => rfl) ⟨rfl, trivial⟩ trivial ⟨rfl, trivial⟩ rfl ?_
  rintro n l1 ⟨a_r1, cap_r1⟩ hm
  rw [m_qi_DrainN_l1] at hm
  refine g_norm (L' := [(3, .v (.slice a_r1 l1.length cap_r1)), (0, _)]) (ms' := [row a_r1 cap_r1 3 1 D.i64 l1]) rfl rfl ?_
  refine g_block ?_
  refine g_seq ?_
  refine g_region ?_
  refine go_p rfl rfl rfl (o_move rfl) ?_
  obtain ⟨⟨x1, x2⟩, hx1, hm⟩ := bind_some hm
  refine go_p rfl rfl rfl (o_call0 Try.call16 rfl (w_qi_PopN hx1)) ?_
  refine go_p rfl rfl rfl (o_move rfl) ?_
  refine go_p rfl rfl rfl (o_extract rfl rfl) ?_
  refine go_p rfl rfl rfl (o_extract rfl rfl) ?_
  refine go_p rfl rfl rfl (o_assign rfl) ?_
  refine go_p rfl rfl rfl (o_assign rfl) ?_
  refine go_nil ?_
  refine g_seq ?_
  refine g_seq ?_
  refine g_region ?_
  refine go_p rfl rfl rfl (o_move rfl) ?_
  refine go_p rfl rfl rfl (o_not rfl) ?_
  refine go_nil ?_
  refine g_cond rfl (fun hc1 => ?_) (fun hc1 => ?_)
  · replace hm := cond_t hc1 hm
    refine g_seq ?_
    refine g_region ?_
    refine go_p rfl rfl rfl (o_move rfl) ?_
    refine go_p rfl rfl rfl (o_assign rfl) ?_
    refine go_nil ?_
    refine g_conv (peekE (i := 2) 0 rfl rfl rfl).refines ?_
    refine g_ret ?_
    exact retK (ret_one' rfl (ret_tmp rfl) (perm_drop _)) (congrArg (fun (p : (List Int)) => (.list 1 D.i64 p : D)) (some_eq hm))
  · replace hm := cond_f hc1 hm
    refine g_skip ?_
    refine g_region ?_
    refine go_p rfl rfl rfl (o_move rfl) ?_
    refine go_p rfl rfl rfl (o_move rfl) ?_
    refine go_p rfl rfl rfl (o_buildSlice (xs := [_]) (f := D.i64) (l := [_]) Try.runUnderlying28 Try.sizeOf3 Try.zeroValue3 rfl rfl rfl (fun _ => ⟨rfl, rfl, rfl⟩) rfl) ?_
    obtain ⟨hg2, hm⟩ := grd_some hm
    refine go_op rfl rfl rfl (o_append (a := _) 0 Try.underlying28 Try.type3 rfl rfl rfl rfl rfl rfl rfl (fun _ => rfl) (fun _ => rfl) hg2 (app_len hg2 rfl)) ?_
    rintro _ _ ⟨a_r1, cap_r1, rfl, rfl⟩
    refine go_ms (ms' := [_]) rfl ?_
    refine go_p rfl rfl rfl (o_assign rfl) ?_
    refine go_nil ?_
    exact ⟨_, (_, _), hm, ⟨rfl, trivial⟩, ⟨rfl, trivial⟩, [], rfl⟩
def m_qi_Either (a1 : QueueQueueInt) (b1 : QueueQueueInt)  : Option (Int × Bool × QueueQueueInt × QueueQueueInt) :=
  (m_qi_Pop (⟨a1.first, a1.more⟩ : QueueQueueInt)).bind fun (x1, x2, s1) =>
  bif x2 then
    some (x1, x2, (⟨s1.first, s1.more⟩ : QueueQueueInt), (⟨b1.first, b1.more⟩ : QueueQueueInt))
  else
    (m_qi_Pop (⟨b1.first, b1.more⟩ : QueueQueueInt)).bind fun (x3, x4, s2) =>
    some (x3, x4, (⟨s1.first, s1.more⟩ : QueueQueueInt), (⟨s2.first, s2.more⟩ : QueueQueueInt))
theorem w_qi_Either {a1 : QueueQueueInt} {b1 : QueueQueueInt}  {r_1 : Int} {r_2 : Bool} {s_1 : QueueQueueInt} {s_2 : QueueQueueInt} {b_q0 : Nat} {c_q0c0 : Nat} {a_q0c1 : Option Addr} {cap_q0c1 : Nat} {b_q1 : Nat} {c_q1c0 : Nat} {a_q1c1 : Option Addr} {cap_q1c1 : Nat} (hm : m_qi_Either a1 b1 = some (r_1, r_2, s_1, s_2)) : Go.V.Fn Try.prog 27 [.v (.pointer (some ⟨b_q0, 0, none⟩)), .v (.pointer (some ⟨b_q1, 0, none⟩))] [box b_q0 110 [.v (.chan (some c_q0c0)), .v (.slice a_q0c1 a1.more.length cap_q0c1)], chn c_q0c0 a1.first.1 D.i64 a1.first.2, que a_q0c1 cap_q0c1 3 1 D.i64 a1.more, box b_q1 110 [.v (.chan (some c_q1c0)), .v (.slice a_q1c1 b1.more.length cap_q1c1)], chn c_q1c0 b1.first.1 D.i64 b1.first.2, que a_q1c1 cap_q1c1 3 1 D.i64 b1.more] (fun d ms' => ∃ c_s_1c0 a_s_1c1 cap_s_1c1 c_s_2c0 a_s_2c1 cap_s_2c1, d = .tup [.i64 r_1, .bool r_2] ∧ ms' = [box b_q0 110 [.v (.chan (some c_s_1c0)), .v (.slice a_s_1c1 s_1.more.length cap_s_1c1)], chn c_s_1c0 s_1.first.1 D.i64 s_1.first.2, que a_s_1c1 cap_s_1c1 3 1 D.i64 s_1.more, box b_q1 110 [.v (.chan (some c_s_2c0)), .v (.slice a_s_2c1 s_2.more.length cap_s_2c1)], chn c_s_2c0 s_2.first.1 D.i64 s_2.first.2, que a_s_2c1 cap_s_2c1 3 1 D.i64 s_2.more]) := by
  unfold m_qi_Either at hm
  refine fn_intro Try.func27 rfl Try.ntmps27 rfl fun H0 fr w0 => ?_
  refine g_seq ?_
  refine g_region ?_
  refine go_p rfl rfl rfl (o_assign rfl) ?_
  refine go_p rfl rfl rfl (o_assign rfl) ?_
  refine go_nil ?_
  refine g_seq ?_
  refine g_seq ?_
  refine g_region ?_
  refine go_p rfl rfl rfl (o_move rfl) ?_
  obtain ⟨⟨x1, x2, s1⟩, hx1, hm⟩ := bind_some hm
  refine go_op rfl rfl rfl (o_call_own [0, 1, 2] Try.call16 rfl rfl (getL_c rfl (getL_c rfl (getL_c rfl getL_n))) (w_qi_Pop hx1) (by rintro _ _ ⟨_, _, _, rfl, rfl⟩; rfl)) ?_
  rintro _ _ ⟨_, ⟨c_q0c0, a_q0c1, cap_q0c1, rfl, rfl⟩, rfl⟩
  refine go_ms (ms' := [box b_q0 110 [_, _], _, _, box b_q1 110 [_, _], _, _]) rfl ?_
  refine go_p rfl rfl rfl (o_move rfl) ?_
  refine go_p rfl rfl rfl (o_extract rfl rfl) ?_
  refine go_p rfl rfl rfl (o_extract rfl rfl) ?_
  refine go_p rfl rfl rfl (o_assign rfl) ?_
  refine go_p rfl rfl rfl (o_assign rfl) ?_
  refine go_nil ?_
  refine g_seq ?_
  refine g_region ?_
  refine go_p rfl rfl rfl (o_move rfl) ?_
  refine go_nil ?_
  refine g_cond rfl (fun hc1 => ?_) (fun hc1 => ?_)
  · replace hm := cond_t hc1 hm
    refine g_seq ?_
    refine g_region ?_
    refine go_p rfl rfl rfl (o_move rfl) ?_
    refine go_p rfl rfl rfl (o_move rfl) ?_
    refine go_p rfl rfl rfl (o_assign rfl) ?_
    refine go_p rfl rfl rfl (o_assign rfl) ?_
    refine go_nil ?_
    refine g_ret ?_
    have hq1 := some_eq hm
    obtain ⟨rfl, hq2⟩ := Prod.mk.inj hq1
    obtain ⟨rfl, hq3⟩ := Prod.mk.inj hq2
    obtain ⟨rfl, rfl⟩ := Prod.mk.inj hq3
    exact retK (ret_many (ds := [_, _]) rfl (by decide) ⟨ret_tmp rfl, ⟨ret_tmp rfl, rfl⟩⟩ (permA 0 rfl (permA 0 rfl (permA 0 rfl (permA 0 rfl (permA 0 rfl (permA 0 rfl permN))))))) ⟨_, _, _, _, _, _, rfl, rfl⟩
  · replace hm := cond_f hc1 hm
    refine g_skip ?_
    refine g_seq ?_
    refine g_region ?_
    refine go_p rfl rfl rfl (o_move rfl) ?_
    obtain ⟨⟨x3, x4, s2⟩, hx2, hm⟩ := bind_some hm
    refine go_op rfl rfl rfl (o_call_own [3, 4, 5] Try.call16 rfl rfl (getL_c rfl (getL_c rfl (getL_c rfl getL_n))) (w_qi_Pop hx2) (by rintro _ _ ⟨_, _, _, rfl, rfl⟩; rfl)) ?_
    rintro _ _ ⟨_, ⟨c_q1c0, a_q1c1, cap_q1c1, rfl, rfl⟩, rfl⟩
    refine go_ms (ms' := [box b_q0 110 [_, _], _, _, box b_q1 110 [_, _], _, _]) rfl ?_
    refine go_p rfl rfl rfl (o_extract rfl rfl) ?_
    refine go_p rfl rfl rfl (o_extract rfl rfl) ?_
    refine go_p rfl rfl rfl (o_assign rfl) ?_
    refine go_p rfl rfl rfl (o_assign rfl) ?_
    refine go_nil ?_
    refine g_ret ?_
    have hq1 := some_eq hm
    obtain ⟨rfl, hq2⟩ := Prod.mk.inj hq1
    obtain ⟨rfl, hq3⟩ := Prod.mk.inj hq2
    obtain ⟨rfl, rfl⟩ := Prod.mk.inj hq3
    exact retK (ret_many (ds := [_, _]) rfl (by decide) ⟨ret_tmp rfl, ⟨ret_tmp rfl, rfl⟩⟩ (permA 0 rfl (permA 0 rfl (permA 0 rfl (permA 0 rfl (permA 0 rfl (permA 0 rfl permN))))))) ⟨_, _, _, _, _, _, rfl, rfl⟩
def m_qi_EitherN (b1 : QueueQueueInt)  : Option (Int × Bool × QueueQueueInt) :=
  (m_qi_PopN).bind fun (x1, x2) =>
  bif x2 then
    some (x1, x2, (⟨b1.first, b1.more⟩ : QueueQueueInt))
  else
    (m_qi_Pop (⟨b1.first, b1.more⟩ : QueueQueueInt)).bind fun (x3, x4, s1) =>
    some (x3, x4, (⟨s1.first, s1.more⟩ : QueueQueueInt))
theorem w_qi_EitherN {b1 : QueueQueueInt}  {r_1 : Int} {r_2 : Bool} {s_1 : QueueQueueInt} {b_q1 : Nat} {c_q1c0 : Nat} {a_q1c1 : Option Addr} {cap_q1c1 : Nat} (hm : m_qi_EitherN b1 = some (r_1, r_2, s_1)) : Go.V.Fn Try.prog 27 [.v (.pointer none), .v (.pointer (some ⟨b_q1, 0, none⟩))] [box b_q1 110 [.v (.chan (some c_q1c0)), .v (.slice a_q1c1 b1.more.length cap_q1c1)], chn c_q1c0 b1.first.1 D.i64 b1.first.2, que a_q1c1 cap_q1c1 3 1 D.i64 b1.more] (fun d ms' => ∃ c_s_1c0 a_s_1c1 cap_s_1c1, d = .tup [.i64 r_1, .bool r_2] ∧ ms' = [box b_q1 110 [.v (.chan (some c_s_1c0)), .v (.slice a_s_1c1 s_1.more.length cap_s_1c1)], chn c_s_1c0 s_1.first.1 D.i64 s_1.first.2, que a_s_1c1 cap_s_1c1 3 1 D.i64 s_1.more]) := by
  unfold m_qi_EitherN at hm
  refine fn_intro Try.func27 rfl Try.ntmps27 rfl fun H0 fr w0 => ?_
  refine g_seq ?_
  refine g_region ?_
  refine go_p rfl rfl rfl (o_assign rfl) ?_
  refine go_p rfl rfl rfl (o_assign rfl) ?_
  refine go_nil ?_
  refine g_seq ?_
  refine g_seq ?_
  refine g_region ?_
  refine go_p rfl rfl rfl (o_move rfl) ?_
  obtain ⟨⟨x1, x2⟩, hx1, hm⟩ := bind_some hm
  refine go_p rfl rfl rfl (o_call0 Try.call16 rfl (w_qi_PopN hx1)) ?_
  refine go_p rfl rfl rfl (o_move rfl) ?_
  refine go_p rfl rfl rfl (o_extract rfl rfl) ?_
  refine go_p rfl rfl rfl (o_extract rfl rfl) ?_
  refine go_p rfl rfl rfl (o_assign rfl) ?_
  refine go_p rfl rfl rfl (o_assign rfl) ?_
  refine go_nil ?_
  refine g_seq ?_
  refine g_region ?_
  refine go_p rfl rfl rfl (o_move rfl) ?_
  refine go_nil ?_
  refine g_cond rfl (fun hc1 => ?_) (fun hc1 => ?_)
  · replace hm := cond_t hc1 hm
    refine g_seq ?_
    refine g_region ?_
    refine go_p rfl rfl rfl (o_move rfl) ?_
    refine go_p rfl rfl rfl (o_move rfl) ?_
    refine go_p rfl rfl rfl (o_assign rfl) ?_
    refine go_p rfl rfl rfl (o_assign rfl) ?_
    refine go_nil ?_
    refine g_ret ?_
    have hq1 := some_eq hm
    obtain ⟨rfl, hq2⟩ := Prod.mk.inj hq1
    obtain ⟨rfl, rfl⟩ := Prod.mk.inj hq2
    exact retK (ret_many (ds := [_, _]) rfl (by decide) ⟨ret_tmp rfl, ⟨ret_tmp rfl, rfl⟩⟩ (permA 0 rfl (permA 0 rfl (permA 0 rfl permN)))) ⟨_, _, _, rfl, rfl⟩
  · replace hm := cond_f hc1 hm
    refine g_skip ?_
    refine g_seq ?_
    refine g_region ?_
    refine go_p rfl rfl rfl (o_move rfl) ?_
    obtain ⟨⟨x3, x4, s1⟩, hx2, hm⟩ := bind_some hm
    refine go_op rfl rfl rfl (o_call_own [0, 1, 2] Try.call16 rfl rfl (getL_c rfl (getL_c rfl (getL_c rfl getL_n))) (w_qi_Pop hx2) (by rintro _ _ ⟨_, _, _, rfl, rfl⟩; rfl)) ?_
    rintro _ _ ⟨_, ⟨c_q1c0, a_q1c1, cap_q1c1, rfl, rfl⟩, rfl⟩
    refine go_ms (ms' := [box b_q1 110 [_, _], _, _]) rfl ?_
    refine go_p rfl rfl rfl (o_extract rfl rfl) ?_
    refine go_p rfl rfl rfl (o_extract rfl rfl) ?_
    refine go_p rfl rfl rfl (o_assign rfl) ?_
    refine go_p rfl rfl rfl (o_assign rfl) ?_
    refine go_nil ?_
    refine g_ret ?_
    have hq1 := some_eq hm
    obtain ⟨rfl, hq2⟩ := Prod.mk.inj hq1
    obtain ⟨rfl, rfl⟩ := Prod.mk.inj hq2
    exact retK (ret_many (ds := [_, _]) rfl (by decide) ⟨ret_tmp rfl, ⟨ret_tmp rfl, rfl⟩⟩ (permA 0 rfl (permA 0 rfl (permA 0 rfl permN)))) ⟨_, _, _, rfl, rfl⟩
structure Syntagmaref18Row where
  l : (List Int)
  room : Int
def Syntagmaref18Row.d (x : Syntagmaref18Row) : D := .agg [.list 1 D.i64 x.l, .i64 x.room]
def m_syntagmabase_SameInts_l1 (a1 : (List Int)) (b1 : (List Int)) : Nat → Int → Option (Out Bool Unit)
  | 0, _ => none
  | n + 1, i1 =>
    bif (decide (i1 < (a1.length : Int))) then
      (idx a1 i1).bind fun x1 =>
      (idx b1 i1).bind fun x2 =>
      bif (!decide (x1 = x2)) then
        some (Out.ret false)
      else
        grd (InR (i1 + 1)) <|
        m_syntagmabase_SameInts_l1 a1 b1 n (i1 + 1)
    else
      some (Out.go (()))
def m_syntagmabase_SameInts (a1 : (List Int)) (b1 : (List Int)) : Option Bool :=
  bif (!decide ((a1.length : Int) = (b1.length : Int))) then
    some false
  else
    ((m_syntagmabase_SameInts_l1 a1 b1 FU 0 : Option (Out Bool Unit))).bind (fun oo => oo.on (fun r1 => some r1) (fun _ =>
    some true))
theorem w_syntagmabase_SameInts {a1 : (List Int)} {b1 : (List Int)} {r_1 : Bool} (hm : m_syntagmabase_SameInts a1 b1 = some r_1) : Fn0 Try.prog 18 [.list 1 D.i64 a1, .list 1 D.i64 b1] (.bool r_1) := by
  unfold m_syntagmabase_SameInts at hm
  refine fn_intro Try.func18 rfl Try.ntmps18 rfl fun H0 fr w0 => ?_
  refine g_seq ?_
  refine g_region ?_
  refine go_p rfl rfl rfl (o_assign rfl) ?_
  refine go_nil ?_
  refine g_seq ?_
  refine g_seq ?_
  refine g_region ?_
  refine go_p rfl rfl rfl (o_move rfl) ?_
  refine go_p rfl rfl rfl (o_len Try.runUnderlying28 rfl) ?_
  refine go_p rfl rfl rfl (o_move rfl) ?_
  refine go_p rfl rfl rfl (o_len Try.runUnderlying28 rfl) ?_
  refine go_p rfl rfl rfl (o_cmp rfl rfl rfl) ?_
  refine go_nil ?_
  refine g_cond rfl (fun hc1 => ?_) (fun hc1 => ?_)
  · replace hm := cond_t hc1 hm
    refine g_seq ?_
    refine g_region ?_
    refine go_p rfl rfl rfl (o_assign rfl) ?_
    refine go_nil ?_
    refine g_ret ?_
    exact retK (ret_one' rfl (ret_tmp rfl) (perm_drop _)) (congrArg (fun (p : Bool) => (.bool p : D)) (some_eq hm))
  · replace hm := cond_f hc1 hm
    refine g_skip ?_
    refine g_seq ?_
    refine g_seq ?_
    refine g_region ?_
    refine go_p rfl rfl rfl (o_assign rfl) ?_
    refine go_nil ?_
    obtain ⟨o_1, hj1, hm1⟩ := bind_some hm
    refine g_cut_m [] [] (fun (st : Unit) (hid : Unit) => match st, hid with | _, _ => []) (fun F (st : Unit) (hid : Unit) => match st, hid with | _, _ => []) (fun st => Out.go (st) = o_1) trivial trivial ?_ ?_
    · skip
      refine g_block ?_
      refine g_loop_m [(0, _), (1, _)] [] (fun (st : Int) (hid : Unit) => match st, hid with | i1, _ => [(5, .i64 i1)]) (fun F (st : Int) (hid : Unit) => match st, hid with | i1, _ => []) () hj1 (fun _ => rfl) ⟨rfl, rfl, trivial⟩ trivial ⟨rfl, trivial⟩ rfl ?_
      rintro n i1 _ hj1
      rw [m_syntagmabase_SameInts_l1] at hj1
      refine g_norm (L' := [(5, .i64 i1), (0, _), (1, _)]) (ms' := []) rfl rfl ?_
      refine g_seq ?_
      refine g_seq ?_
      refine g_region ?_
      refine go_p rfl rfl rfl (o_move rfl) ?_
      refine go_p rfl rfl rfl (o_move rfl) ?_
      refine go_p rfl rfl rfl (o_len Try.runUnderlying28 rfl) ?_
      refine go_p rfl rfl rfl (o_cmp rfl rfl rfl) ?_
      refine go_nil ?_
      refine g_cond rfl (fun hc2 => ?_) (fun hc2 => ?_)
      · replace hj1 := cond_t hc2 hj1
        refine g_skip ?_
        refine g_seq ?_
        refine g_block ?_
        refine g_seq ?_
        obtain ⟨x1, hx1, hj1⟩ := bind_some hj1
        obtain ⟨x2, hx2, hj1⟩ := bind_some hj1
        refine g_draw 9 Try_mixed (by decide +kernel) ?_
        refine gd_p rfl rfl rfl (o_move rfl) ?_
        refine gd_p rfl rfl rfl (o_move rfl) ?_
        refine gd_p rfl rfl rfl (o_indexAddr_m Try.runUnderlying28 Try.sizeOf3 rfl rfl hx1) ?_
        refine gd_p rfl rfl rfl (o_load Try.isAgg3 rfl rfl) ?_
        refine gd_p rfl rfl rfl (o_move rfl) ?_
        refine gd_p rfl rfl rfl (o_move rfl) ?_
        refine gd_p rfl rfl rfl (o_indexAddr_m Try.runUnderlying28 Try.sizeOf3 rfl rfl hx2) ?_
        refine gd_p rfl rfl rfl (o_load Try.isAgg3 rfl rfl) ?_
        refine gd_p rfl rfl rfl (o_cmp rfl rfl rfl) ?_
        refine gd_nil ?_
        refine go_nil ?_
        refine g_cond rfl (fun hc3 => ?_) (fun hc3 => ?_)
        · replace hj1 := cond_t hc3 hj1
          refine g_seq ?_
          refine g_region ?_
          refine go_p rfl rfl rfl (o_assign rfl) ?_
          refine go_nil ?_
          refine g_ret ?_
          obtain rfl := some_eq hj1
          replace hm1 := on_ret hm1
          exact retK (ret_one' rfl (ret_tmp rfl) (perm_drop _)) (congrArg (fun (p : Bool) => (.bool p : D)) (some_eq hm1))
        · replace hj1 := cond_f hc3 hj1
          refine g_skip ?_
          refine g_region ?_
          refine go_p rfl rfl rfl (o_move rfl) ?_
          obtain ⟨hg3, hj1⟩ := grd_some hj1
          refine go_p rfl rfl rfl (o_add rfl rfl (i64_id hg3)) ?_
          refine go_p rfl rfl rfl (o_assign rfl) ?_
          refine go_nil ?_
          exact ⟨_, (), hj1, ⟨rfl, trivial⟩, ⟨rfl, rfl, trivial⟩, [], rfl⟩
      · replace hj1 := cond_f hc2 hj1
        refine g_exit ?_
        exact ⟨_, (), some_eq hj1, trivial, trivial, [], rfl⟩
    · rintro _ _ hst
      subst hst
      replace hm1 := on_go hm1
      refine k_norm (L' := []) (ms' := []) rfl rfl ?_
      refine g_seq ?_
      refine g_region ?_
      refine go_p rfl rfl rfl (o_assign rfl) ?_
      refine go_nil ?_
      refine g_ret ?_
      exact retK (ret_one' rfl (ret_tmp rfl) (perm_drop _)) (congrArg (fun (p : Bool) => (.bool p : D)) (some_eq hm1))
def m_syntagmalaw18_works  : Option Bool :=
  (m_qi_New 1).bind fun s1 =>
  (m_qi_Push (⟨s1.first, s1.more⟩ : QueueQueueInt) [1, 2]).bind fun s2 =>
  (m_qi_Pop (⟨s2.first, s2.more⟩ : QueueQueueInt)).bind fun (x1, x2, s3) =>
  (m_qi_Push (⟨s3.first, s3.more⟩ : QueueQueueInt) [3]).bind fun s4 =>
  bif (x2 && (decide (x1 = 1))) then ((m_qi_Drain (⟨s4.first, s4.more⟩ : QueueQueueInt)).bind fun (x3, s5) =>
  (m_syntagmabase_SameInts x3 [2, 3]).bind fun x4 =>
  (bif x4 then ((m_qi_Len (⟨s5.first, s5.more⟩ : QueueQueueInt)).bind fun x5 =>
  some (decide (x5 = 0))) else (some false)).bind fun p1 =>
  (bif p1 then ((m_qi_Room (⟨s5.first, s5.more⟩ : QueueQueueInt)).bind fun x6 =>
  some (decide (x6 = 1))) else (some false)).bind fun p2 =>
  some p2) else (some false)
theorem w_syntagmalaw18_works  {r_1 : Bool} (hm : m_syntagmalaw18_works = some r_1) : Fn0 Try.prog 22 [] (.bool r_1) := by
  unfold m_syntagmalaw18_works at hm
  refine fn_intro Try.func22 rfl Try.ntmps22 rfl fun H0 fr w0 => ?_
  refine g_seq ?_
  refine g_region ?_
  refine go_p rfl rfl rfl (o_assign rfl) ?_
  refine go_nil ?_
  refine g_seq ?_
  refine g_region ?_
  obtain ⟨s1, hx1, hm⟩ := bind_some hm
  refine go_op rfl rfl rfl (o_call (ms₁ := []) Try.call12 rfl (List.Perm.refl _) (w_qi_New hx1)) ?_
  rintro _ _ ⟨_, ⟨b1, c_r1, a_r2, cap_r2, rfl, rfl⟩, rfl⟩
  refine go_p rfl rfl rfl (o_assign rfl) ?_
  refine go_nil ?_
  refine g_seq ?_
  refine g_region ?_
  refine go_p rfl rfl rfl (o_move rfl) ?_
  refine go_p rfl rfl rfl (o_buildSlice (xs := [_, _]) (f := D.i64) (l := [_, _]) Try.runUnderlying28 Try.sizeOf3 Try.zeroValue3 rfl rfl rfl (fun _ => ⟨rfl, rfl, rfl⟩) rfl) ?_
  obtain ⟨s2, hx2, hm⟩ := bind_some hm
  refine go_op rfl rfl rfl (o_call_own [0, 1, 2] Try.call20 rfl rfl (getL_c rfl (getL_c rfl (getL_c rfl getL_n))) (w_qi_Push hx2) (by rintro _ _ ⟨_, _, _, rfl, rfl⟩; rfl)) ?_
  rintro _ _ ⟨_, ⟨c_r1, a_r2, cap_r2, rfl, rfl⟩, rfl⟩
  refine go_ms (ms' := [box b1 110 [_, _], _, _]) rfl ?_
  refine go_nil ?_
  refine g_seq ?_
  refine g_region ?_
  refine go_p rfl rfl rfl (o_move rfl) ?_
  obtain ⟨⟨x1, x2, s3⟩, hx3, hm⟩ := bind_some hm
  refine go_op rfl rfl rfl (o_call_own [0, 1, 2] Try.call16 rfl rfl (getL_c rfl (getL_c rfl (getL_c rfl getL_n))) (w_qi_Pop hx3) (by rintro _ _ ⟨_, _, _, rfl, rfl⟩; rfl)) ?_
  rintro _ _ ⟨_, ⟨c_r1, a_r2, cap_r2, rfl, rfl⟩, rfl⟩
  refine go_ms (ms' := [box b1 110 [_, _], _, _]) rfl ?_
  refine go_p rfl rfl rfl (o_move rfl) ?_
  refine go_p rfl rfl rfl (o_extract rfl rfl) ?_
  refine go_p rfl rfl rfl (o_extract rfl rfl) ?_
  refine go_p rfl rfl rfl (o_assign rfl) ?_
  refine go_p rfl rfl rfl (o_assign rfl) ?_
  refine go_nil ?_
  refine g_seq ?_
  refine g_region ?_
  refine go_p rfl rfl rfl (o_move rfl) ?_
  refine go_p rfl rfl rfl (o_buildSlice (xs := [_]) (f := D.i64) (l := [_]) Try.runUnderlying28 Try.sizeOf3 Try.zeroValue3 rfl rfl rfl (fun _ => ⟨rfl, rfl, rfl⟩) rfl) ?_
  obtain ⟨s4, hx4, hm⟩ := bind_some hm
  refine go_op rfl rfl rfl (o_call_own [0, 1, 2] Try.call20 rfl rfl (getL_c rfl (getL_c rfl (getL_c rfl getL_n))) (w_qi_Push hx4) (by rintro _ _ ⟨_, _, _, rfl, rfl⟩; rfl)) ?_
  rintro _ _ ⟨_, ⟨c_r1, a_r2, cap_r2, rfl, rfl⟩, rfl⟩
  refine go_ms (ms' := [box b1 110 [_, _], _, _]) rfl ?_
  refine go_nil ?_
  refine g_seq ?_
  refine g_region ?_
  refine go_p rfl rfl rfl (o_move rfl) ?_
  refine go_p rfl rfl rfl (o_move rfl) ?_
  apply go_and [(1, _)] 3 20 (t := 17) ⟨rfl, trivial⟩ rfl
  · intro hg_1 hk1
    refine go_wantp rfl rfl rfl hg_1 rfl rfl (o_move rfl) ?_
    refine go_wantp rfl rfl rfl hg_1 rfl rfl (o_cmp rfl rfl rfl) ?_
    refine go_p rfl rfl rfl (o_pickT rfl hg_1 rfl) ?_
    exact go_meet hk1 (rfl) ⟨rfl, trivial⟩
  · intro hg_1 hk1
    refine go_skip rfl rfl rfl hg_1 rfl rfl ?_
    refine go_skip rfl rfl rfl hg_1 rfl rfl ?_
    refine go_p rfl rfl rfl (o_pickF rfl hg_1 rfl) ?_
    exact go_meet hk1 (rfl) ⟨rfl, trivial⟩
  refine go_p rfl rfl rfl (o_move rfl) ?_
  rcases cond_split hm with ⟨hg_2, hm⟩ | ⟨hg_2, hm⟩
  · skip
    refine go_wantp rfl rfl rfl hg_2 rfl rfl (o_move rfl) ?_
    obtain ⟨⟨x3, s5⟩, hx5, hm⟩ := bind_some hm
    refine go_want rfl rfl rfl hg_2 rfl rfl (o_call_own [0, 1, 2] Try.call19 rfl rfl (getL_c rfl (getL_c rfl (getL_c rfl getL_n))) (w_qi_Drain hx5) (by rintro _ _ ⟨_, _, _, rfl, rfl⟩; rfl)) ?_
    rintro _ _ ⟨_, ⟨c_r1, a_r2, cap_r2, rfl, rfl⟩, rfl⟩
    refine go_ms (ms' := [box b1 110 [_, _], _, _]) rfl ?_
    refine go_wantp rfl rfl rfl hg_2 rfl rfl (o_buildSlice (xs := [_, _]) (f := D.i64) (l := [_, _]) Try.runUnderlying28 Try.sizeOf3 Try.zeroValue3 rfl rfl rfl (fun _ => ⟨rfl, rfl, rfl⟩) rfl) ?_
    obtain ⟨x4, hx6, hm⟩ := bind_some hm
    refine go_wantp rfl rfl rfl hg_2 rfl rfl (o_call0 Try.call18 rfl (w_syntagmabase_SameInts hx6)) ?_
    refine go_p rfl rfl rfl (o_pickT rfl hg_2 rfl) ?_
    refine go_p rfl rfl rfl (o_move rfl) ?_
    obtain ⟨p1, hp_3, hm⟩ := bind_some hm
    refine go_two [(1, _)] 4 31 p1 (t := 27) ⟨rfl, trivial⟩ rfl (fun hg_3 hk3 => ?_) (fun hg_3 hk3 => ?_) ?_
    · replace hp_3 := cond_t hg_3 hp_3
      refine go_wantp rfl rfl rfl hg_3 rfl rfl (o_move rfl) ?_
      obtain ⟨x5, hx7, hp_3⟩ := bind_some hp_3
      refine go_want rfl rfl rfl hg_3 rfl rfl (o_call_own [0, 1, 2] Try.call21 rfl rfl (getL_c rfl (getL_c rfl (getL_c rfl getL_n))) (w_qi_Len hx7) (by rintro _ _ ⟨rfl, rfl⟩; rfl)) ?_
      rintro _ _ ⟨_, ⟨rfl, rfl⟩, rfl⟩
      refine go_ms (ms' := [box b1 110 [_, _], _, _]) rfl ?_
      refine go_wantp rfl rfl rfl hg_3 rfl rfl (o_cmp rfl rfl rfl) ?_
      refine go_p rfl rfl rfl (o_pickT rfl hg_3 rfl) ?_
      exact go_meet hk3 (congrArg (fun b => some (D.bool b)) (some_eq hp_3)) ⟨rfl, trivial⟩
    · replace hp_3 := cond_f hg_3 hp_3
      refine go_skip rfl rfl rfl hg_3 rfl rfl ?_
      refine go_skip rfl rfl rfl hg_3 rfl rfl ?_
      refine go_skip rfl rfl rfl hg_3 rfl rfl ?_
      refine go_p rfl rfl rfl (o_pickF rfl hg_3 rfl) ?_
      exact go_meet hk3 (congrArg (fun b => some (D.bool b)) (some_eq hp_3)) ⟨rfl, trivial⟩
    refine go_p rfl rfl rfl (o_move rfl) ?_
    obtain ⟨p2, hp_4, hm⟩ := bind_some hm
    refine go_two [] 4 36 p2 (t := 32) trivial rfl (fun hg_4 hk4 => ?_) (fun hg_4 hk4 => ?_) ?_
    · replace hp_4 := cond_t hg_4 hp_4
      refine go_wantp rfl rfl rfl hg_4 rfl rfl (o_move rfl) ?_
      obtain ⟨x6, hx8, hp_4⟩ := bind_some hp_4
      refine go_want rfl rfl rfl hg_4 rfl rfl (o_call_own [0, 1, 2] Try.call14 rfl rfl (getL_c rfl (getL_c rfl (getL_c rfl getL_n))) (w_qi_Room hx8) (by rintro _ _ ⟨rfl, rfl⟩; rfl)) ?_
      rintro _ _ ⟨_, ⟨rfl, rfl⟩, rfl⟩
      refine go_ms (ms' := [box b1 110 [_, _], _, _]) rfl ?_
      refine go_wantp rfl rfl rfl hg_4 rfl rfl (o_cmp rfl rfl rfl) ?_
      refine go_p rfl rfl rfl (o_pickT rfl hg_4 rfl) ?_
      exact go_meet hk4 (congrArg (fun b => some (D.bool b)) (some_eq hp_4)) trivial
    · replace hp_4 := cond_f hg_4 hp_4
      refine go_skip rfl rfl rfl hg_4 rfl rfl ?_
      refine go_skip rfl rfl rfl hg_4 rfl rfl ?_
      refine go_skip rfl rfl rfl hg_4 rfl rfl ?_
      refine go_p rfl rfl rfl (o_pickF rfl hg_4 rfl) ?_
      exact go_meet hk4 (congrArg (fun b => some (D.bool b)) (some_eq hp_4)) trivial
    refine go_p rfl rfl rfl (o_assign rfl) ?_
    refine go_nil ?_
    refine g_ret ?_
    exact retK (ret_one' rfl (ret_tmp rfl) (perm_drop _)) (congrArg (fun (p : Bool) => (.bool p : D)) (some_eq hm))
  · skip
    refine go_skip rfl rfl rfl hg_2 rfl rfl ?_
    refine go_skip rfl rfl rfl hg_2 rfl rfl ?_
    refine go_skip rfl rfl rfl hg_2 rfl rfl ?_
    refine go_skip rfl rfl rfl hg_2 rfl rfl ?_
    refine go_p rfl rfl rfl (o_pickF rfl hg_2 rfl) ?_
    refine go_p rfl rfl rfl (o_move rfl) ?_
    refine go_skip rfl rfl rfl rfl rfl rfl ?_
    refine go_skip rfl rfl rfl rfl rfl rfl ?_
    refine go_skip rfl rfl rfl rfl rfl rfl ?_
    refine go_p rfl rfl rfl (o_pickF rfl rfl rfl) ?_
    refine go_p rfl rfl rfl (o_move rfl) ?_
    refine go_skip rfl rfl rfl rfl rfl rfl ?_
    refine go_skip rfl rfl rfl rfl rfl rfl ?_
    refine go_skip rfl rfl rfl rfl rfl rfl ?_
    refine go_p rfl rfl rfl (o_pickF rfl rfl rfl) ?_
    refine go_p rfl rfl rfl (o_assign rfl) ?_
    refine go_nil ?_
    refine g_ret ?_
    exact retK (ret_one' rfl (ret_tmp rfl) (perm_drop _)) (congrArg (fun (p : Bool) => (.bool p : D)) (some_eq hm))
structure Syntagmalaw18Act where
  do_ : Int
  n_ : Int
def Syntagmalaw18Act.d (x : Syntagmalaw18Act) : D := .agg [.i64 x.do_, .i64 x.n_]
def m_syntagmabase_Ints (l1 : (List Int)) : Option (List Int) :=
  grd ((0 + l1.length) * 8 ≤ 140737488355328) <|
  some ([] ++ l1)
theorem w_syntagmabase_Ints {l1 : (List Int)} {r_1 : (List Int)} (hm : m_syntagmabase_Ints l1 = some r_1) : Fn0 Try.prog 26 [.list 1 D.i64 l1] (.list 1 D.i64 r_1) := by
  unfold m_syntagmabase_Ints at hm
  refine fn_intro Try.func26 rfl Try.ntmps26 rfl fun H0 fr w0 => ?_
  refine g_seq ?_
  refine g_region ?_
  refine go_p rfl rfl rfl (o_assign rfl) ?_
  refine go_conv (nilE (i := 2) (sz := 1) (f := D.i64) rfl).refines ?_
  refine go_nil ?_
  refine g_seq ?_
  refine g_region ?_
  refine go_op rfl rfl rfl (o_buildSlice_row (xs := []) (f := D.i64) (l := []) Try.runUnderlying28 Try.sizeOf3 Try.zeroValue3 rfl rfl rfl (fun _ => ⟨rfl, rfl, rfl⟩) rfl (by simp [maxLen])) ?_
  rintro _ _ ⟨a_r1, rfl, rfl⟩
  refine go_p rfl rfl rfl (o_move rfl) ?_
  obtain ⟨hg1, hm⟩ := grd_some hm
  refine go_op rfl rfl rfl (o_append (a := _) 0 Try.underlying28 Try.type3 rfl rfl rfl rfl rfl rfl rfl (fun _ => rfl) (fun _ => rfl) hg1 (app_len hg1 rfl)) ?_
  rintro _ _ ⟨a_r1, cap_r1, rfl, rfl⟩
  refine go_ms (ms' := [_]) rfl ?_
  refine go_p rfl rfl rfl (o_assign rfl) ?_
  refine go_nil ?_
  refine g_conv (peekE (i := 2) 0 rfl rfl rfl).refines ?_
  refine g_ret ?_
  exact retK (ret_one' rfl (ret_tmp rfl) (perm_drop _)) (congrArg (fun (p : (List Int)) => (.list 1 D.i64 p : D)) (some_eq hm))
def m_base_IntsO (l1 : (List Int))  : Option (List Int) :=
  grd ((0 + l1.length) * 8 ≤ 140737488355328) <|
  some ([] ++ l1)
theorem w_base_IntsO {l1 : (List Int)}  {s_1 : (List Int)} (hm : m_base_IntsO l1 = some s_1) : Go.V.Fn Try.prog 26 [.list 1 D.i64 l1] [] (fun d ms' => ∃ a_s_1 cap_s_1, d = .v (.slice a_s_1 s_1.length cap_s_1) ∧ ms' = [row a_s_1 cap_s_1 3 1 D.i64 s_1]) := by
  unfold m_base_IntsO at hm
  refine fn_intro Try.func26 rfl Try.ntmps26 rfl fun H0 fr w0 => ?_
  refine g_seq ?_
  refine g_region ?_
  refine go_p rfl rfl rfl (o_assign rfl) ?_
  refine go_conv (nilE (i := 2) (sz := 1) (f := D.i64) rfl).refines ?_
  refine go_nil ?_
  refine g_seq ?_
  refine g_region ?_
  refine go_op rfl rfl rfl (o_buildSlice_row (xs := []) (f := D.i64) (l := []) Try.runUnderlying28 Try.sizeOf3 Try.zeroValue3 rfl rfl rfl (fun _ => ⟨rfl, rfl, rfl⟩) rfl (by simp [maxLen])) ?_
  rintro _ _ ⟨a_r1, rfl, rfl⟩
  refine go_p rfl rfl rfl (o_move rfl) ?_
  obtain ⟨hg1, hm⟩ := grd_some hm
  refine go_op rfl rfl rfl (o_append (a := _) 0 Try.underlying28 Try.type3 rfl rfl rfl rfl rfl rfl rfl (fun _ => rfl) (fun _ => rfl) hg1 (app_len hg1 rfl)) ?_
  rintro _ _ ⟨a_r1, cap_r1, rfl, rfl⟩
  refine go_ms (ms' := [_]) rfl ?_
  refine go_p rfl rfl rfl (o_assign rfl) ?_
  refine go_nil ?_
  refine g_ret ?_
  obtain rfl := some_eq hm
  exact retK (ret_one' rfl (ret_tmp rfl) (permA 0 rfl permN)) ⟨_, _, rfl, rfl⟩
def m_syntagmalaw18_QueueEither_l1 (x2 : (List Int)) (l3 : (List Int)) : Nat → (Int × (Nat × List Int) × (List Int) × (Nat × List Int) × (List Int)) → Option (Out Bool ((Nat × List Int) × (List Int) × (Nat × List Int) × (List Int)))
  | 0, _ => none
  | n + 1, (i1, ch3, l6, ch4, l7) =>
    bif (decide (i1 < ((l3 ++ x2).length : Int))) then
      (m_qi_Either (⟨ch4, l7⟩ : QueueQueueInt) (⟨ch3, l6⟩ : QueueQueueInt)).bind fun (x5, x6, s5, s6) =>
      (idx (l3 ++ x2) i1).bind fun x7 =>
      bif ((!decide (x5 = x7)) || (!x6)) then
        some (Out.ret false)
      else
        grd (InR (i1 + 1)) <|
        m_syntagmalaw18_QueueEither_l1 x2 l3 n ((i1 + 1), s6.first, s6.more, s5.first, s5.more)
    else
      some (Out.go ((ch3, l6, ch4, l7)))
def m_syntagmalaw18_QueueEither (a1 : (List Int)) (b1 : (List Int)) (room1 : Int) : Option Bool :=
  (sli a1 0 (if 100 < (a1.length : Int) then 100 else (a1.length : Int))).bind fun l1 =>
  (m_syntagmabase_Ints l1).bind fun x1 =>
  (sli b1 0 (if 100 < (b1.length : Int) then 100 else (b1.length : Int))).bind fun l2 =>
  (m_syntagmabase_Ints l2).bind fun x2 =>
  (m_qi_New room1).bind fun s1 =>
  (m_qi_New 1).bind fun s2 =>
  (m_syntagmabase_Ints x1).bind fun x3 =>
  (m_qi_Push (⟨s1.first, s1.more⟩ : QueueQueueInt) x3).bind fun s3 =>
  (m_syntagmabase_Ints x2).bind fun x4 =>
  (m_qi_Push (⟨s2.first, s2.more⟩ : QueueQueueInt) x4).bind fun s4 =>
  (m_base_IntsO x1).bind fun l3 =>
  grd ((l3.length + x2.length) * 8 ≤ 140737488355328) <|
  ((m_syntagmalaw18_QueueEither_l1 x2 l3 FU (0, s4.first, s4.more, s3.first, s3.more) : Option (Out Bool ((Nat × List Int) × (List Int) × (Nat × List Int) × (List Int))))).bind (fun oo => oo.on (fun r1 => some r1) (fun (ch1, l4, ch2, l5) =>
  (m_qi_PushN [1]).bind fun () =>
  (m_qi_PopN).bind fun (x8, x9) =>
  (m_qi_EitherN (⟨ch1, l4⟩ : QueueQueueInt)).bind fun (x10, x11, s7) =>
  (bif (((!x9) && (decide (x8 = 0))) && (!x11)) then ((m_qi_LenN).bind fun x12 =>
  (m_qi_RoomN).bind fun x13 =>
  grd (InR (x12 + x13)) <|
  (m_qi_DrainN).bind fun x14 =>
  grd (InR ((x12 + x13) + (x14.length : Int))) <|
  some (decide (((x12 + x13) + (x14.length : Int)) = 0))) else (some false)).bind fun p1 =>
  (bif p1 then ((m_syntagmalaw18_works).bind fun x15 =>
  some x15) else (some false)).bind fun p2 =>
  some p2))
theorem w_syntagmalaw18_QueueEither {a1 : (List Int)} {b1 : (List Int)} {room1 : Int} {r_1 : Bool} (hm : m_syntagmalaw18_QueueEither a1 b1 room1 = some r_1) : Fn0 Try.prog 5 [.list 1 D.i64 a1, .list 1 D.i64 b1, .i64 room1] (.bool r_1) := by
  unfold m_syntagmalaw18_QueueEither at hm
  refine fn_intro Try.func5 rfl Try.ntmps5 rfl fun H0 fr w0 => ?_
  refine g_seq ?_
  refine g_region ?_
  refine go_p rfl rfl rfl (o_assign rfl) ?_
  refine go_nil ?_
  refine g_seq ?_
  obtain ⟨l1, hx1, hm⟩ := bind_some hm
  obtain ⟨x1, hx2, hm⟩ := bind_some hm
  obtain ⟨l2, hx3, hm⟩ := bind_some hm
  obtain ⟨x2, hx4, hm⟩ := bind_some hm
  refine g_draw 14 Try_mixed (by decide +kernel) ?_
  refine gd_p rfl rfl rfl (o_move rfl) ?_
  refine gd_p rfl rfl rfl (o_move rfl) ?_
  refine gd_p rfl rfl rfl (o_len Try.runUnderlying28 rfl) ?_
  refine gd_p rfl rfl rfl (o_min rfl rfl) ?_
  refine gd_p rfl rfl rfl (o_slice_m Try.runUnderlying28 Try.sizeOf3 rfl rfl ⟨_, rfl⟩ hx1) ?_
  refine gd_p rfl rfl rfl (o_call0 Try.call26 rfl (w_syntagmabase_Ints hx2)) ?_
  refine gd_p rfl rfl rfl (o_move rfl) ?_
  refine gd_p rfl rfl rfl (o_move rfl) ?_
  refine gd_p rfl rfl rfl (o_len Try.runUnderlying28 rfl) ?_
  refine gd_p rfl rfl rfl (o_min rfl rfl) ?_
  refine gd_p rfl rfl rfl (o_slice_m Try.runUnderlying28 Try.sizeOf3 rfl rfl ⟨_, rfl⟩ hx3) ?_
  refine gd_p rfl rfl rfl (o_call0 Try.call26 rfl (w_syntagmabase_Ints hx4)) ?_
  refine gd_p rfl rfl rfl (o_assign rfl) ?_
  refine gd_p rfl rfl rfl (o_assign rfl) ?_
  refine gd_nil ?_
  refine go_nil ?_
  refine g_seq ?_
  refine g_region ?_
  refine go_p rfl rfl rfl (o_move rfl) ?_
  obtain ⟨s1, hx5, hm⟩ := bind_some hm
  refine go_op rfl rfl rfl (o_call (ms₁ := []) Try.call12 rfl (List.Perm.refl _) (w_qi_New hx5)) ?_
  rintro _ _ ⟨_, ⟨b1, c_r1, a_r2, cap_r2, rfl, rfl⟩, rfl⟩
  obtain ⟨s2, hx6, hm⟩ := bind_some hm
  refine go_op rfl rfl rfl (o_call (ms₁ := []) Try.call12 rfl (List.Perm.refl _) (w_qi_New hx6)) ?_
  rintro _ _ ⟨_, ⟨b2, c_r3, a_r4, cap_r4, rfl, rfl⟩, rfl⟩
  refine go_p rfl rfl rfl (o_assign rfl) ?_
  refine go_p rfl rfl rfl (o_assign rfl) ?_
  refine go_nil ?_
  refine g_seq ?_
  refine g_region ?_
  refine go_p rfl rfl rfl (o_move rfl) ?_
  refine go_p rfl rfl rfl (o_move rfl) ?_
  obtain ⟨x3, hx7, hm⟩ := bind_some hm
  refine go_p rfl rfl rfl (o_call0 Try.call26 rfl (w_syntagmabase_Ints hx7)) ?_
  obtain ⟨s3, hx8, hm⟩ := bind_some hm
  refine go_op rfl rfl rfl (o_call_own [3, 4, 5] Try.call20 rfl rfl (getL_c rfl (getL_c rfl (getL_c rfl getL_n))) (w_qi_Push hx8) (by rintro _ _ ⟨_, _, _, rfl, rfl⟩; rfl)) ?_
  rintro _ _ ⟨_, ⟨c_r1, a_r2, cap_r2, rfl, rfl⟩, rfl⟩
  refine go_ms (ms' := [box b2 110 [_, _], _, _, box b1 110 [_, _], _, _]) rfl ?_
  refine go_nil ?_
  refine g_seq ?_
  refine g_region ?_
  refine go_p rfl rfl rfl (o_move rfl) ?_
  refine go_p rfl rfl rfl (o_move rfl) ?_
  obtain ⟨x4, hx9, hm⟩ := bind_some hm
  refine go_p rfl rfl rfl (o_call0 Try.call26 rfl (w_syntagmabase_Ints hx9)) ?_
  obtain ⟨s4, hx10, hm⟩ := bind_some hm
  refine go_op rfl rfl rfl (o_call_own [0, 1, 2] Try.call20 rfl rfl (getL_c rfl (getL_c rfl (getL_c rfl getL_n))) (w_qi_Push hx10) (by rintro _ _ ⟨_, _, _, rfl, rfl⟩; rfl)) ?_
  rintro _ _ ⟨_, ⟨c_r3, a_r4, cap_r4, rfl, rfl⟩, rfl⟩
  refine go_ms (ms' := [box b2 110 [_, _], _, _, box b1 110 [_, _], _, _]) rfl ?_
  refine go_nil ?_
  refine g_seq ?_
  refine g_region ?_
  refine go_p rfl rfl rfl (o_move rfl) ?_
  obtain ⟨l3, hx11, hm⟩ := bind_some hm
  refine go_op rfl rfl rfl (o_call (ms₁ := []) Try.call26 rfl (List.Perm.refl _) (w_base_IntsO hx11)) ?_
  rintro _ _ ⟨_, ⟨a_r5, cap_r5, rfl, rfl⟩, rfl⟩
  refine go_p rfl rfl rfl (o_move rfl) ?_
  obtain ⟨hg12, hm⟩ := grd_some hm
  refine go_op rfl rfl rfl (o_append (a := _) 0 Try.underlying28 Try.type3 rfl rfl rfl rfl rfl rfl rfl (fun _ => rfl) (fun _ => rfl) hg12 (app_len hg12 rfl)) ?_
  rintro _ _ ⟨a_r5, cap_r5, rfl, rfl⟩
  refine go_ms (ms' := [_, box b2 110 [_, _], _, _, box b1 110 [_, _], _, _]) rfl ?_
  refine go_p rfl rfl rfl (o_assign rfl) ?_
  refine go_nil ?_
  refine g_seq ?_
  refine g_seq ?_
  refine g_region ?_
  refine go_p rfl rfl rfl (o_assign rfl) ?_
  refine go_nil ?_
  obtain ⟨o_1, hj1, hm1⟩ := bind_some hm
  refine g_cut_m [(8, _)] [(0, _)] (fun (st : ((Nat × List Int) × (List Int) × (Nat × List Int) × (List Int))) (hid : Nat × (Option Addr × Nat) × Nat × (Option Addr × Nat)) => match st, hid with | (ch1, l4, ch2, l5), (c_r3, (a_r4, cap_r4), c_r1, (a_r2, cap_r2)) => []) (fun F (st : ((Nat × List Int) × (List Int) × (Nat × List Int) × (List Int))) (hid : Nat × (Option Addr × Nat) × Nat × (Option Addr × Nat)) => match st, hid with | (ch1, l4, ch2, l5), (c_r3, (a_r4, cap_r4), c_r1, (a_r2, cap_r2)) => [(nthF F 0), box b2 110 [.v (.chan (some c_r3)), .v (.slice a_r4 l4.length cap_r4)], chn c_r3 ch1.1 D.i64 ch1.2, que a_r4 cap_r4 3 1 D.i64 l4, box b1 110 [.v (.chan (some c_r1)), .v (.slice a_r2 l5.length cap_r2)], chn c_r1 ch2.1 D.i64 ch2.2, que a_r2 cap_r2 3 1 D.i64 l5]) (fun st => Out.go (st) = o_1) ⟨rfl, trivial⟩ ⟨rfl, trivial⟩ ?_ ?_
  · skip
    refine g_block ?_
    refine g_loop_m [(7, _), (8, _), (9, _)] [(0, _)] (fun (st : (Int × (Nat × List Int) × (List Int) × (Nat × List Int) × (List Int))) (hid : Nat × (Option Addr × Nat) × Nat × (Option Addr × Nat)) => match st, hid with | (i1, ch3, l6, ch4, l7), (c_r3, (a_r4, cap_r4), c_r1, (a_r2, cap_r2)) => [(10, .i64 i1)]) (fun F (st : (Int × (Nat × List Int) × (List Int) × (Nat × List Int) × (List Int))) (hid : Nat × (Option Addr × Nat) × Nat × (Option Addr × Nat)) => match st, hid with | (i1, ch3, l6, ch4, l7), (c_r3, (a_r4, cap_r4), c_r1, (a_r2, cap_r2)) => [(nthF F 0), box b2 110 [.v (.chan (some c_r3)), .v (.slice a_r4 l6.length cap_r4)], chn c_r3 ch3.1 D.i64 ch3.2, que a_r4 cap_r4 3 1 D.i64 l6, box b1 110 [.v (.chan (some c_r1)), .v (.slice a_r2 l7.length cap_r2)], chn c_r1 ch4.1 D.i64 ch4.2, que a_r2 cap_r2 3 1 D.i64 l7]) (_, (_, _), _, (_, _)) hj1 (fun _ => rfl) ⟨rfl, rfl, rfl, trivial⟩ ⟨rfl, trivial⟩ ⟨rfl, trivial⟩ rfl ?_
    rintro n ⟨i1, ch3, l6, ch4, l7⟩ ⟨c_r3, ⟨a_r4, cap_r4⟩, c_r1, ⟨a_r2, cap_r2⟩⟩ hj1
    rw [m_syntagmalaw18_QueueEither_l1] at hj1
    refine g_norm (L' := [(10, .i64 i1), (7, _), (8, _), (9, _)]) (ms' := [_, box b2 110 [.v (.chan (some c_r3)), .v (.slice a_r4 l6.length cap_r4)], chn c_r3 ch3.1 D.i64 ch3.2, que a_r4 cap_r4 3 1 D.i64 l6, box b1 110 [.v (.chan (some c_r1)), .v (.slice a_r2 l7.length cap_r2)], chn c_r1 ch4.1 D.i64 ch4.2, que a_r2 cap_r2 3 1 D.i64 l7]) rfl rfl ?_
    refine g_seq ?_
    refine g_seq ?_
    refine g_region ?_
    refine go_p rfl rfl rfl (o_move rfl) ?_
    refine go_p rfl rfl rfl (o_move rfl) ?_
    refine go_p rfl rfl rfl (.view (peekE (i := 46) 0 rfl rfl rfl) (o_len Try.runUnderlying28 rfl)) ?_
    refine go_p rfl rfl rfl (o_cmp rfl rfl rfl) ?_
    refine go_nil ?_
    refine g_cond rfl (fun hc1 => ?_) (fun hc1 => ?_)
    · replace hj1 := cond_t hc1 hj1
      refine g_skip ?_
      refine g_seq ?_
      refine g_block ?_
      refine g_seq ?_
      refine g_region ?_
      refine go_p rfl rfl rfl (o_move rfl) ?_
      refine go_p rfl rfl rfl (o_move rfl) ?_
      obtain ⟨⟨x5, x6, s5, s6⟩, hx13, hj1⟩ := bind_some hj1
      refine go_op rfl rfl rfl (o_call_own [4, 5, 6, 1, 2, 3] Try.call27 rfl rfl (getL_c rfl (getL_c rfl (getL_c rfl (getL_c rfl (getL_c rfl (getL_c rfl getL_n)))))) (w_qi_Either hx13) (by rintro _ _ ⟨_, _, _, _, _, _, rfl, rfl⟩; rfl)) ?_
      rintro _ _ ⟨_, ⟨c_r1, a_r2, cap_r2, c_r3, a_r4, cap_r4, rfl, rfl⟩, rfl⟩
      refine go_ms (ms' := [_, box b2 110 [_, _], _, _, box b1 110 [_, _], _, _]) rfl ?_
      refine go_p rfl rfl rfl (o_move rfl) ?_
      refine go_p rfl rfl rfl (o_extract rfl rfl) ?_
      refine go_p rfl rfl rfl (o_extract rfl rfl) ?_
      refine go_p rfl rfl rfl (o_assign rfl) ?_
      refine go_p rfl rfl rfl (o_assign rfl) ?_
      refine go_nil ?_
      refine g_seq ?_
      refine g_region ?_
      refine go_p rfl rfl rfl (o_move rfl) ?_
      refine go_p rfl rfl rfl (o_move rfl) ?_
      refine go_p rfl rfl rfl (o_move rfl) ?_
      obtain ⟨x7, hx14, hj1⟩ := bind_some hj1
      refine go_p rfl rfl rfl (.view (peekE (i := 58) 0 rfl rfl rfl) (o_indexAddr_m Try.runUnderlying28 Try.sizeOf3 rfl rfl hx14)) ?_
      refine go_p rfl rfl rfl (o_load Try.isAgg3 rfl rfl) ?_
      refine go_p rfl rfl rfl (o_cmp rfl rfl rfl) ?_
      refine go_p rfl rfl rfl (o_move rfl) ?_
      apply go_or [(7, _), (8, _), (9, _), (10, _)] 3 66 (t := 63) ⟨rfl, rfl, rfl, rfl, trivial⟩ rfl
      · intro hg_1 hk1
        refine go_wantp rfl rfl rfl hg_1 rfl rfl (o_move rfl) ?_
        refine go_wantp rfl rfl rfl hg_1 rfl rfl (o_not rfl) ?_
        refine go_p rfl rfl rfl (o_pickF rfl hg_1 rfl) ?_
        exact go_meet hk1 (rfl) ⟨rfl, rfl, rfl, rfl, trivial⟩
      · intro hg_1 hk1
        refine go_skip rfl rfl rfl hg_1 rfl rfl ?_
        refine go_skip rfl rfl rfl hg_1 rfl rfl ?_
        refine go_p rfl rfl rfl (o_pickT rfl hg_1 rfl) ?_
        exact go_meet hk1 (rfl) ⟨rfl, rfl, rfl, rfl, trivial⟩
      refine go_nil ?_
      refine g_cond rfl (fun hc2 => ?_) (fun hc2 => ?_)
      · replace hj1 := cond_t hc2 hj1
        refine g_seq ?_
        refine g_region ?_
        refine go_p rfl rfl rfl (o_assign rfl) ?_
        refine go_nil ?_
        refine g_ret ?_
        obtain rfl := some_eq hj1
        replace hm1 := on_ret hm1
        exact retK (ret_one' rfl (ret_tmp rfl) (perm_drop _)) (congrArg (fun (p : Bool) => (.bool p : D)) (some_eq hm1))
      · replace hj1 := cond_f hc2 hj1
        refine g_skip ?_
        refine g_region ?_
        refine go_p rfl rfl rfl (o_move rfl) ?_
        obtain ⟨hg15, hj1⟩ := grd_some hj1
        refine go_p rfl rfl rfl (o_add rfl rfl (i64_id hg15)) ?_
        refine go_p rfl rfl rfl (o_assign rfl) ?_
        refine go_nil ?_
        exact ⟨_, (_, (_, _), _, (_, _)), hj1, ⟨rfl, trivial⟩, ⟨rfl, rfl, rfl, trivial⟩, [], rfl⟩
    · replace hj1 := cond_f hc1 hj1
      refine g_exit ?_
      exact ⟨_, (_, (_, _), _, (_, _)), some_eq hj1, trivial, ⟨rfl, trivial⟩, [], rfl⟩
  · rintro ⟨ch1, l4, ch2, l5⟩ ⟨c_r3, ⟨a_r4, cap_r4⟩, c_r1, ⟨a_r2, cap_r2⟩⟩ hst
    subst hst
    replace hm1 := on_go hm1
    refine k_norm (L' := [(8, _)]) (ms' := [_, box b2 110 [.v (.chan (some c_r3)), .v (.slice a_r4 l4.length cap_r4)], chn c_r3 ch1.1 D.i64 ch1.2, que a_r4 cap_r4 3 1 D.i64 l4, box b1 110 [.v (.chan (some c_r1)), .v (.slice a_r2 l5.length cap_r2)], chn c_r1 ch2.1 D.i64 ch2.2, que a_r2 cap_r2 3 1 D.i64 l5]) rfl rfl ?_
    refine g_seq ?_
    refine g_region ?_
    refine go_p rfl rfl rfl (o_assign rfl) ?_
    refine go_nil ?_
    refine g_seq ?_
    refine g_region ?_
    refine go_p rfl rfl rfl (o_move rfl) ?_
    refine go_p rfl rfl rfl (o_buildSlice (xs := [_]) (f := D.i64) (l := [_]) Try.runUnderlying28 Try.sizeOf3 Try.zeroValue3 rfl rfl rfl (fun _ => ⟨rfl, rfl, rfl⟩) rfl) ?_
    obtain ⟨⟨⟩, hx16, hm1⟩ := bind_some hm1
    refine go_p rfl rfl rfl (o_call0 Try.call20 rfl (w_qi_PushN hx16)) ?_
    refine go_nil ?_
    refine g_seq ?_
    refine g_region ?_
    refine go_p rfl rfl rfl (o_move rfl) ?_
    obtain ⟨⟨x8, x9⟩, hx17, hm1⟩ := bind_some hm1
    refine go_p rfl rfl rfl (o_call0 Try.call16 rfl (w_qi_PopN hx17)) ?_
    refine go_p rfl rfl rfl (o_move rfl) ?_
    refine go_p rfl rfl rfl (o_extract rfl rfl) ?_
    refine go_p rfl rfl rfl (o_extract rfl rfl) ?_
    refine go_p rfl rfl rfl (o_assign rfl) ?_
    refine go_p rfl rfl rfl (o_assign rfl) ?_
    refine go_nil ?_
    refine g_seq ?_
    refine g_region ?_
    refine go_p rfl rfl rfl (o_move rfl) ?_
    refine go_p rfl rfl rfl (o_move rfl) ?_
    obtain ⟨⟨x10, x11, s7⟩, hx18, hm1⟩ := bind_some hm1
    refine go_op rfl rfl rfl (o_call_own [1, 2, 3] Try.call27 rfl rfl (getL_c rfl (getL_c rfl (getL_c rfl getL_n))) (w_qi_EitherN hx18) (by rintro _ _ ⟨_, _, _, rfl, rfl⟩; rfl)) ?_
    rintro _ _ ⟨_, ⟨c_r3, a_r4, cap_r4, rfl, rfl⟩, rfl⟩
    refine go_ms (ms' := [_, box b2 110 [_, _], _, _, box b1 110 [_, _], _, _]) rfl ?_
    refine go_p rfl rfl rfl (o_move rfl) ?_
    refine go_p rfl rfl rfl (o_extract rfl rfl) ?_
    refine go_p rfl rfl rfl (o_extract rfl rfl) ?_
    refine go_p rfl rfl rfl (o_assign rfl) ?_
    refine go_p rfl rfl rfl (o_assign rfl) ?_
    refine go_nil ?_
    refine g_seq ?_
    refine g_region ?_
    refine go_p rfl rfl rfl (o_move rfl) ?_
    refine go_p rfl rfl rfl (o_not rfl) ?_
    refine go_p rfl rfl rfl (o_move rfl) ?_
    apply go_and [(13, _), (17, _)] 3 86 (t := 83) ⟨rfl, rfl, trivial⟩ rfl
    · intro hg_2 hk2
      refine go_wantp rfl rfl rfl hg_2 rfl rfl (o_move rfl) ?_
      refine go_wantp rfl rfl rfl hg_2 rfl rfl (o_cmp rfl rfl rfl) ?_
      refine go_p rfl rfl rfl (o_pickT rfl hg_2 rfl) ?_
      exact go_meet hk2 (rfl) ⟨rfl, rfl, trivial⟩
    · intro hg_2 hk2
      refine go_skip rfl rfl rfl hg_2 rfl rfl ?_
      refine go_skip rfl rfl rfl hg_2 rfl rfl ?_
      refine go_p rfl rfl rfl (o_pickF rfl hg_2 rfl) ?_
      exact go_meet hk2 (rfl) ⟨rfl, rfl, trivial⟩
    refine go_p rfl rfl rfl (o_move rfl) ?_
    apply go_and [(13, _)] 3 90 (t := 87) ⟨rfl, trivial⟩ rfl
    · intro hg_3 hk3
      refine go_wantp rfl rfl rfl hg_3 rfl rfl (o_move rfl) ?_
      refine go_wantp rfl rfl rfl hg_3 rfl rfl (o_not rfl) ?_
      refine go_p rfl rfl rfl (o_pickT rfl hg_3 rfl) ?_
      exact go_meet hk3 (rfl) ⟨rfl, trivial⟩
    · intro hg_3 hk3
      refine go_skip rfl rfl rfl hg_3 rfl rfl ?_
      refine go_skip rfl rfl rfl hg_3 rfl rfl ?_
      refine go_p rfl rfl rfl (o_pickF rfl hg_3 rfl) ?_
      exact go_meet hk3 (rfl) ⟨rfl, trivial⟩
    refine go_p rfl rfl rfl (o_move rfl) ?_
    obtain ⟨p1, hp_4, hm1⟩ := bind_some hm1
    refine go_two [] 11 102 p1 (t := 91) trivial rfl (fun hg_4 hk4 => ?_) (fun hg_4 hk4 => ?_) ?_
    · replace hp_4 := cond_t hg_4 hp_4
      refine go_wantp rfl rfl rfl hg_4 rfl rfl (o_move rfl) ?_
      obtain ⟨x12, hx19, hp_4⟩ := bind_some hp_4
      refine go_wantp rfl rfl rfl hg_4 rfl rfl (o_call0 Try.call21 rfl (w_qi_LenN hx19)) ?_
      refine go_wantp rfl rfl rfl hg_4 rfl rfl (o_move rfl) ?_
      obtain ⟨x13, hx20, hp_4⟩ := bind_some hp_4
      refine go_wantp rfl rfl rfl hg_4 rfl rfl (o_call0 Try.call14 rfl (w_qi_RoomN hx20)) ?_
      obtain ⟨hg21, hp_4⟩ := grd_some hp_4
      refine go_wantp rfl rfl rfl hg_4 rfl rfl (o_add rfl rfl (i64_id hg21)) ?_
      refine go_wantp rfl rfl rfl hg_4 rfl rfl (o_move rfl) ?_
      obtain ⟨x14, hx22, hp_4⟩ := bind_some hp_4
      refine go_wantp rfl rfl rfl hg_4 rfl rfl (o_call0 Try.call19 rfl (w_qi_DrainN hx22)) ?_
      refine go_wantp rfl rfl rfl hg_4 rfl rfl (o_len Try.runUnderlying28 rfl) ?_
      obtain ⟨hg23, hp_4⟩ := grd_some hp_4
      refine go_wantp rfl rfl rfl hg_4 rfl rfl (o_add rfl rfl (i64_id hg23)) ?_
      refine go_wantp rfl rfl rfl hg_4 rfl rfl (o_cmp rfl rfl rfl) ?_
      refine go_p rfl rfl rfl (o_pickT rfl hg_4 rfl) ?_
      exact go_meet hk4 (congrArg (fun b => some (D.bool b)) (some_eq hp_4)) trivial
    · replace hp_4 := cond_f hg_4 hp_4
      refine go_skip rfl rfl rfl hg_4 rfl rfl ?_
      refine go_skip rfl rfl rfl hg_4 rfl rfl ?_
      refine go_skip rfl rfl rfl hg_4 rfl rfl ?_
      refine go_skip rfl rfl rfl hg_4 rfl rfl ?_
      refine go_skip rfl rfl rfl hg_4 rfl rfl ?_
      refine go_skip rfl rfl rfl hg_4 rfl rfl ?_
      refine go_skip rfl rfl rfl hg_4 rfl rfl ?_
      refine go_skip rfl rfl rfl hg_4 rfl rfl ?_
      refine go_skip rfl rfl rfl hg_4 rfl rfl ?_
      refine go_skip rfl rfl rfl hg_4 rfl rfl ?_
      refine go_p rfl rfl rfl (o_pickF rfl hg_4 rfl) ?_
      exact go_meet hk4 (congrArg (fun b => some (D.bool b)) (some_eq hp_4)) trivial
    refine go_p rfl rfl rfl (o_move rfl) ?_
    obtain ⟨p2, hp_5, hm1⟩ := bind_some hm1
    refine go_two [] 2 105 p2 (t := 103) trivial rfl (fun hg_5 hk5 => ?_) (fun hg_5 hk5 => ?_) ?_
    · replace hp_5 := cond_t hg_5 hp_5
      obtain ⟨x15, hx24, hp_5⟩ := bind_some hp_5
      refine go_wantp rfl rfl rfl hg_5 rfl rfl (o_call0 Try.call22 rfl (w_syntagmalaw18_works hx24)) ?_
      refine go_p rfl rfl rfl (o_pickT rfl hg_5 rfl) ?_
      exact go_meet hk5 (congrArg (fun b => some (D.bool b)) (some_eq hp_5)) trivial
    · replace hp_5 := cond_f hg_5 hp_5
      refine go_skip rfl rfl rfl hg_5 rfl rfl ?_
      refine go_p rfl rfl rfl (o_pickF rfl hg_5 rfl) ?_
      exact go_meet hk5 (congrArg (fun b => some (D.bool b)) (some_eq hp_5)) trivial
    refine go_p rfl rfl rfl (o_assign rfl) ?_
    refine go_nil ?_
    refine g_ret ?_
    exact retK (ret_one' rfl (ret_tmp rfl) (perm_drop _)) (congrArg (fun (p : Bool) => (.bool p : D)) (some_eq hm1))
end Go.Proofs.Ytafphfokopkhdaa
set_option linter.unusedVariables false
set_option linter.unusedSimpArgs false
set_option maxRecDepth 100000
namespace Go.Proofs.Ytafphfokopkhdaa
open Go.V
open Classical
theorem FUv : FU = 18446744073709551616 := rfl
theorem bt (b c : Bool) : (bif b then some true else some c : Option Bool) = some (b || c) := by cases b <;> rfl
theorem ints_eq (l : List Int) (h : l.length ≤ 100) : m_syntagmabase_Ints l = some l := by
  unfold m_syntagmabase_Ints
  rw [grd_pos (by omega)]; rfl
theorem sli_tl {α : Type} (x : α) (l : List α) : sli (x :: l) 1 (((x :: l).length : Nat) : Int) = some l := by
  have h := sli_nat (x :: l) 1 (x :: l).length (by simp) (Nat.le_refl _)
  rw [List.take_length] at h
  exact h
def roomN (r : Int) : Nat := (if 64 < (if 0 > r then 0 else r) then 64 else (if 0 > r then 0 else r)).toNat
theorem room_b (r : Int) : 0 ≤ (if 64 < (if 0 > r then 0 else r) then 64 else (if 0 > r then 0 else r)) ∧ (if 64 < (if 0 > r then 0 else r) then 64 else (if 0 > r then 0 else r)) ≤ 64 := by
  split <;> split <;> omega
def qiS (c : Nat) (l : List Int) : QueueQueueInt := ⟨(c, l.take c), l.drop c⟩
theorem qi_fill_l (c : Nat) : ∀ (n : Nat) (buf more : List Int), more.length < n → buf.length ≤ c → m_qi_fill_l1 n ((c, buf), more) = some (qiS c (buf ++ more))
  | 0, buf, more, h, _ => by omega
  | n + 1, buf, [], _, hb => by
    simp only [m_qi_fill_l1]
    rw [decide_eq_false (by simp), cond_false]
    unfold qiS
    rw [List.append_nil, List.take_of_length_le hb, List.drop_eq_nil_of_le hb]
  | n + 1, buf, x :: more, h, hb => by
    simp only [m_qi_fill_l1]
    rw [decide_eq_true (by simp only [List.length_cons]; omega), cond_true, idx_c0, Option.bind_some]
    by_cases hc : c ≤ buf.length
    · rw [decide_eq_true hc, cond_true]
      unfold qiS
      have hl : buf.length = c := by omega
      rw [List.take_left' hl, List.drop_left' hl]
    · rw [decide_eq_false hc, cond_false, sli_tl, Option.bind_some, qi_fill_l c n (buf ++ [x]) more (by simp only [List.length_cons] at h; omega) (by simp only [List.length_append, List.length_cons, List.length_nil]; omega), List.append_assoc]
      rfl
theorem qi_fill_eq (c : Nat) (buf more : List Int) (h : more.length ≤ 1000000) (hb : buf.length ≤ c) : m_qi_fill ⟨(c, buf), more⟩ = some (qiS c (buf ++ more)) := qi_fill_l c FU buf more (by rw [FUv]; omega) hb
theorem qi_push (c : Nat) (l k : List Int) (h : l.length + k.length ≤ 1000) : m_qi_Push (qiS c l) k = some (qiS c (l ++ k)) := by
  unfold m_qi_Push
  rw [grd_pos (by show ((l.drop c).length + k.length) * 8 ≤ _; rw [List.length_drop]; omega), show m_qi_fill ⟨(qiS c l).first, (qiS c l).more ++ k⟩ = _ from qi_fill_eq c (l.take c) (l.drop c ++ k) (by rw [List.length_append, List.length_drop]; omega) (by rw [List.length_take]; omega), Option.bind_some, ← List.append_assoc, List.take_append_drop]
theorem qi_pop_nil (c : Nat) : m_qi_Pop (qiS c []) = some (0, false, qiS c []) := by
  unfold m_qi_Pop
  rw [show (qiS c []).first.2 = [] from List.take_nil, show (qiS c []).more = [] from List.drop_nil]
  rw [show (([] : List Int).isEmpty) = true from rfl, cond_true, decide_eq_true (by rfl), cond_true]
  unfold qiS
  rw [List.take_nil, List.drop_nil]
theorem qi_pop_cons (c : Nat) (x : Int) (l : List Int) (h : l.length ≤ 1000) : m_qi_Pop (qiS c (x :: l)) = some (x, true, qiS c l) := by
  unfold m_qi_Pop
  cases c with
  | zero =>
    rw [show (qiS 0 (x :: l)).first.2 = [] from rfl, show (qiS 0 (x :: l)).more = x :: l from rfl, show (([] : List Int).isEmpty) = true from rfl, cond_true, decide_eq_false (by simp only [List.length_cons]; omega), cond_false, idx_c0, Option.bind_some, sli_tl, Option.bind_some]
    rfl
  | succ k =>
    rw [show (qiS (k + 1) (x :: l)).first.2 = x :: l.take k from rfl, show (qiS (k + 1) (x :: l)).more = l.drop k from rfl, show (x :: l.take k).isEmpty = false from rfl, cond_false, idx_c0, Option.bind_some, sli_tl, Option.bind_some, show (qiS (k + 1) (x :: l)).first.1 = k + 1 from rfl, qi_fill_eq _ _ _ (by rw [List.length_drop]; omega) (by rw [List.length_take]; omega), Option.bind_some, List.take_append_drop]
theorem qi_new (r : Int) : m_qi_New r = some (qiS (roomN r) []) := by
  unfold m_qi_New
  obtain ⟨h1, h2⟩ := room_b r
  rw [grd_pos h1, grd_pos (by omega), grd_pos (by omega)]
  unfold qiS roomN
  rw [List.take_nil, List.drop_nil]
theorem works18 : m_syntagmalaw18_works = some true := by kernel_rfl
theorem min100 {α : Type} (l : List α) : sli l 0 (if 100 < (l.length : Int) then 100 else (l.length : Int)) = some (l.take 100) := by
  by_cases h : 100 < (l.length : Int)
  · rw [if_pos h]; exact sli_take (k := 100) (by omega)
  · rw [if_neg h, sli_take (by omega), List.take_of_length_le (by omega), List.take_of_length_le (by omega)]
theorem qi_either_l (c e : Nat) (x : Int) (a b : List Int) (h : a.length ≤ 1000) : m_qi_Either (qiS c (x :: a)) (qiS e b) = some (x, true, qiS c a, qiS e b) := by
  unfold m_qi_Either
  rw [show m_qi_Pop ⟨(qiS c (x :: a)).first, (qiS c (x :: a)).more⟩ = _ from qi_pop_cons c x a h, Option.bind_some]
  rfl
theorem qi_either_r (c e : Nat) (x : Int) (b : List Int) (h : b.length ≤ 1000) : m_qi_Either (qiS c []) (qiS e (x :: b)) = some (x, true, qiS c [], qiS e b) := by
  unfold m_qi_Either
  rw [show m_qi_Pop ⟨(qiS c []).first, (qiS c []).more⟩ = _ from qi_pop_nil c, Option.bind_some]
  dsimp only
  rw [cond_false, show m_qi_Pop ⟨(qiS e (x :: b)).first, (qiS e (x :: b)).more⟩ = _ from qi_pop_cons e x b h, Option.bind_some]
theorem either_loop (c e : Nat) (a b : List Int) (ha : a.length ≤ 100) (hb : b.length ≤ 100) :
    m_syntagmalaw18_QueueEither_l1 b a FU (0, (qiS e b).first, (qiS e b).more, (qiS c a).first, (qiS c a).more) = some (Out.go ((qiS e []).first, (qiS e []).more, (qiS c []).first, (qiS c []).more)) := by
  obtain ⟨o, e1, e2⟩ := loop_rng (φ := fun n i (s : (Nat × List Int) × List Int × (Nat × List Int) × List Int) => m_syntagmalaw18_QueueEither_l1 b a n (i, s)) (l := a ++ b)
    (fun i s => s = ((qiS e (b.drop (i - a.length))).first, (qiS e (b.drop (i - a.length))).more, (qiS c (a.drop i)).first, (qiS c (a.drop i)).more)) (fun o => o = Out.go ((qiS e []).first, (qiS e []).more, (qiS c []).first, (qiS c []).more))
    (by
      rintro n i x s hx hi rfl
      refine .inl ⟨_, ?_, rfl⟩
      rw [List.length_append] at hi
      simp only [m_syntagmalaw18_QueueEither_l1]
      rw [decide_eq_true (show (i : Int) < ((a ++ b).length : Int) by rw [List.length_append]; omega), cond_true]
      by_cases hia : i < a.length
      · rw [List.getElem?_append_left hia] at hx
        have hd : a.drop i = x :: a.drop (i + 1) := by
          rw [List.drop_eq_getElem_cons hia]
          rw [List.getElem?_eq_getElem hia] at hx
          rw [Option.some.inj hx]
        have hb0 : i - a.length = 0 ∧ i + 1 - a.length = 0 := by omega
        have hy : (a ++ b)[i]? = some x := by rw [List.getElem?_append_left hia]; exact hx
        rw [hd, show m_qi_Either (⟨(qiS c (x :: a.drop (i + 1))).first, (qiS c (x :: a.drop (i + 1))).more⟩ : QueueQueueInt) (⟨(qiS e (b.drop (i - a.length))).first, (qiS e (b.drop (i - a.length))).more⟩ : QueueQueueInt) = _ from qi_either_l c e x (a.drop (i + 1)) (b.drop (i - a.length)) (by rw [List.length_drop]; omega), Option.bind_some]
        dsimp only
        rw [getI hy, Option.bind_some, decide_eq_true rfl, show ((!true) || (!true)) = false by decide, cond_false, grd_pos (by omega), hb0.1, hb0.2]
      · have hy := hx
        rw [List.getElem?_append_right (by omega)] at hx
        have hib : i - a.length < b.length := by omega
        have hd : b.drop (i - a.length) = x :: b.drop (i + 1 - a.length) := by
          rw [List.drop_eq_getElem_cons hib]
          rw [List.getElem?_eq_getElem hib] at hx
          rw [Option.some.inj hx, show i - a.length + 1 = i + 1 - a.length by omega]
        have h0 : a.drop i = [] ∧ a.drop (i + 1) = [] := ⟨List.drop_eq_nil_of_le (by omega), List.drop_eq_nil_of_le (by omega)⟩
        rw [hd, h0.1, h0.2, show m_qi_Either (⟨(qiS c []).first, (qiS c []).more⟩ : QueueQueueInt) (⟨(qiS e (x :: b.drop (i + 1 - a.length))).first, (qiS e (x :: b.drop (i + 1 - a.length))).more⟩ : QueueQueueInt) = _ from qi_either_r c e x (b.drop (i + 1 - a.length)) (by rw [List.length_drop]; omega), Option.bind_some]
        dsimp only
        rw [getI hy, Option.bind_some, decide_eq_true rfl, show ((!true) || (!true)) = false by decide, cond_false, grd_pos (by omega)])
    (by
      rintro n s rfl
      refine ⟨_, ?_, rfl⟩
      simp only [m_syntagmalaw18_QueueEither_l1]
      rw [decide_eq_false (by omega), cond_false, List.length_append, List.drop_eq_nil_of_le (show b.length ≤ a.length + b.length - a.length by omega), List.drop_eq_nil_of_le (show a.length ≤ a.length + b.length by omega)]) (by rw [FUv, List.length_append]; omega)
    ((qiS e b).first, (qiS e b).more, (qiS c a).first, (qiS c a).more) (by rw [Nat.zero_sub, List.drop_zero, List.drop_zero])
  rw [e1, e2]
theorem law_QueueEither (a b : List Int) (room : Int) : m_syntagmalaw18_QueueEither a b room = some true := by
  have hla : (a.take 100).length ≤ 100 := by rw [List.length_take]; omega
  have hlb : (b.take 100).length ≤ 100 := by rw [List.length_take]; omega
  have hO : m_base_IntsO (a.take 100) = some (a.take 100) := by
    unfold m_base_IntsO
    rw [grd_pos (by omega)]; rfl
  unfold m_syntagmalaw18_QueueEither
  rw [min100, Option.bind_some, ints_eq _ hla, Option.bind_some, min100, Option.bind_some, ints_eq _ hlb, Option.bind_some, qi_new, Option.bind_some, qi_new, Option.bind_some, ints_eq _ hla, Option.bind_some,
    show m_qi_Push (⟨(qiS (roomN room) []).first, (qiS (roomN room) []).more⟩ : QueueQueueInt) (a.take 100) = _ from qi_push (roomN room) [] (a.take 100) (by simp only [List.length_nil]; omega), Option.bind_some, ints_eq _ hlb, Option.bind_some,
    show m_qi_Push (⟨(qiS (roomN 1) []).first, (qiS (roomN 1) []).more⟩ : QueueQueueInt) (b.take 100) = _ from qi_push (roomN 1) [] (b.take 100) (by simp only [List.length_nil]; omega), Option.bind_some, hO, Option.bind_some, grd_pos (by omega), List.nil_append, List.nil_append, either_loop _ _ _ _ hla hlb, Option.bind_some, go_on]
  dsimp only
  rw [show m_qi_PushN [1] = some () from rfl, Option.bind_some]
  rw [show m_qi_PopN = some (0, false) from rfl, Option.bind_some]
  dsimp only
  rw [show m_qi_EitherN (⟨(qiS (roomN 1) []).first, (qiS (roomN 1) []).more⟩ : QueueQueueInt) = some (0, false, qiS (roomN 1) []) by
    unfold m_qi_EitherN
    rw [show m_qi_PopN = some (0, false) from rfl, Option.bind_some]
    dsimp only
    rw [cond_false, show m_qi_Pop ⟨(qiS (roomN 1) []).first, (qiS (roomN 1) []).more⟩ = _ from qi_pop_nil _, Option.bind_some], Option.bind_some]
  dsimp only
  rw [show (((!false) && decide ((0 : Int) = 0)) && (!false)) = true by decide, cond_true, show m_qi_LenN = some 0 from rfl, Option.bind_some, show m_qi_RoomN = some 0 from rfl, Option.bind_some, grd_pos (by omega), show m_qi_DrainN = some [] by kernel_rfl, Option.bind_some, grd_pos (by simp [InR]), Option.bind_some]
  rw [works18]
  rfl
end Go.Proofs.Ytafphfokopkhdaa
