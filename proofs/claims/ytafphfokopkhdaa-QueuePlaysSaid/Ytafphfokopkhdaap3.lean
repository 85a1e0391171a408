/- Part 3 of the proof: a program logic, what the functions compute, and what these answer; no condition. -/
import Derived.Test.Ytafphfokopkhdaap2
import Derived.Test.YtafphfokopkhdaaProg
set_option linter.unusedVariables false
set_option linter.unusedSimpArgs false
set_option maxRecDepth 100000
set_option maxHeartbeats 2000000
namespace Go.Proofs.Ytafphfokopkhdaa
open Go.V
theorem Try_mixed : Try.prog.follows .mixedOrders = true := by kernel_rfl
structure ApiTField where
  name : (List UInt8)
  at_ : Int
def ApiTField.d (x : ApiTField) : D := .agg [.str x.name, .i64 x.at_]
structure ApiTNode where
  kind : Int
  a : Int
  b : Int
  l : (List ApiTField)
def ApiTNode.d (x : ApiTNode) : D := .agg [.i64 x.kind, .i64 x.a, .i64 x.b, .list 2 ApiTField.d x.l]
structure AutoEdge where
  name : (List UInt8)
  to_ : Int
def AutoEdge.d (x : AutoEdge) : D := .agg [.str x.name, .i64 x.to_]
theorem pl_110 : ∀ fs, (∀ w, (underlying 110).run Try.prog w = .ok (.struct fs) w) → placesOf Try.prog fs [(0, 1), (1, 1)] := by
  intro fs h w
  have := (h w).symm.trans (Try.runUnderlying110 w)
  simp only [Result.ok.injEq, TypeDesc.struct.injEq, and_true] at this
  subst this
  simp [Try.sizeOf108, Try.sizeOf28, Sem.run]
structure QueueQueueInt where
  first : (Nat × List Int)
  more : (List Int)
def m_qi_New (room1 : Int)  : Option QueueQueueInt :=
  grd (0 ≤ (if 64 < (if 0 > room1 then 0 else room1) then 64 else (if 0 > room1 then 0 else room1))) <|
  grd ((if 64 < (if 0 > room1 then 0 else room1) then 64 else (if 0 > room1 then 0 else room1)) ≤ 9223372036854775807) <|
  grd ((8 : Int) * (if 64 < (if 0 > room1 then 0 else room1) then 64 else (if 0 > room1 then 0 else room1)) ≤ 281474976710544) <|
  some (⟨(((if 64 < (if 0 > room1 then 0 else room1) then 64 else (if 0 > room1 then 0 else room1))).toNat, ([] : List Int)), ([] : List Int)⟩ : QueueQueueInt)
theorem w_qi_New {room1 : Int}  {s_1 : QueueQueueInt} (hm : m_qi_New room1 = some s_1) : Go.V.Fn Try.prog 12 [.i64 room1] [] (fun d ms' => ∃ b_s_1 c_s_1c0 a_s_1c1 cap_s_1c1, d = .v (.pointer (some ⟨b_s_1, 0, none⟩)) ∧ ms' = [box b_s_1 110 [.v (.chan (some c_s_1c0)), .v (.slice a_s_1c1 s_1.more.length cap_s_1c1)], chn c_s_1c0 s_1.first.1 D.i64 s_1.first.2, que a_s_1c1 cap_s_1c1 3 1 D.i64 s_1.more]) := by
  unfold m_qi_New at hm
  refine fn_intro Try.func12 rfl Try.ntmps12 rfl fun H0 fr w0 => ?_
  refine g_seq ?_
  refine g_region ?_
  refine go_p rfl rfl rfl (o_assign rfl) ?_
  refine go_nil ?_
  refine g_seq ?_
  refine g_region ?_
  refine go_p rfl rfl rfl (o_move rfl) ?_
  refine go_p rfl rfl rfl (o_max rfl rfl) ?_
  refine go_p rfl rfl rfl (o_min rfl rfl) ?_
  obtain ⟨hg1, hm⟩ := grd_some hm
  obtain ⟨hg2, hm⟩ := grd_some hm
  obtain ⟨hg3, hm⟩ := grd_some hm
  refine go_op rfl rfl rfl (o_makeChan (f := D.i64) Try.underlying108 Try.type3 rfl hg1 hg2 hg3) ?_
  rintro _ _ ⟨c_r1, rfl, rfl⟩
  refine go_p rfl rfl rfl (o_build (zs := [.v (.chan none), .v (.slice none 0 0)]) Try.runUnderlying110 Try.zeroValue110 (pl_110 _ Try.runUnderlying110) rfl rfl rfl rfl) ?_
  refine go_op rfl rfl rfl (o_box_own rfl rfl rfl) ?_
  rintro _ _ ⟨b1, rfl, rfl⟩
  refine go_conv (refines_newrow (T := 3) (sz := 1) (f := D.i64)) ?_
  refine go_p rfl rfl rfl (o_assign rfl) ?_
  refine go_nil ?_
  refine g_conv (refines_que 0 rfl rfl) ?_
  refine g_ret ?_
  obtain rfl := some_eq hm
  exact retK (ret_one' rfl (ret_tmp rfl) (permA 1 rfl (permA 1 rfl (permA 0 rfl permN)))) ⟨_, _, _, _, rfl, rfl⟩
theorem fi_110_1 : FieldIs Try.prog 110 1 1 1 false := ⟨⟨_, _, Try.runUnderlying110, rfl, rfl, Try.sizeOf28, by decide, Try.isAgg28⟩⟩
theorem fi_110_0 : FieldIs Try.prog 110 0 0 1 false := ⟨⟨_, _, Try.runUnderlying110, rfl, rfl, Try.sizeOf108, by decide, Try.isAgg108⟩⟩
def m_qi_fill_l1  : Nat → ((Nat × List Int) × (List Int)) → Option QueueQueueInt
  | 0, _ => none
  | n + 1, (ch1, l1) =>
    bif (decide (0 < (l1.length : Int))) then
      (idx l1 0).bind fun x1 =>
      bif (decide (ch1.1 ≤ ch1.2.length)) then
        some (⟨ch1, l1⟩ : QueueQueueInt)
      else
        (sli l1 1 (l1.length : Int)).bind fun l2 =>
        m_qi_fill_l1 n ((ch1.1, (ch1.2 ++ [x1])), l2)
    else
      some (⟨ch1, l1⟩ : QueueQueueInt)
def m_qi_fill (q1 : QueueQueueInt)  : Option QueueQueueInt :=
  m_qi_fill_l1 FU (q1.first, q1.more)
theorem w_qi_fill {q1 : QueueQueueInt}  {s_1 : QueueQueueInt} {b_q0 : Nat} {c_q0c0 : Nat} {a_q0c1 : Option Addr} {cap_q0c1 : Nat} (hm : m_qi_fill q1 = some s_1) : Go.V.Fn Try.prog 69 [.v (.pointer (some ⟨b_q0, 0, none⟩))] [box b_q0 110 [.v (.chan (some c_q0c0)), .v (.slice a_q0c1 q1.more.length cap_q0c1)], chn c_q0c0 q1.first.1 D.i64 q1.first.2, que a_q0c1 cap_q0c1 3 1 D.i64 q1.more] (fun d ms' => ∃ c_s_1c0 a_s_1c1 cap_s_1c1, d = .tup [] ∧ ms' = [box b_q0 110 [.v (.chan (some c_s_1c0)), .v (.slice a_s_1c1 s_1.more.length cap_s_1c1)], chn c_s_1c0 s_1.first.1 D.i64 s_1.first.2, que a_s_1c1 cap_s_1c1 3 1 D.i64 s_1.more]) := by
  unfold m_qi_fill at hm
  refine fn_intro Try.func69 rfl Try.ntmps69 rfl fun H0 fr w0 => ?_
  refine g_block ?_
  refine g_loop_m [(0, _)] [] (fun (st : ((Nat × List Int) × (List Int))) (hid : Nat × (Option Addr × Nat)) => match st, hid with | (ch1, l1), (c_q0c0, (a_q0c1, cap_q0c1)) => []) (fun F (st : ((Nat × List Int) × (List Int))) (hid : Nat × (Option Addr × Nat)) => match st, hid with | (ch1, l1), (c_q0c0, (a_q0c1, cap_q0c1)) => [box b_q0 110 [.v (.chan (some c_q0c0)), .v (.slice a_q0c1 l1.length cap_q0c1)], chn c_q0c0 ch1.1 D.i64 ch1.2, que a_q0c1 cap_q0c1 3 1 D.i64 l1]) (_, (_, _)) hm (fun _ => rfl) ⟨rfl, trivial⟩ trivial trivial rfl ?_
  rintro n ⟨ch1, l1⟩ ⟨c_q0c0, ⟨a_q0c1, cap_q0c1⟩⟩ hm
  rw [m_qi_fill_l1] at hm
  refine g_norm (L' := [(0, _)]) (ms' := [box b_q0 110 [.v (.chan (some c_q0c0)), .v (.slice a_q0c1 l1.length cap_q0c1)], chn c_q0c0 ch1.1 D.i64 ch1.2, que a_q0c1 cap_q0c1 3 1 D.i64 l1]) rfl rfl ?_
  refine g_seq ?_
  refine g_seq ?_
  refine g_region ?_
  refine go_p rfl rfl rfl (o_move rfl) ?_
  refine go_p rfl rfl rfl (o_nilCheck_box rfl) ?_
  refine go_p rfl rfl rfl (o_fieldAddr_box fi_110_1 rfl) ?_
  refine go_p rfl rfl rfl (o_load_box 0 Try.isAgg28 rfl rfl rfl rfl) ?_
  refine go_p rfl rfl rfl (.view (peekQ (i := 5) 2 rfl rfl rfl) (o_len Try.runUnderlying28 rfl)) ?_
  refine go_p rfl rfl rfl (o_cmp rfl rfl rfl) ?_
  refine go_nil ?_
  refine g_cond rfl (fun hc1 => ?_) (fun hc1 => ?_)
  · replace hm := cond_t hc1 hm
    refine g_skip ?_
    refine g_block ?_
    refine g_seq ?_
    refine g_seq ?_
    refine g_region ?_
    refine go_p rfl rfl rfl (o_move rfl) ?_
    refine go_p rfl rfl rfl (o_nilCheck_box rfl) ?_
    refine go_p rfl rfl rfl (o_fieldAddr_box fi_110_0 rfl) ?_
    refine go_p rfl rfl rfl (o_load_box 0 Try.isAgg108 rfl rfl rfl rfl) ?_
    refine go_nil ?_
    refine g_region ?_
    refine go_p rfl rfl rfl (o_move rfl) ?_
    refine go_p rfl rfl rfl (o_nilCheck_box rfl) ?_
    refine go_p rfl rfl rfl (o_fieldAddr_box fi_110_1 rfl) ?_
    refine go_p rfl rfl rfl (o_load_box 0 Try.isAgg28 rfl rfl rfl rfl) ?_
    obtain ⟨x1, hx1, hm⟩ := bind_some hm
    refine go_p rfl rfl rfl (.view (peekQ (i := 15) 2 rfl rfl rfl) (o_indexAddr_m Try.runUnderlying28 Try.sizeOf3 rfl rfl hx1)) ?_
    refine go_p rfl rfl rfl (o_load Try.isAgg3 rfl rfl) ?_
    refine go_nil ?_
    refine g_seq ?_
    rcases cond_split hm with ⟨hc2, hm⟩ | ⟨hc2, hm⟩
    · skip
      refine g_selp rfl rfl (s_send_full (q := x1) 1 Try.zeroValue3 rfl rfl rfl hc2) (fun _ _ => rfl) ?_
      refine go_ms (ms' := [box b_q0 110 [_, _], _, _]) rfl ?_
      refine go_p rfl rfl rfl (o_extract rfl rfl) ?_
      refine go_p rfl rfl rfl (o_cmp rfl rfl rfl) ?_
      refine go_nil ?_
      refine g_block ?_
      refine g_cond_false rfl rfl ?_
      refine g_ret ?_
      obtain rfl := some_eq hm
      exact retK (ret_none rfl (permA 0 rfl (permA 0 rfl (permA 0 rfl permN)))) ⟨_, _, _, rfl, rfl⟩
    · skip
      refine g_selp rfl rfl (s_send_room (q := x1) 1 Try.zeroValue3 rfl rfl rfl hc2) (fun _ _ => rfl) ?_
      refine go_ms (ms' := [box b_q0 110 [_, _], _, _]) rfl ?_
      refine go_p rfl rfl rfl (o_extract rfl rfl) ?_
      refine go_p rfl rfl rfl (o_cmp rfl rfl rfl) ?_
      refine go_nil ?_
      refine g_block ?_
      refine g_cond_true rfl rfl ?_
      refine g_region ?_
      refine go_p rfl rfl rfl (o_move rfl) ?_
      refine go_p rfl rfl rfl (o_move rfl) ?_
      refine go_p rfl rfl rfl (o_nilCheck_box rfl) ?_
      refine go_p rfl rfl rfl (o_fieldAddr_box fi_110_1 rfl) ?_
      refine go_p rfl rfl rfl (o_load_box 0 Try.isAgg28 rfl rfl rfl rfl) ?_
      obtain ⟨l2, hx2, hm⟩ := bind_some hm
      refine go_op rfl rfl rfl (o_slice_que 2 Try.runUnderlying28 Try.sizeOf3 rfl rfl rfl rfl hx2) ?_
      rintro _ _ ⟨a_q0c1, cap_q0c1, rfl, rfl⟩
      refine go_p rfl rfl rfl (o_nilCheck_box rfl) ?_
      refine go_p rfl rfl rfl (o_fieldAddr_box fi_110_1 rfl) ?_
      refine go_u rfl rfl (o_store_box 0 Try.sizeOf28 rfl rfl rfl rfl rfl rfl rfl rfl (Nat.le_of_ble_eq_true rfl)) ?_
      rintro _ _ rfl
      refine go_ms (ms' := [box b_q0 110 [_, _], _, _]) rfl ?_
      refine go_nil ?_
      exact ⟨_, (_, (_, _)), hm, trivial, ⟨rfl, trivial⟩, [], rfl⟩
  · replace hm := cond_f hc1 hm
    refine g_exit ?_
    obtain rfl := some_eq hm
    exact retKn (ret_none rfl (permA 0 rfl (permA 0 rfl (permA 0 rfl permN)))) ⟨_, _, _, rfl, rfl⟩
def m_qi_Push (q1 : QueueQueueInt) (l1 : (List Int))  : Option QueueQueueInt :=
  grd ((q1.more.length + l1.length) * 8 ≤ 140737488355328) <|
  (m_qi_fill (⟨q1.first, (q1.more ++ l1)⟩ : QueueQueueInt)).bind fun s1 =>
  some (⟨s1.first, s1.more⟩ : QueueQueueInt)
theorem w_qi_Push {q1 : QueueQueueInt} {l1 : (List Int)}  {s_1 : QueueQueueInt} {b_q0 : Nat} {c_q0c0 : Nat} {a_q0c1 : Option Addr} {cap_q0c1 : Nat} (hm : m_qi_Push q1 l1 = some s_1) : Go.V.Fn Try.prog 20 [.v (.pointer (some ⟨b_q0, 0, none⟩)), .list 1 D.i64 l1] [box b_q0 110 [.v (.chan (some c_q0c0)), .v (.slice a_q0c1 q1.more.length cap_q0c1)], chn c_q0c0 q1.first.1 D.i64 q1.first.2, que a_q0c1 cap_q0c1 3 1 D.i64 q1.more] (fun d ms' => ∃ c_s_1c0 a_s_1c1 cap_s_1c1, d = .tup [] ∧ ms' = [box b_q0 110 [.v (.chan (some c_s_1c0)), .v (.slice a_s_1c1 s_1.more.length cap_s_1c1)], chn c_s_1c0 s_1.first.1 D.i64 s_1.first.2, que a_s_1c1 cap_s_1c1 3 1 D.i64 s_1.more]) := by
  unfold m_qi_Push at hm
  refine fn_intro Try.func20 rfl Try.ntmps20 rfl fun H0 fr w0 => ?_
  refine g_seq ?_
  refine g_seq ?_
  refine g_region ?_
  refine go_p rfl rfl rfl (o_move rfl) ?_
  refine go_p rfl rfl rfl (o_eqnil Try.runUnderlying23 rfl nilP_ptr rfl) ?_
  refine go_nil ?_
  refine g_cond_false rfl rfl ?_
  refine g_skip ?_
  refine g_seq ?_
  refine g_region ?_
  refine go_p rfl rfl rfl (o_move rfl) ?_
  refine go_p rfl rfl rfl (o_move rfl) ?_
  refine go_p rfl rfl rfl (o_nilCheck_box rfl) ?_
  refine go_p rfl rfl rfl (o_fieldAddr_box fi_110_1 rfl) ?_
  refine go_p rfl rfl rfl (o_load_box 0 Try.isAgg28 rfl rfl rfl rfl) ?_
  refine go_p rfl rfl rfl (o_move rfl) ?_
  obtain ⟨hg1, hm⟩ := grd_some hm
  refine go_op rfl rfl rfl (o_append_que (a := _) 2 Try.underlying28 Try.type3 rfl rfl rfl rfl rfl rfl rfl (fun _ => rfl) (fun _ => rfl) hg1 (app_len hg1 rfl)) ?_
  rintro _ _ ⟨a_q0c1, cap_q0c1, rfl, rfl⟩
  refine go_ms (ms' := [box b_q0 110 [_, _], _, _]) rfl ?_
  refine go_p rfl rfl rfl (o_nilCheck_box rfl) ?_
  refine go_p rfl rfl rfl (o_fieldAddr_box fi_110_1 rfl) ?_
  refine go_u rfl rfl (o_store_box 0 Try.sizeOf28 rfl rfl rfl rfl rfl rfl rfl rfl (Nat.le_of_ble_eq_true rfl)) ?_
  rintro _ _ rfl
  refine go_ms (ms' := [box b_q0 110 [_, _], _, _]) rfl ?_
  refine go_nil ?_
  refine g_region ?_
  refine go_p rfl rfl rfl (o_move rfl) ?_
  obtain ⟨s1, hx2, hm⟩ := bind_some hm
  refine go_op rfl rfl rfl (o_call_own [0, 1, 2] Try.call69 rfl rfl (getL_c rfl (getL_c rfl (getL_c rfl getL_n))) (w_qi_fill hx2) (by rintro _ _ ⟨_, _, _, rfl, rfl⟩; rfl)) ?_
  rintro _ _ ⟨_, ⟨c_q0c0, a_q0c1, cap_q0c1, rfl, rfl⟩, rfl⟩
  refine go_ms (ms' := [box b_q0 110 [_, _], _, _]) rfl ?_
  refine go_nil ?_
  obtain rfl := some_eq hm
  exact retKn (ret_none rfl (permA 0 rfl (permA 0 rfl (permA 0 rfl permN)))) ⟨_, _, _, rfl, rfl⟩
def m_qi_Pop (q1 : QueueQueueInt)  : Option (Int × Bool × QueueQueueInt) :=
  bif q1.first.2.isEmpty then
    bif (decide ((q1.more.length : Int) = 0)) then
      some (0, false, (⟨q1.first, q1.more⟩ : QueueQueueInt))
    else
      (idx q1.more 0).bind fun x1 =>
      (sli q1.more 1 (q1.more.length : Int)).bind fun l1 =>
      some (x1, true, (⟨q1.first, l1⟩ : QueueQueueInt))
  else
    (idx q1.first.2 0).bind fun x2 =>
    (sli q1.first.2 1 (q1.first.2.length : Int)).bind fun l2 =>
    (m_qi_fill (⟨(q1.first.1, l2), q1.more⟩ : QueueQueueInt)).bind fun s1 =>
    some (x2, true, (⟨s1.first, s1.more⟩ : QueueQueueInt))
theorem w_qi_Pop {q1 : QueueQueueInt}  {r_1 : Int} {r_2 : Bool} {s_1 : QueueQueueInt} {b_q0 : Nat} {c_q0c0 : Nat} {a_q0c1 : Option Addr} {cap_q0c1 : Nat} (hm : m_qi_Pop q1 = some (r_1, r_2, s_1)) : Go.V.Fn Try.prog 16 [.v (.pointer (some ⟨b_q0, 0, none⟩))] [box b_q0 110 [.v (.chan (some c_q0c0)), .v (.slice a_q0c1 q1.more.length cap_q0c1)], chn c_q0c0 q1.first.1 D.i64 q1.first.2, que a_q0c1 cap_q0c1 3 1 D.i64 q1.more] (fun d ms' => ∃ c_s_1c0 a_s_1c1 cap_s_1c1, d = .tup [.i64 r_1, .bool r_2] ∧ ms' = [box b_q0 110 [.v (.chan (some c_s_1c0)), .v (.slice a_s_1c1 s_1.more.length cap_s_1c1)], chn c_s_1c0 s_1.first.1 D.i64 s_1.first.2, que a_s_1c1 cap_s_1c1 3 1 D.i64 s_1.more]) := by
  unfold m_qi_Pop at hm
  refine fn_intro Try.func16 rfl Try.ntmps16 rfl fun H0 fr w0 => ?_
  refine g_seq ?_
  refine g_region ?_
  refine go_p rfl rfl rfl (o_assign rfl) ?_
  refine go_p rfl rfl rfl (o_assign rfl) ?_
  refine go_nil ?_
  refine g_seq ?_
  refine g_region ?_
  refine go_p rfl rfl rfl (o_assign rfl) ?_
  refine go_nil ?_
  refine g_seq ?_
  refine g_seq ?_
  refine g_region ?_
  refine go_p rfl rfl rfl (o_move rfl) ?_
  refine go_p rfl rfl rfl (o_eqnil Try.runUnderlying23 rfl nilP_ptr rfl) ?_
  refine go_nil ?_
  refine g_cond_false rfl rfl ?_
  refine g_skip ?_
  refine g_seq ?_
  refine g_seq ?_
  refine g_region ?_
  refine go_p rfl rfl rfl (o_move rfl) ?_
  refine go_p rfl rfl rfl (o_nilCheck_box rfl) ?_
  refine go_p rfl rfl rfl (o_fieldAddr_box fi_110_0 rfl) ?_
  refine go_p rfl rfl rfl (o_load_box 0 Try.isAgg108 rfl rfl rfl rfl) ?_
  refine go_nil ?_
  refine g_seq ?_
  rcases cond_split hm with ⟨hc1, hm⟩ | ⟨hc1, hm⟩
  · skip
    refine g_selp rfl rfl (s_recv_none 1 Try.zeroValue3 rfl rfl hc1) (fun _ _ => rfl) ?_
    refine go_ms (ms' := [box b_q0 110 [_, _], _, _]) rfl ?_
    refine go_p rfl rfl rfl (o_extract rfl rfl) ?_
    refine go_p rfl rfl rfl (o_cmp rfl rfl rfl) ?_
    refine go_nil ?_
    refine g_block ?_
    refine g_cond_false rfl rfl ?_
    refine g_skip ?_
    refine g_seq ?_
    refine g_seq ?_
    refine g_region ?_
    refine go_p rfl rfl rfl (o_move rfl) ?_
    refine go_p rfl rfl rfl (o_nilCheck_box rfl) ?_
    refine go_p rfl rfl rfl (o_fieldAddr_box fi_110_1 rfl) ?_
    refine go_p rfl rfl rfl (o_load_box 0 Try.isAgg28 rfl rfl rfl rfl) ?_
    refine go_p rfl rfl rfl (.view (peekQ (i := 24) 2 rfl rfl rfl) (o_len Try.runUnderlying28 rfl)) ?_
    refine go_p rfl rfl rfl (o_cmp rfl rfl rfl) ?_
    refine go_nil ?_
    refine g_cond rfl (fun hc2 => ?_) (fun hc2 => ?_)
    · replace hm := cond_t hc2 hm
      refine g_seq ?_
      refine g_region ?_
      refine go_p rfl rfl rfl (o_move rfl) ?_
      refine go_p rfl rfl rfl (o_assign rfl) ?_
      refine go_p rfl rfl rfl (o_assign rfl) ?_
      refine go_nil ?_
      refine g_ret ?_
      have hq1 := some_eq hm
      obtain ⟨rfl, hq2⟩ := Prod.mk.inj hq1
      obtain ⟨rfl, rfl⟩ := Prod.mk.inj hq2
      exact retK (ret_many (ds := [_, _]) rfl (by decide) ⟨ret_tmp rfl, ⟨ret_tmp rfl, rfl⟩⟩ (permA 0 rfl (permA 0 rfl (permA 0 rfl permN)))) ⟨_, _, _, rfl, rfl⟩
    · replace hm := cond_f hc2 hm
      refine g_skip ?_
      refine g_seq ?_
      refine g_region ?_
      refine go_p rfl rfl rfl (o_move rfl) ?_
      refine go_p rfl rfl rfl (o_nilCheck_box rfl) ?_
      refine go_p rfl rfl rfl (o_fieldAddr_box fi_110_1 rfl) ?_
      refine go_p rfl rfl rfl (o_load_box 0 Try.isAgg28 rfl rfl rfl rfl) ?_
      obtain ⟨x1, hx1, hm⟩ := bind_some hm
      refine go_p rfl rfl rfl (.view (peekQ (i := 31) 2 rfl rfl rfl) (o_indexAddr_m Try.runUnderlying28 Try.sizeOf3 rfl rfl hx1)) ?_
      refine go_p rfl rfl rfl (o_load Try.isAgg3 rfl rfl) ?_
      refine go_p rfl rfl rfl (o_assign rfl) ?_
      refine go_nil ?_
      refine g_seq ?_
      refine g_region ?_
      refine go_p rfl rfl rfl (o_move rfl) ?_
      refine go_p rfl rfl rfl (o_move rfl) ?_
      refine go_p rfl rfl rfl (o_nilCheck_box rfl) ?_
      refine go_p rfl rfl rfl (o_fieldAddr_box fi_110_1 rfl) ?_
      refine go_p rfl rfl rfl (o_load_box 0 Try.isAgg28 rfl rfl rfl rfl) ?_
      obtain ⟨l1, hx2, hm⟩ := bind_some hm
      refine go_op rfl rfl rfl (o_slice_que 2 Try.runUnderlying28 Try.sizeOf3 rfl rfl rfl rfl hx2) ?_
      rintro _ _ ⟨a_q0c1, cap_q0c1, rfl, rfl⟩
      refine go_p rfl rfl rfl (o_nilCheck_box rfl) ?_
      refine go_p rfl rfl rfl (o_fieldAddr_box fi_110_1 rfl) ?_
      refine go_u rfl rfl (o_store_box 0 Try.sizeOf28 rfl rfl rfl rfl rfl rfl rfl rfl (Nat.le_of_ble_eq_true rfl)) ?_
      rintro _ _ rfl
      refine go_ms (ms' := [box b_q0 110 [_, _], _, _]) rfl ?_
      refine go_nil ?_
      refine g_seq ?_
      refine g_region ?_
      refine go_p rfl rfl rfl (o_move rfl) ?_
      refine go_p rfl rfl rfl (o_assign rfl) ?_
      refine go_p rfl rfl rfl (o_assign rfl) ?_
      refine go_nil ?_
      refine g_ret ?_
      have hq1 := some_eq hm
      obtain ⟨rfl, hq2⟩ := Prod.mk.inj hq1
      obtain ⟨rfl, rfl⟩ := Prod.mk.inj hq2
      exact retK (ret_many (ds := [_, _]) rfl (by decide) ⟨ret_tmp rfl, ⟨ret_tmp rfl, rfl⟩⟩ (permA 0 rfl (permA 0 rfl (permA 0 rfl permN)))) ⟨_, _, _, rfl, rfl⟩
  · skip
    obtain ⟨x2, hx3, hm⟩ := bind_some hm
    obtain ⟨l2, hx4, hm⟩ := bind_some hm
    refine g_selp rfl rfl (s_recv_some 1 Try.zeroValue3 rfl rfl hx3 hx4) (fun _ _ => rfl) ?_
    refine go_ms (ms' := [box b_q0 110 [_, _], _, _]) rfl ?_
    refine go_p rfl rfl rfl (o_extract rfl rfl) ?_
    refine go_p rfl rfl rfl (o_cmp rfl rfl rfl) ?_
    refine go_nil ?_
    refine g_block ?_
    refine g_cond_true rfl rfl ?_
    refine g_seq ?_
    refine g_region ?_
    refine go_p rfl rfl rfl (o_extract rfl rfl) ?_
    refine go_p rfl rfl rfl (o_assign rfl) ?_
    refine go_nil ?_
    refine g_seq ?_
    refine g_region ?_
    refine go_p rfl rfl rfl (o_move rfl) ?_
    obtain ⟨s1, hx5, hm⟩ := bind_some hm
    refine go_op rfl rfl rfl (o_call_own [0, 1, 2] Try.call69 rfl rfl (getL_c rfl (getL_c rfl (getL_c rfl getL_n))) (w_qi_fill hx5) (by rintro _ _ ⟨_, _, _, rfl, rfl⟩; rfl)) ?_
    rintro _ _ ⟨_, ⟨c_q0c0, a_q0c1, cap_q0c1, rfl, rfl⟩, rfl⟩
    refine go_ms (ms' := [box b_q0 110 [_, _], _, _]) rfl ?_
    refine go_nil ?_
    refine g_seq ?_
    refine g_region ?_
    refine go_p rfl rfl rfl (o_move rfl) ?_
    refine go_p rfl rfl rfl (o_assign rfl) ?_
    refine go_p rfl rfl rfl (o_assign rfl) ?_
    refine go_nil ?_
    refine g_ret ?_
    have hq1 := some_eq hm
    obtain ⟨rfl, hq2⟩ := Prod.mk.inj hq1
    obtain ⟨rfl, rfl⟩ := Prod.mk.inj hq2
    exact retK (ret_many (ds := [_, _]) rfl (by decide) ⟨ret_tmp rfl, ⟨ret_tmp rfl, rfl⟩⟩ (permA 0 rfl (permA 0 rfl (permA 0 rfl permN)))) ⟨_, _, _, rfl, rfl⟩
def m_qi_Len (q1 : QueueQueueInt)  : Option Int :=
  grd (InR ((q1.first.2.length : Int) + (q1.more.length : Int))) <|
  some ((q1.first.2.length : Int) + (q1.more.length : Int))
theorem w_qi_Len {q1 : QueueQueueInt}  {r_1 : Int} {b_q0 : Nat} {c_q0c0 : Nat} {a_q0c1 : Option Addr} {cap_q0c1 : Nat} (hm : m_qi_Len q1 = some r_1) : Go.V.Fn Try.prog 21 [.v (.pointer (some ⟨b_q0, 0, none⟩))] [box b_q0 110 [.v (.chan (some c_q0c0)), .v (.slice a_q0c1 q1.more.length cap_q0c1)], chn c_q0c0 q1.first.1 D.i64 q1.first.2, que a_q0c1 cap_q0c1 3 1 D.i64 q1.more] (fun d ms' => d = .i64 r_1 ∧ ms' = [box b_q0 110 [.v (.chan (some c_q0c0)), .v (.slice a_q0c1 q1.more.length cap_q0c1)], chn c_q0c0 q1.first.1 D.i64 q1.first.2, que a_q0c1 cap_q0c1 3 1 D.i64 q1.more]) := by
  unfold m_qi_Len at hm
  refine fn_intro Try.func21 rfl Try.ntmps21 rfl fun H0 fr w0 => ?_
  refine g_seq ?_
  refine g_region ?_
  refine go_p rfl rfl rfl (o_assign rfl) ?_
  refine go_nil ?_
  refine g_seq ?_
  refine g_seq ?_
  refine g_region ?_
  refine go_p rfl rfl rfl (o_move rfl) ?_
  refine go_p rfl rfl rfl (o_eqnil Try.runUnderlying23 rfl nilP_ptr rfl) ?_
  refine go_nil ?_
  refine g_cond_false rfl rfl ?_
  refine g_skip ?_
  refine g_seq ?_
  obtain ⟨hg1, hm⟩ := grd_some hm
  refine g_draw 12 Try_mixed (by decide +kernel) ?_
  refine gd_p rfl rfl rfl (o_move rfl) ?_
  refine gd_p rfl rfl rfl (o_nilCheck_box rfl) ?_
  refine gd_p rfl rfl rfl (o_fieldAddr_box fi_110_0 rfl) ?_
  refine gd_p rfl rfl rfl (o_load_box 0 Try.isAgg108 rfl rfl rfl rfl) ?_
  refine gd_p rfl rfl rfl (o_len_chn 1 Try.underlying108 rfl rfl) ?_
  refine gd_p rfl rfl rfl (o_move rfl) ?_
  refine gd_p rfl rfl rfl (o_nilCheck_box rfl) ?_
  refine gd_p rfl rfl rfl (o_fieldAddr_box fi_110_1 rfl) ?_
  refine gd_p rfl rfl rfl (o_load_box 0 Try.isAgg28 rfl rfl rfl rfl) ?_
  refine gd_p rfl rfl rfl (.view (peekQ (i := 13) 2 rfl rfl rfl) (o_len Try.runUnderlying28 rfl)) ?_
  refine gd_p rfl rfl rfl (o_add rfl rfl (i64_id hg1)) ?_
  refine gd_p rfl rfl rfl (o_assign rfl) ?_
  refine gd_nil ?_
  refine go_nil ?_
  refine g_ret ?_
  obtain rfl := some_eq hm
  exact retK (ret_one' rfl (ret_tmp rfl) (permA 0 rfl (permA 0 rfl (permA 0 rfl permN)))) ⟨rfl, rfl⟩
def m_qi_Room (q1 : QueueQueueInt)  : Option Int :=
  some (q1.first.1 : Int)
theorem w_qi_Room {q1 : QueueQueueInt}  {r_1 : Int} {b_q0 : Nat} {c_q0c0 : Nat} {a_q0c1 : Option Addr} {cap_q0c1 : Nat} (hm : m_qi_Room q1 = some r_1) : Go.V.Fn Try.prog 14 [.v (.pointer (some ⟨b_q0, 0, none⟩))] [box b_q0 110 [.v (.chan (some c_q0c0)), .v (.slice a_q0c1 q1.more.length cap_q0c1)], chn c_q0c0 q1.first.1 D.i64 q1.first.2, que a_q0c1 cap_q0c1 3 1 D.i64 q1.more] (fun d ms' => d = .i64 r_1 ∧ ms' = [box b_q0 110 [.v (.chan (some c_q0c0)), .v (.slice a_q0c1 q1.more.length cap_q0c1)], chn c_q0c0 q1.first.1 D.i64 q1.first.2, que a_q0c1 cap_q0c1 3 1 D.i64 q1.more]) := by
  unfold m_qi_Room at hm
  refine fn_intro Try.func14 rfl Try.ntmps14 rfl fun H0 fr w0 => ?_
  refine g_seq ?_
  refine g_region ?_
  refine go_p rfl rfl rfl (o_assign rfl) ?_
  refine go_nil ?_
  refine g_seq ?_
  refine g_seq ?_
  refine g_region ?_
  refine go_p rfl rfl rfl (o_move rfl) ?_
  refine go_p rfl rfl rfl (o_eqnil Try.runUnderlying23 rfl nilP_ptr rfl) ?_
  refine go_nil ?_
  refine g_cond_false rfl rfl ?_
  refine g_skip ?_
  refine g_seq ?_
  refine g_region ?_
  refine go_p rfl rfl rfl (o_move rfl) ?_
  refine go_p rfl rfl rfl (o_nilCheck_box rfl) ?_
  refine go_p rfl rfl rfl (o_fieldAddr_box fi_110_0 rfl) ?_
  refine go_p rfl rfl rfl (o_load_box 0 Try.isAgg108 rfl rfl rfl rfl) ?_
  refine go_p rfl rfl rfl (o_cap_chn 1 Try.underlying108 rfl rfl) ?_
  refine go_p rfl rfl rfl (o_assign rfl) ?_
  refine go_nil ?_
  refine g_ret ?_
  obtain rfl := some_eq hm
  exact retK (ret_one' rfl (ret_tmp rfl) (permA 0 rfl (permA 0 rfl (permA 0 rfl permN)))) ⟨rfl, rfl⟩
def m_qi_Drain_l1  : Nat → ((List Int) × (Nat × List Int) × (List Int)) → Option ((List Int) × QueueQueueInt)
  | 0, _ => none
  | n + 1, (l1, ch1, l2) =>
    (m_qi_Pop (⟨ch1, l2⟩ : QueueQueueInt)).bind fun (x1, x2, s1) =>
    bif (!x2) then
      some (l1, (⟨s1.first, s1.more⟩ : QueueQueueInt))
    else
      grd ((l1.length + ([x1] : List _).length) * 8 ≤ 140737488355328) <|
      m_qi_Drain_l1 n ((l1 ++ [x1]), s1.first, s1.more)
def m_qi_Drain (q1 : QueueQueueInt)  : Option ((List Int) × QueueQueueInt) :=
  m_qi_Drain_l1 FU ([], q1.first, q1.more)
theorem w_qi_Drain {q1 : QueueQueueInt}  {r_1 : (List Int)} {s_1 : QueueQueueInt} {b_q0 : Nat} {c_q0c0 : Nat} {a_q0c1 : Option Addr} {cap_q0c1 : Nat} (hm : m_qi_Drain q1 = some (r_1, s_1)) : Go.V.Fn Try.prog 19 [.v (.pointer (some ⟨b_q0, 0, none⟩))] [box b_q0 110 [.v (.chan (some c_q0c0)), .v (.slice a_q0c1 q1.more.length cap_q0c1)], chn c_q0c0 q1.first.1 D.i64 q1.first.2, que a_q0c1 cap_q0c1 3 1 D.i64 q1.more] (fun d ms' => ∃ c_s_1c0 a_s_1c1 cap_s_1c1, d = .list 1 D.i64 r_1 ∧ ms' = [box b_q0 110 [.v (.chan (some c_s_1c0)), .v (.slice a_s_1c1 s_1.more.length cap_s_1c1)], chn c_s_1c0 s_1.first.1 D.i64 s_1.first.2, que a_s_1c1 cap_s_1c1 3 1 D.i64 s_1.more]) := by
  unfold m_qi_Drain at hm
  refine fn_intro Try.func19 rfl Try.ntmps19 rfl fun H0 fr w0 => ?_
  refine g_seq ?_
  refine g_region ?_
  refine go_p rfl rfl rfl (o_assign rfl) ?_
  refine go_conv (nilE (i := 2) (sz := 1) (f := D.i64) rfl).refines ?_
  refine go_nil ?_
  refine g_seq ?_
  refine g_region ?_
  refine go_p rfl rfl rfl (o_assign rfl) ?_
  refine go_conv (refines_newrow (T := 3) (sz := 1) (f := D.i64)) ?_
  refine go_nil ?_
  refine g_block ?_
  refine g_loop_m [(0, _)] [] (fun (st : ((List Int) × (Nat × List Int) × (List Int))) (hid : (Option Addr × Nat) × Nat × (Option Addr × Nat)) => match st, hid with | (l1, ch1, l2), ((a_r1, cap_r1), c_q0c0, (a_q0c1, cap_q0c1)) => [(3, .v (.slice a_r1 l1.length cap_r1))]) (fun F (st : ((List Int) × (Nat × List Int) × (List Int))) (hid : (Option Addr × Nat) × Nat × (Option Addr × Nat)) => match st, hid with | (l1, ch1, l2), ((a_r1, cap_r1), c_q0c0, (a_q0c1, cap_q0c1)) => [row a_r1 cap_r1 3 1 D.i64 l1, box b_q0 110 [.v (.chan (some c_q0c0)), .v (.slice a_q0c1 l2.length cap_q0c1)], chn c_q0c0 ch1.1 D.i64 ch1.2, que a_q0c1 cap_q0c1 3 1 D.i64 l2]) ((_, _), _, (_, _)) hm (fun _ => rfl) ⟨rfl, trivial⟩ trivial ⟨rfl, trivial⟩ rfl ?_
  rintro n ⟨l1, ch1, l2⟩ ⟨⟨a_r1, cap_r1⟩, c_q0c0, ⟨a_q0c1, cap_q0c1⟩⟩ hm
  rw [m_qi_Drain_l1] at hm
  refine g_norm (L' := [(3, .v (.slice a_r1 l1.length cap_r1)), (0, _)]) (ms' := [row a_r1 cap_r1 3 1 D.i64 l1, box b_q0 110 [.v (.chan (some c_q0c0)), .v (.slice a_q0c1 l2.length cap_q0c1)], chn c_q0c0 ch1.1 D.i64 ch1.2, que a_q0c1 cap_q0c1 3 1 D.i64 l2]) rfl rfl ?_
  refine g_block ?_
  refine g_seq ?_
  refine g_region ?_
  refine go_p rfl rfl rfl (o_move rfl) ?_
  obtain ⟨⟨x1, x2, s1⟩, hx1, hm⟩ := bind_some hm
  refine go_op rfl rfl rfl (o_call_own [1, 2, 3] Try.call16 rfl rfl (getL_c rfl (getL_c rfl (getL_c rfl getL_n))) (w_qi_Pop hx1) (by rintro _ _ ⟨_, _, _, rfl, rfl⟩; rfl)) ?_
  rintro _ _ ⟨_, ⟨c_q0c0, a_q0c1, cap_q0c1, rfl, rfl⟩, rfl⟩
  refine go_ms (ms' := [_, box b_q0 110 [_, _], _, _]) rfl ?_
  refine go_p rfl rfl rfl (o_move rfl) ?_
  refine go_p rfl rfl rfl (o_extract rfl rfl) ?_
  refine go_p rfl rfl rfl (o_extract rfl rfl) ?_
  refine go_p rfl rfl rfl (o_assign rfl) ?_
  refine go_p rfl rfl rfl (o_assign rfl) ?_
  refine go_nil ?_
  refine g_seq ?_
  refine g_seq ?_
  refine g_region ?_
  refine go_p rfl rfl rfl (o_move rfl) ?_
  refine go_p rfl rfl rfl (o_not rfl) ?_
  refine go_nil ?_
  refine g_cond rfl (fun hc1 => ?_) (fun hc1 => ?_)
  · replace hm := cond_t hc1 hm
    refine g_seq ?_
    refine g_region ?_
    refine go_p rfl rfl rfl (o_move rfl) ?_
    refine go_p rfl rfl rfl (o_assign rfl) ?_
    refine go_nil ?_
    refine g_conv (peekE (i := 2) 0 rfl rfl rfl).refines ?_
    refine g_ret ?_
    have hq1 := some_eq hm
    obtain ⟨rfl, rfl⟩ := Prod.mk.inj hq1
    exact retK (ret_one' rfl (ret_tmp rfl) (permA 1 rfl (permA 1 rfl (permA 1 rfl permN)))) ⟨_, _, _, rfl, rfl⟩
  · replace hm := cond_f hc1 hm
    refine g_skip ?_
    refine g_region ?_
    refine go_p rfl rfl rfl (o_move rfl) ?_
    refine go_p rfl rfl rfl (o_move rfl) ?_
    refine go_p rfl rfl rfl (o_buildSlice (xs := [_]) (f := D.i64) (l := [_]) Try.runUnderlying28 Try.sizeOf3 Try.zeroValue3 rfl rfl rfl (fun _ => ⟨rfl, rfl, rfl⟩) rfl) ?_
    obtain ⟨hg2, hm⟩ := grd_some hm
    refine go_op rfl rfl rfl (o_append (a := _) 0 Try.underlying28 Try.type3 rfl rfl rfl rfl rfl rfl rfl (fun _ => rfl) (fun _ => rfl) hg2 (app_len hg2 rfl)) ?_
    rintro _ _ ⟨a_r1, cap_r1, rfl, rfl⟩
    refine go_ms (ms' := [_, box b_q0 110 [_, _], _, _]) rfl ?_
    refine go_p rfl rfl rfl (o_assign rfl) ?_
    refine go_nil ?_
    exact ⟨_, ((_, _), _, (_, _)), hm, ⟨rfl, trivial⟩, ⟨rfl, trivial⟩, [], rfl⟩
theorem pl_30 : ∀ fs, (∀ w, (underlying 30).run Try.prog w = .ok (.struct fs) w) → placesOf Try.prog fs [(0, 1), (1, 1)] := by
  intro fs h w
  have := (h w).symm.trans (Try.runUnderlying30 w)
  simp only [Result.ok.injEq, TypeDesc.struct.injEq, and_true] at this
  subst this
  simp [Try.sizeOf28, Try.sizeOf3, Sem.run]
structure Syntagmaref18Row where
  l : (List Int)
  room : Int
def Syntagmaref18Row.d (x : Syntagmaref18Row) : D := .agg [.list 1 D.i64 x.l, .i64 x.room]
def m_ref18_New (room1 : Int)  : Option Syntagmaref18Row :=
  some (⟨([] : List Int), (if 64 < (if 0 > room1 then 0 else room1) then 64 else (if 0 > room1 then 0 else room1))⟩ : Syntagmaref18Row)
theorem w_ref18_New {room1 : Int}  {s_1 : Syntagmaref18Row} (hm : m_ref18_New room1 = some s_1) : Go.V.Fn Try.prog 13 [.i64 room1] [] (fun d ms' => ∃ b_s_1 a_s_1c0 cap_s_1c0, d = .v (.pointer (some ⟨b_s_1, 0, none⟩)) ∧ ms' = [box b_s_1 30 [.v (.slice a_s_1c0 s_1.l.length cap_s_1c0), .i64 s_1.room], row a_s_1c0 cap_s_1c0 3 1 D.i64 s_1.l]) := by
  unfold m_ref18_New at hm
  refine fn_intro Try.func13 rfl Try.ntmps13 rfl fun H0 fr w0 => ?_
  refine g_seq ?_
  refine g_region ?_
  refine go_p rfl rfl rfl (o_assign rfl) ?_
  refine go_nil ?_
  refine g_seq ?_
  refine g_region ?_
  refine go_p rfl rfl rfl (o_move rfl) ?_
  refine go_p rfl rfl rfl (o_max rfl rfl) ?_
  refine go_p rfl rfl rfl (o_min rfl rfl) ?_
  refine go_p rfl rfl rfl (o_build (zs := [.v (.slice none 0 0), .v (.int .i64 0)]) Try.runUnderlying30 Try.zeroValue30 (pl_30 _ Try.runUnderlying30) rfl rfl rfl rfl) ?_
  refine go_op rfl rfl rfl (o_box_own rfl rfl rfl) ?_
  rintro _ _ ⟨b1, rfl, rfl⟩
  refine go_conv (refines_newrow (T := 3) (sz := 1) (f := D.i64)) ?_
  refine go_p rfl rfl rfl (o_assign rfl) ?_
  refine go_nil ?_
  refine g_ret ?_
  obtain rfl := some_eq hm
  exact retK (ret_one' rfl (ret_tmp rfl) (permA 1 rfl (permA 0 rfl permN))) ⟨_, _, _, rfl, rfl⟩
theorem fi_30_0 : FieldIs Try.prog 30 0 0 1 false := ⟨⟨_, _, Try.runUnderlying30, rfl, rfl, Try.sizeOf28, by decide, Try.isAgg28⟩⟩
def m_ref18_Pop (q1 : Syntagmaref18Row)  : Option (Int × Bool × Syntagmaref18Row) :=
  bif (decide ((q1.l.length : Int) = 0)) then
    some (0, false, (⟨q1.l, q1.room⟩ : Syntagmaref18Row))
  else
    (idx q1.l 0).bind fun x1 =>
    (sli q1.l 1 (q1.l.length : Int)).bind fun l1 =>
    grd ((0 + l1.length) * 8 ≤ 140737488355328) <|
    some (x1, true, (⟨([] ++ l1), q1.room⟩ : Syntagmaref18Row))
theorem w_ref18_Pop {q1 : Syntagmaref18Row}  {r_1 : Int} {r_2 : Bool} {s_1 : Syntagmaref18Row} {b_q0 : Nat} {a_q0c0 : Option Addr} {cap_q0c0 : Nat} (hm : m_ref18_Pop q1 = some (r_1, r_2, s_1)) : Go.V.Fn Try.prog 17 [.v (.pointer (some ⟨b_q0, 0, none⟩))] [box b_q0 30 [.v (.slice a_q0c0 q1.l.length cap_q0c0), .i64 q1.room], row a_q0c0 cap_q0c0 3 1 D.i64 q1.l] (fun d ms' => ∃ a_s_1c0 cap_s_1c0, d = .tup [.i64 r_1, .bool r_2] ∧ ms' = [box b_q0 30 [.v (.slice a_s_1c0 s_1.l.length cap_s_1c0), .i64 s_1.room], row a_s_1c0 cap_s_1c0 3 1 D.i64 s_1.l]) := by
  unfold m_ref18_Pop at hm
  refine fn_intro Try.func17 rfl Try.ntmps17 rfl fun H0 fr w0 => ?_
  refine g_seq ?_
  refine g_region ?_
  refine go_p rfl rfl rfl (o_assign rfl) ?_
  refine go_p rfl rfl rfl (o_assign rfl) ?_
  refine go_nil ?_
  refine g_seq ?_
  refine g_seq ?_
  refine g_region ?_
  refine go_p rfl rfl rfl (o_move rfl) ?_
  refine go_p rfl rfl rfl (o_nilCheck_box rfl) ?_
  refine go_p rfl rfl rfl (o_fieldAddr_box fi_30_0 rfl) ?_
  refine go_p rfl rfl rfl (o_load_box 0 Try.isAgg28 rfl rfl rfl rfl) ?_
  refine go_p rfl rfl rfl (.view (peekE (i := 8) 1 rfl rfl rfl) (o_len Try.runUnderlying28 rfl)) ?_
  refine go_p rfl rfl rfl (o_cmp rfl rfl rfl) ?_
  refine go_nil ?_
  refine g_cond rfl (fun hc1 => ?_) (fun hc1 => ?_)
  · replace hm := cond_t hc1 hm
    refine g_seq ?_
    refine g_region ?_
    refine go_p rfl rfl rfl (o_assign rfl) ?_
    refine go_p rfl rfl rfl (o_assign rfl) ?_
    refine go_nil ?_
    refine g_ret ?_
    have hq1 := some_eq hm
    obtain ⟨rfl, hq2⟩ := Prod.mk.inj hq1
    obtain ⟨rfl, rfl⟩ := Prod.mk.inj hq2
    exact retK (ret_many (ds := [_, _]) rfl (by decide) ⟨ret_tmp rfl, ⟨ret_tmp rfl, rfl⟩⟩ (permA 0 rfl (permA 0 rfl permN))) ⟨_, _, rfl, rfl⟩
  · replace hm := cond_f hc1 hm
    refine g_skip ?_
    refine g_seq ?_
    refine g_region ?_
    refine go_p rfl rfl rfl (o_move rfl) ?_
    refine go_p rfl rfl rfl (o_nilCheck_box rfl) ?_
    refine go_p rfl rfl rfl (o_fieldAddr_box fi_30_0 rfl) ?_
    refine go_p rfl rfl rfl (o_load_box 0 Try.isAgg28 rfl rfl rfl rfl) ?_
    obtain ⟨x1, hx1, hm⟩ := bind_some hm
    refine go_p rfl rfl rfl (.view (peekE (i := 14) 1 rfl rfl rfl) (o_indexAddr_m Try.runUnderlying28 Try.sizeOf3 rfl rfl hx1)) ?_
    refine go_p rfl rfl rfl (o_load Try.isAgg3 rfl rfl) ?_
    refine go_p rfl rfl rfl (o_assign rfl) ?_
    refine go_nil ?_
    refine g_seq ?_
    refine g_region ?_
    refine go_p rfl rfl rfl (o_move rfl) ?_
    refine go_op rfl rfl rfl (o_buildSlice_row (xs := []) (f := D.i64) (l := []) Try.runUnderlying28 Try.sizeOf3 Try.zeroValue3 rfl rfl rfl (fun _ => ⟨rfl, rfl, rfl⟩) rfl (by simp [maxLen])) ?_
    rintro _ _ ⟨a_r1, rfl, rfl⟩
    refine go_p rfl rfl rfl (o_move rfl) ?_
    refine go_p rfl rfl rfl (o_nilCheck_box rfl) ?_
    refine go_p rfl rfl rfl (o_fieldAddr_box fi_30_0 rfl) ?_
    refine go_p rfl rfl rfl (o_load_box 1 Try.isAgg28 rfl rfl rfl rfl) ?_
    obtain ⟨l1, hx2, hm⟩ := bind_some hm
    refine go_p rfl rfl rfl (.view (peekE (i := 22) 2 rfl rfl rfl) (o_slice_m Try.runUnderlying28 Try.sizeOf3 rfl ⟨_, rfl⟩ rfl hx2)) ?_
    obtain ⟨hg3, hm⟩ := grd_some hm
    refine go_op rfl rfl rfl (o_append (a := _) 0 Try.underlying28 Try.type3 rfl rfl rfl rfl rfl rfl rfl (fun _ => rfl) (fun _ => rfl) hg3 (app_len hg3 rfl)) ?_
    rintro _ _ ⟨a_r1, cap_r1, rfl, rfl⟩
    refine go_ms (ms' := [_, box b_q0 30 [_, _], _]) rfl ?_
    refine go_p rfl rfl rfl (o_nilCheck_box rfl) ?_
    refine go_p rfl rfl rfl (o_fieldAddr_box fi_30_0 rfl) ?_
    refine go_u rfl rfl (o_store_box 1 Try.sizeOf28 rfl rfl rfl rfl rfl rfl rfl rfl (Nat.le_of_ble_eq_true rfl)) ?_
    rintro _ _ rfl
    refine go_ms (ms' := [_, box b_q0 30 [_, _], _]) rfl ?_
    refine go_conv (refines_shift 0 2 rfl rfl rfl rfl) ?_
    refine go_nil ?_
    refine g_seq ?_
    refine g_region ?_
    refine go_p rfl rfl rfl (o_move rfl) ?_
    refine go_p rfl rfl rfl (o_assign rfl) ?_
    refine go_p rfl rfl rfl (o_assign rfl) ?_
    refine go_nil ?_
    refine g_ret ?_
    have hq1 := some_eq hm
    obtain ⟨rfl, hq2⟩ := Prod.mk.inj hq1
    obtain ⟨rfl, rfl⟩ := Prod.mk.inj hq2
    exact retK (ret_many (ds := [_, _]) rfl (by decide) ⟨ret_tmp rfl, ⟨ret_tmp rfl, rfl⟩⟩ (permA 0 rfl (permA 0 rfl permN))) ⟨_, _, rfl, rfl⟩
def m_syntagmabase_Among (x1 : Int) (n1 : Int) : Option Int :=
  bif (decide (n1 < 1)) then
    some 0
  else
    grd ((IntKind.u64.wrap n1) ≠ 0) <|
    some (IntKind.i64.wrap (Int.tmod (IntKind.u64.wrap x1) (IntKind.u64.wrap n1)))
theorem w_syntagmabase_Among {x1 : Int} {n1 : Int} {r_1 : Int} (hm : m_syntagmabase_Among x1 n1 = some r_1) : Fn0 Try.prog 15 [.i64 x1, .i64 n1] (.i64 r_1) := by
  unfold m_syntagmabase_Among at hm
  refine fn_intro Try.func15 rfl Try.ntmps15 rfl fun H0 fr w0 => ?_
  refine g_seq ?_
  refine g_region ?_
  refine go_p rfl rfl rfl (o_assign rfl) ?_
  refine go_nil ?_
  refine g_seq ?_
  refine g_seq ?_
  refine g_region ?_
  refine go_p rfl rfl rfl (o_move rfl) ?_
  refine go_p rfl rfl rfl (o_cmp rfl rfl rfl) ?_
  refine go_nil ?_
  refine g_cond rfl (fun hc1 => ?_) (fun hc1 => ?_)
  · replace hm := cond_t hc1 hm
    refine g_seq ?_
    refine g_region ?_
    refine go_p rfl rfl rfl (o_assign rfl) ?_
    refine go_nil ?_
    refine g_ret ?_
    exact retK (ret_one' rfl (ret_tmp rfl) (perm_drop _)) (congrArg (fun (p : Int) => (.i64 p : D)) (some_eq hm))
  · replace hm := cond_f hc1 hm
    refine g_skip ?_
    refine g_seq ?_
    refine g_region ?_
    refine go_p rfl rfl rfl (o_move rfl) ?_
    refine go_p rfl rfl rfl (o_conv Try.runUnderlying3 Try.runUnderlying111 rfl rfl) ?_
    refine go_p rfl rfl rfl (o_move rfl) ?_
    refine go_p rfl rfl rfl (o_conv Try.runUnderlying3 Try.runUnderlying111 rfl rfl) ?_
    obtain ⟨hg1, hm⟩ := grd_some hm
    refine go_p rfl rfl rfl (o_rem rfl rfl hg1) ?_
    refine go_p rfl rfl rfl (o_conv Try.runUnderlying111 Try.runUnderlying3 rfl rfl) ?_
    refine go_p rfl rfl rfl (o_assign rfl) ?_
    refine go_nil ?_
    refine g_ret ?_
    exact retK (ret_one' rfl (ret_tmp rfl) (perm_drop _)) (congrArg (fun (p : Int) => (.i64 p : D)) (some_eq hm))
def m_syntagmabase_SameInts_l1 (a1 : (List Int)) (b1 : (List Int)) : Nat → Int → Option (Out Bool Unit)
  | 0, _ => none
  | n + 1, i1 =>
    bif (decide (i1 < (a1.length : Int))) then
      (idx a1 i1).bind fun x1 =>
      (idx b1 i1).bind fun x2 =>
      bif (!decide (x1 = x2)) then
        some (Out.ret false)
      else
        grd (InR (i1 + 1)) <|
        m_syntagmabase_SameInts_l1 a1 b1 n (i1 + 1)
    else
      some (Out.go (()))
def m_syntagmabase_SameInts (a1 : (List Int)) (b1 : (List Int)) : Option Bool :=
  bif (!decide ((a1.length : Int) = (b1.length : Int))) then
    some false
  else
    ((m_syntagmabase_SameInts_l1 a1 b1 FU 0 : Option (Out Bool Unit))).bind (fun oo => oo.on (fun r1 => some r1) (fun _ =>
    some true))
theorem w_syntagmabase_SameInts {a1 : (List Int)} {b1 : (List Int)} {r_1 : Bool} (hm : m_syntagmabase_SameInts a1 b1 = some r_1) : Fn0 Try.prog 18 [.list 1 D.i64 a1, .list 1 D.i64 b1] (.bool r_1) := by
  unfold m_syntagmabase_SameInts at hm
  refine fn_intro Try.func18 rfl Try.ntmps18 rfl fun H0 fr w0 => ?_
  refine g_seq ?_
  refine g_region ?_
  refine go_p rfl rfl rfl (o_assign rfl) ?_
  refine go_nil ?_
  refine g_seq ?_
  refine g_seq ?_
  refine g_region ?_
  refine go_p rfl rfl rfl (o_move rfl) ?_
  refine go_p rfl rfl rfl (o_len Try.runUnderlying28 rfl) ?_
  refine go_p rfl rfl rfl (o_move rfl) ?_
  refine go_p rfl rfl rfl (o_len Try.runUnderlying28 rfl) ?_
  refine go_p rfl rfl rfl (o_cmp rfl rfl rfl) ?_
  refine go_nil ?_
  refine g_cond rfl (fun hc1 => ?_) (fun hc1 => ?_)
  · replace hm := cond_t hc1 hm
    refine g_seq ?_
    refine g_region ?_
    refine go_p rfl rfl rfl (o_assign rfl) ?_
    refine go_nil ?_
    refine g_ret ?_
    exact retK (ret_one' rfl (ret_tmp rfl) (perm_drop _)) (congrArg (fun (p : Bool) => (.bool p : D)) (some_eq hm))
  · replace hm := cond_f hc1 hm
    refine g_skip ?_
    refine g_seq ?_
    refine g_seq ?_
    refine g_region ?_
    refine go_p rfl rfl rfl (o_assign rfl) ?_
    refine go_nil ?_
    obtain ⟨o_1, hj1, hm1⟩ := bind_some hm
    refine g_cut_m [] [] (fun (st : Unit) (hid : Unit) => match st, hid with | _, _ => []) (fun F (st : Unit) (hid : Unit) => match st, hid with | _, _ => []) (fun st => Out.go (st) = o_1) trivial trivial ?_ ?_
    · skip
      refine g_block ?_
      refine g_loop_m [(0, _), (1, _)] [] (fun (st : Int) (hid : Unit) => match st, hid with | i1, _ => [(5, .i64 i1)]) (fun F (st : Int) (hid : Unit) => match st, hid with | i1, _ => []) () hj1 (fun _ => rfl) ⟨rfl, rfl, trivial⟩ trivial ⟨rfl, trivial⟩ rfl ?_
      rintro n i1 _ hj1
      rw [m_syntagmabase_SameInts_l1] at hj1
      refine g_norm (L' := [(5, .i64 i1), (0, _), (1, _)]) (ms' := []) rfl rfl ?_
      refine g_seq ?_
      refine g_seq ?_
      refine g_region ?_
      refine go_p rfl rfl rfl (o_move rfl) ?_
      refine go_p rfl rfl rfl (o_move rfl) ?_
      refine go_p rfl rfl rfl (o_len Try.runUnderlying28 rfl) ?_
      refine go_p rfl rfl rfl (o_cmp rfl rfl rfl) ?_
      refine go_nil ?_
      refine g_cond rfl (fun hc2 => ?_) (fun hc2 => ?_)
      · replace hj1 := cond_t hc2 hj1
        refine g_skip ?_
        refine g_seq ?_
        refine g_block ?_
        refine g_seq ?_
        obtain ⟨x1, hx1, hj1⟩ := bind_some hj1
        obtain ⟨x2, hx2, hj1⟩ := bind_some hj1
        refine g_draw 9 Try_mixed (by decide +kernel) ?_
        refine gd_p rfl rfl rfl (o_move rfl) ?_
        refine gd_p rfl rfl rfl (o_move rfl) ?_
        refine gd_p rfl rfl rfl (o_indexAddr_m Try.runUnderlying28 Try.sizeOf3 rfl rfl hx1) ?_
        refine gd_p rfl rfl rfl (o_load Try.isAgg3 rfl rfl) ?_
        refine gd_p rfl rfl rfl (o_move rfl) ?_
        refine gd_p rfl rfl rfl (o_move rfl) ?_
        refine gd_p rfl rfl rfl (o_indexAddr_m Try.runUnderlying28 Try.sizeOf3 rfl rfl hx2) ?_
        refine gd_p rfl rfl rfl (o_load Try.isAgg3 rfl rfl) ?_
        refine gd_p rfl rfl rfl (o_cmp rfl rfl rfl) ?_
        refine gd_nil ?_
        refine go_nil ?_
        refine g_cond rfl (fun hc3 => ?_) (fun hc3 => ?_)
        · replace hj1 := cond_t hc3 hj1
          refine g_seq ?_
          refine g_region ?_
          refine go_p rfl rfl rfl (o_assign rfl) ?_
          refine go_nil ?_
          refine g_ret ?_
          obtain rfl := some_eq hj1
          replace hm1 := on_ret hm1
          exact retK (ret_one' rfl (ret_tmp rfl) (perm_drop _)) (congrArg (fun (p : Bool) => (.bool p : D)) (some_eq hm1))
        · replace hj1 := cond_f hc3 hj1
          refine g_skip ?_
          refine g_region ?_
          refine go_p rfl rfl rfl (o_move rfl) ?_
          obtain ⟨hg3, hj1⟩ := grd_some hj1
          refine go_p rfl rfl rfl (o_add rfl rfl (i64_id hg3)) ?_
          refine go_p rfl rfl rfl (o_assign rfl) ?_
          refine go_nil ?_
          exact ⟨_, (), hj1, ⟨rfl, trivial⟩, ⟨rfl, rfl, trivial⟩, [], rfl⟩
      · replace hj1 := cond_f hc2 hj1
        refine g_exit ?_
        exact ⟨_, (), some_eq hj1, trivial, trivial, [], rfl⟩
    · rintro _ _ hst
      subst hst
      replace hm1 := on_go hm1
      refine k_norm (L' := []) (ms' := []) rfl rfl ?_
      refine g_seq ?_
      refine g_region ?_
      refine go_p rfl rfl rfl (o_assign rfl) ?_
      refine go_nil ?_
      refine g_ret ?_
      exact retK (ret_one' rfl (ret_tmp rfl) (perm_drop _)) (congrArg (fun (p : Bool) => (.bool p : D)) (some_eq hm1))
def m_syntagmalaw18_works  : Option Bool :=
  (m_qi_New 1).bind fun s1 =>
  (m_qi_Push (⟨s1.first, s1.more⟩ : QueueQueueInt) [1, 2]).bind fun s2 =>
  (m_qi_Pop (⟨s2.first, s2.more⟩ : QueueQueueInt)).bind fun (x1, x2, s3) =>
  (m_qi_Push (⟨s3.first, s3.more⟩ : QueueQueueInt) [3]).bind fun s4 =>
  bif (x2 && (decide (x1 = 1))) then ((m_qi_Drain (⟨s4.first, s4.more⟩ : QueueQueueInt)).bind fun (x3, s5) =>
  (m_syntagmabase_SameInts x3 [2, 3]).bind fun x4 =>
  (bif x4 then ((m_qi_Len (⟨s5.first, s5.more⟩ : QueueQueueInt)).bind fun x5 =>
  some (decide (x5 = 0))) else (some false)).bind fun p1 =>
  (bif p1 then ((m_qi_Room (⟨s5.first, s5.more⟩ : QueueQueueInt)).bind fun x6 =>
  some (decide (x6 = 1))) else (some false)).bind fun p2 =>
  some p2) else (some false)
theorem w_syntagmalaw18_works  {r_1 : Bool} (hm : m_syntagmalaw18_works = some r_1) : Fn0 Try.prog 22 [] (.bool r_1) := by
  unfold m_syntagmalaw18_works at hm
  refine fn_intro Try.func22 rfl Try.ntmps22 rfl fun H0 fr w0 => ?_
  refine g_seq ?_
  refine g_region ?_
  refine go_p rfl rfl rfl (o_assign rfl) ?_
  refine go_nil ?_
  refine g_seq ?_
  refine g_region ?_
  obtain ⟨s1, hx1, hm⟩ := bind_some hm
  refine go_op rfl rfl rfl (o_call (ms₁ := []) Try.call12 rfl (List.Perm.refl _) (w_qi_New hx1)) ?_
  rintro _ _ ⟨_, ⟨b1, c_r1, a_r2, cap_r2, rfl, rfl⟩, rfl⟩
  refine go_p rfl rfl rfl (o_assign rfl) ?_
  refine go_nil ?_
  refine g_seq ?_
  refine g_region ?_
  refine go_p rfl rfl rfl (o_move rfl) ?_
  refine go_p rfl rfl rfl (o_buildSlice (xs := [_, _]) (f := D.i64) (l := [_, _]) Try.runUnderlying28 Try.sizeOf3 Try.zeroValue3 rfl rfl rfl (fun _ => ⟨rfl, rfl, rfl⟩) rfl) ?_
  obtain ⟨s2, hx2, hm⟩ := bind_some hm
  refine go_op rfl rfl rfl (o_call_own [0, 1, 2] Try.call20 rfl rfl (getL_c rfl (getL_c rfl (getL_c rfl getL_n))) (w_qi_Push hx2) (by rintro _ _ ⟨_, _, _, rfl, rfl⟩; rfl)) ?_
  rintro _ _ ⟨_, ⟨c_r1, a_r2, cap_r2, rfl, rfl⟩, rfl⟩
  refine go_ms (ms' := [box b1 110 [_, _], _, _]) rfl ?_
  refine go_nil ?_
  refine g_seq ?_
  refine g_region ?_
  refine go_p rfl rfl rfl (o_move rfl) ?_
  obtain ⟨⟨x1, x2, s3⟩, hx3, hm⟩ := bind_some hm
  refine go_op rfl rfl rfl (o_call_own [0, 1, 2] Try.call16 rfl rfl (getL_c rfl (getL_c rfl (getL_c rfl getL_n))) (w_qi_Pop hx3) (by rintro _ _ ⟨_, _, _, rfl, rfl⟩; rfl)) ?_
  rintro _ _ ⟨_, ⟨c_r1, a_r2, cap_r2, rfl, rfl⟩, rfl⟩
  refine go_ms (ms' := [box b1 110 [_, _], _, _]) rfl ?_
  refine go_p rfl rfl rfl (o_move rfl) ?_
  refine go_p rfl rfl rfl (o_extract rfl rfl) ?_
  refine go_p rfl rfl rfl (o_extract rfl rfl) ?_
  refine go_p rfl rfl rfl (o_assign rfl) ?_
  refine go_p rfl rfl rfl (o_assign rfl) ?_
  refine go_nil ?_
  refine g_seq ?_
  refine g_region ?_
  refine go_p rfl rfl rfl (o_move rfl) ?_
  refine go_p rfl rfl rfl (o_buildSlice (xs := [_]) (f := D.i64) (l := [_]) Try.runUnderlying28 Try.sizeOf3 Try.zeroValue3 rfl rfl rfl (fun _ => ⟨rfl, rfl, rfl⟩) rfl) ?_
  obtain ⟨s4, hx4, hm⟩ := bind_some hm
  refine go_op rfl rfl rfl (o_call_own [0, 1, 2] Try.call20 rfl rfl (getL_c rfl (getL_c rfl (getL_c rfl getL_n))) (w_qi_Push hx4) (by rintro _ _ ⟨_, _, _, rfl, rfl⟩; rfl)) ?_
  rintro _ _ ⟨_, ⟨c_r1, a_r2, cap_r2, rfl, rfl⟩, rfl⟩
  refine go_ms (ms' := [box b1 110 [_, _], _, _]) rfl ?_
  refine go_nil ?_
  refine g_seq ?_
  refine g_region ?_
  refine go_p rfl rfl rfl (o_move rfl) ?_
  refine go_p rfl rfl rfl (o_move rfl) ?_
  apply go_and [(1, _)] 3 20 (t := 17) ⟨rfl, trivial⟩ rfl
  · intro hg_1 hk1
    refine go_wantp rfl rfl rfl hg_1 rfl rfl (o_move rfl) ?_
    refine go_wantp rfl rfl rfl hg_1 rfl rfl (o_cmp rfl rfl rfl) ?_
    refine go_p rfl rfl rfl (o_pickT rfl hg_1 rfl) ?_
    exact go_meet hk1 (rfl) ⟨rfl, trivial⟩
  · intro hg_1 hk1
    refine go_skip rfl rfl rfl hg_1 rfl rfl ?_
    refine go_skip rfl rfl rfl hg_1 rfl rfl ?_
    refine go_p rfl rfl rfl (o_pickF rfl hg_1 rfl) ?_
    exact go_meet hk1 (rfl) ⟨rfl, trivial⟩
  refine go_p rfl rfl rfl (o_move rfl) ?_
  rcases cond_split hm with ⟨hg_2, hm⟩ | ⟨hg_2, hm⟩
  · skip
    refine go_wantp rfl rfl rfl hg_2 rfl rfl (o_move rfl) ?_
    obtain ⟨⟨x3, s5⟩, hx5, hm⟩ := bind_some hm
    refine go_want rfl rfl rfl hg_2 rfl rfl (o_call_own [0, 1, 2] Try.call19 rfl rfl (getL_c rfl (getL_c rfl (getL_c rfl getL_n))) (w_qi_Drain hx5) (by rintro _ _ ⟨_, _, _, rfl, rfl⟩; rfl)) ?_
    rintro _ _ ⟨_, ⟨c_r1, a_r2, cap_r2, rfl, rfl⟩, rfl⟩
    refine go_ms (ms' := [box b1 110 [_, _], _, _]) rfl ?_
    refine go_wantp rfl rfl rfl hg_2 rfl rfl (o_buildSlice (xs := [_, _]) (f := D.i64) (l := [_, _]) Try.runUnderlying28 Try.sizeOf3 Try.zeroValue3 rfl rfl rfl (fun _ => ⟨rfl, rfl, rfl⟩) rfl) ?_
    obtain ⟨x4, hx6, hm⟩ := bind_some hm
    refine go_wantp rfl rfl rfl hg_2 rfl rfl (o_call0 Try.call18 rfl (w_syntagmabase_SameInts hx6)) ?_
    refine go_p rfl rfl rfl (o_pickT rfl hg_2 rfl) ?_
    refine go_p rfl rfl rfl (o_move rfl) ?_
    obtain ⟨p1, hp_3, hm⟩ := bind_some hm
    refine go_two [(1, _)] 4 31 p1 (t := 27) ⟨rfl, trivial⟩ rfl (fun hg_3 hk3 => ?_) (fun hg_3 hk3 => ?_) ?_
    · replace hp_3 := cond_t hg_3 hp_3
      refine go_wantp rfl rfl rfl hg_3 rfl rfl (o_move rfl) ?_
      obtain ⟨x5, hx7, hp_3⟩ := bind_some hp_3
      refine go_want rfl rfl rfl hg_3 rfl rfl (o_call_own [0, 1, 2] Try.call21 rfl rfl (getL_c rfl (getL_c rfl (getL_c rfl getL_n))) (w_qi_Len hx7) (by rintro _ _ ⟨rfl, rfl⟩; rfl)) ?_
      rintro _ _ ⟨_, ⟨rfl, rfl⟩, rfl⟩
      refine go_ms (ms' := [box b1 110 [_, _], _, _]) rfl ?_
      refine go_wantp rfl rfl rfl hg_3 rfl rfl (o_cmp rfl rfl rfl) ?_
      refine go_p rfl rfl rfl (o_pickT rfl hg_3 rfl) ?_
      exact go_meet hk3 (congrArg (fun b => some (D.bool b)) (some_eq hp_3)) ⟨rfl, trivial⟩
    · replace hp_3 := cond_f hg_3 hp_3
      refine go_skip rfl rfl rfl hg_3 rfl rfl ?_
      refine go_skip rfl rfl rfl hg_3 rfl rfl ?_
      refine go_skip rfl rfl rfl hg_3 rfl rfl ?_
      refine go_p rfl rfl rfl (o_pickF rfl hg_3 rfl) ?_
      exact go_meet hk3 (congrArg (fun b => some (D.bool b)) (some_eq hp_3)) ⟨rfl, trivial⟩
    refine go_p rfl rfl rfl (o_move rfl) ?_
    obtain ⟨p2, hp_4, hm⟩ := bind_some hm
    refine go_two [] 4 36 p2 (t := 32) trivial rfl (fun hg_4 hk4 => ?_) (fun hg_4 hk4 => ?_) ?_
    · replace hp_4 := cond_t hg_4 hp_4
      refine go_wantp rfl rfl rfl hg_4 rfl rfl (o_move rfl) ?_
      obtain ⟨x6, hx8, hp_4⟩ := bind_some hp_4
      refine go_want rfl rfl rfl hg_4 rfl rfl (o_call_own [0, 1, 2] Try.call14 rfl rfl (getL_c rfl (getL_c rfl (getL_c rfl getL_n))) (w_qi_Room hx8) (by rintro _ _ ⟨rfl, rfl⟩; rfl)) ?_
      rintro _ _ ⟨_, ⟨rfl, rfl⟩, rfl⟩
      refine go_ms (ms' := [box b1 110 [_, _], _, _]) rfl ?_
      refine go_wantp rfl rfl rfl hg_4 rfl rfl (o_cmp rfl rfl rfl) ?_
      refine go_p rfl rfl rfl (o_pickT rfl hg_4 rfl) ?_
      exact go_meet hk4 (congrArg (fun b => some (D.bool b)) (some_eq hp_4)) trivial
    · replace hp_4 := cond_f hg_4 hp_4
      refine go_skip rfl rfl rfl hg_4 rfl rfl ?_
      refine go_skip rfl rfl rfl hg_4 rfl rfl ?_
      refine go_skip rfl rfl rfl hg_4 rfl rfl ?_
      refine go_p rfl rfl rfl (o_pickF rfl hg_4 rfl) ?_
      exact go_meet hk4 (congrArg (fun b => some (D.bool b)) (some_eq hp_4)) trivial
    refine go_p rfl rfl rfl (o_assign rfl) ?_
    refine go_nil ?_
    refine g_ret ?_
    exact retK (ret_one' rfl (ret_tmp rfl) (perm_drop _)) (congrArg (fun (p : Bool) => (.bool p : D)) (some_eq hm))
  · skip
    refine go_skip rfl rfl rfl hg_2 rfl rfl ?_
    refine go_skip rfl rfl rfl hg_2 rfl rfl ?_
    refine go_skip rfl rfl rfl hg_2 rfl rfl ?_
    refine go_skip rfl rfl rfl hg_2 rfl rfl ?_
    refine go_p rfl rfl rfl (o_pickF rfl hg_2 rfl) ?_
    refine go_p rfl rfl rfl (o_move rfl) ?_
    refine go_skip rfl rfl rfl rfl rfl rfl ?_
    refine go_skip rfl rfl rfl rfl rfl rfl ?_
    refine go_skip rfl rfl rfl rfl rfl rfl ?_
    refine go_p rfl rfl rfl (o_pickF rfl rfl rfl) ?_
    refine go_p rfl rfl rfl (o_move rfl) ?_
    refine go_skip rfl rfl rfl rfl rfl rfl ?_
    refine go_skip rfl rfl rfl rfl rfl rfl ?_
    refine go_skip rfl rfl rfl rfl rfl rfl ?_
    refine go_p rfl rfl rfl (o_pickF rfl rfl rfl) ?_
    refine go_p rfl rfl rfl (o_assign rfl) ?_
    refine go_nil ?_
    refine g_ret ?_
    exact retK (ret_one' rfl (ret_tmp rfl) (perm_drop _)) (congrArg (fun (p : Bool) => (.bool p : D)) (some_eq hm))
structure Syntagmalaw18Act where
  do_ : Int
  n_ : Int
def Syntagmalaw18Act.d (x : Syntagmalaw18Act) : D := .agg [.i64 x.do_, .i64 x.n_]
theorem fi_30_1 : FieldIs Try.prog 30 1 1 1 false := ⟨⟨_, _, Try.runUnderlying30, rfl, rfl, Try.sizeOf3, by decide, Try.isAgg3⟩⟩
theorem fi_32_0 : FieldIs Try.prog 32 0 0 1 false := ⟨⟨_, _, Try.runUnderlying32, rfl, rfl, Try.sizeOf3, by decide, Try.isAgg3⟩⟩
theorem fi_32_1 : FieldIs Try.prog 32 1 1 1 false := ⟨⟨_, _, Try.runUnderlying32, rfl, rfl, Try.sizeOf3, by decide, Try.isAgg3⟩⟩
def m_syntagmalaw18_QueuePlays_l1 (acts1 : (List Syntagmalaw18Act)) : Nat → (Int × Int × (List Int) × (Nat × List Int) × (List Int)) → Option (Out Bool (Int × (List Int) × (Nat × List Int) × (List Int)))
  | 0, _ => none
  | n + 1, (i1, z2, l3, ch2, l4) =>
    bif ((decide (i1 < (acts1.length : Int))) && (decide (i1 < 200))) then
      (idx acts1 i1).bind fun x2 =>
      (m_syntagmabase_Among x2.do_ 5).bind fun x3 =>
      ((bif (decide (x3 = 2)) then
        (m_qi_Pop (⟨ch2, l4⟩ : QueueQueueInt)).bind fun (x4, x5, s3) =>
        (m_ref18_Pop (⟨l3, z2⟩ : Syntagmaref18Row)).bind fun (x6, x7, s4) =>
        bif ((!decide (x4 = x6)) || (!(x5 == x7))) then
          some (Out.ret false)
        else
          some (Out.go ((s4.room, s4.l, s3.first, s3.more)))
      else
        bif (decide (x3 = 3)) then
          (m_qi_Drain (⟨ch2, l4⟩ : QueueQueueInt)).bind fun (x8, s5) =>
          (m_syntagmabase_SameInts x8 l3).bind fun x9 =>
          bif (!x9) then
            some (Out.ret false)
          else
            some (Out.go ((z2, ([] : List Int), s5.first, s5.more)))
        else
          bif (decide (x3 = 4)) then
            (m_qi_Push (⟨ch2, l4⟩ : QueueQueueInt) [x2.n_, x2.n_, i1]).bind fun s6 =>
            grd ((l3.length + ([x2.n_, x2.n_, i1] : List _).length) * 8 ≤ 140737488355328) <|
            some (Out.go ((z2, (l3 ++ [x2.n_, x2.n_, i1]), s6.first, s6.more)))
          else
            (m_qi_Push (⟨ch2, l4⟩ : QueueQueueInt) [x2.n_]).bind fun s7 =>
            grd ((l3.length + ([x2.n_] : List _).length) * 8 ≤ 140737488355328) <|
            some (Out.go ((z2, (l3 ++ [x2.n_]), s7.first, s7.more))) : Option (Out Bool (Int × (List Int) × (Nat × List Int) × (List Int))))).bind (fun oo => oo.on (fun r1 => some (Out.ret r1)) (fun (z3, l5, ch3, l6) =>
      (m_qi_Len (⟨ch3, l6⟩ : QueueQueueInt)).bind fun x10 =>
      bif (!decide (x10 = (l5.length : Int))) then
        some (Out.ret false)
      else
        grd (InR (i1 + 1)) <|
        m_syntagmalaw18_QueuePlays_l1 acts1 n ((i1 + 1), z3, l5, ch3, l6)))
    else
      some (Out.go ((z2, l3, ch2, l4)))
def m_syntagmalaw18_QueuePlays (room1 : Int) (acts1 : (List Syntagmalaw18Act)) : Option Bool :=
  (m_qi_New room1).bind fun s1 =>
  (m_ref18_New room1).bind fun s2 =>
  (m_qi_Room (⟨s1.first, s1.more⟩ : QueueQueueInt)).bind fun x1 =>
  bif (!decide (x1 = s2.room)) then
    some false
  else
    ((m_syntagmalaw18_QueuePlays_l1 acts1 FU (0, s2.room, s2.l, s1.first, s1.more) : Option (Out Bool (Int × (List Int) × (Nat × List Int) × (List Int))))).bind (fun oo => oo.on (fun r2 => some r2) (fun (z1, l1, ch1, l2) =>
    (m_qi_Drain (⟨ch1, l2⟩ : QueueQueueInt)).bind fun (x11, s8) =>
    (m_syntagmabase_SameInts x11 l1).bind fun x12 =>
    bif x12 then ((m_syntagmalaw18_works).bind fun x13 =>
    some x13) else (some false)))
theorem w_syntagmalaw18_QueuePlays {room1 : Int} {acts1 : (List Syntagmalaw18Act)} {r_1 : Bool} (hm : m_syntagmalaw18_QueuePlays room1 acts1 = some r_1) : Fn0 Try.prog 3 [.i64 room1, .list 2 Syntagmalaw18Act.d acts1] (.bool r_1) := by
  unfold m_syntagmalaw18_QueuePlays at hm
  refine fn_intro Try.func3 rfl Try.ntmps3 rfl fun H0 fr w0 => ?_
  refine g_seq ?_
  refine g_region ?_
  refine go_p rfl rfl rfl (o_assign rfl) ?_
  refine go_nil ?_
  refine g_seq ?_
  refine g_region ?_
  refine go_p rfl rfl rfl (o_move rfl) ?_
  obtain ⟨s1, hx1, hm⟩ := bind_some hm
  refine go_op rfl rfl rfl (o_call (ms₁ := []) Try.call12 rfl (List.Perm.refl _) (w_qi_New hx1)) ?_
  rintro _ _ ⟨_, ⟨b1, c_r1, a_r2, cap_r2, rfl, rfl⟩, rfl⟩
  refine go_p rfl rfl rfl (o_move rfl) ?_
  obtain ⟨s2, hx2, hm⟩ := bind_some hm
  refine go_op rfl rfl rfl (o_call (ms₁ := []) Try.call13 rfl (List.Perm.refl _) (w_ref18_New hx2)) ?_
  rintro _ _ ⟨_, ⟨b2, a_r3, cap_r3, rfl, rfl⟩, rfl⟩
  refine go_p rfl rfl rfl (o_assign rfl) ?_
  refine go_p rfl rfl rfl (o_assign rfl) ?_
  refine go_nil ?_
  refine g_seq ?_
  refine g_seq ?_
  obtain ⟨x1, hx3, hm⟩ := bind_some hm
  refine g_draw_c [1, 6] [2, 3, 4, 5] [5] Try_mixed (by decide +kernel) (by decide +kernel) rfl ?_
  refine gde_p rfl rfl rfl rfl rfl rfl (o_move rfl) ?_
  refine gde_e rfl ?_
  refine gde_p rfl rfl rfl rfl rfl rfl (o_move rfl) ?_
  refine gde_p rfl rfl rfl rfl rfl rfl (o_nilCheck_box rfl) ?_
  refine gde_p rfl rfl rfl rfl rfl rfl (o_fieldAddr_box fi_30_1 rfl) ?_
  refine gde_f rfl rfl rfl rfl rfl (o_load_box 0 Try.isAgg3 rfl rfl rfl rfl) ?_
  refine gde_e rfl ?_
  refine gde_nil ?_
  refine gde2_t rfl rfl rfl rfl (o_call_own [2, 3, 4] Try.call14 rfl rfl (getL_c rfl (getL_c rfl (getL_c rfl getL_n))) (w_qi_Room hx3) (by rintro _ _ ⟨rfl, rfl⟩; rfl)) ?_
  rintro _ _ ⟨_, ⟨rfl, rfl⟩, rfl⟩
  show _ ∧ GDE2 _ _ _ _ _ _ _ _ ([box b2 30 [_, _], _, box b1 110 [_, _], _, _])
  refine ⟨⟨trivial, o_load_box 0 Try.isAgg3 rfl rfl rfl rfl⟩, ?_⟩
  refine gde2_t rfl rfl rfl rfl (o_cmp rfl rfl rfl) ?_
  rintro _ _ ⟨rfl, rfl⟩
  refine ⟨⟨trivial, o_load_box 0 Try.isAgg3 rfl rfl rfl rfl⟩, ?_⟩
  refine gde2_nil ?_
  refine g_cond rfl (fun hc1 => ?_) (fun hc1 => ?_)
  · replace hm := cond_t hc1 hm
    refine g_seq ?_
    refine g_region ?_
    refine go_p rfl rfl rfl (o_assign rfl) ?_
    refine go_nil ?_
    refine g_ret ?_
    exact retK (ret_one' rfl (ret_tmp rfl) (perm_drop _)) (congrArg (fun (p : Bool) => (.bool p : D)) (some_eq hm))
  · replace hm := cond_f hc1 hm
    refine g_skip ?_
    refine g_seq ?_
    refine g_seq ?_
    refine g_region ?_
    refine go_p rfl rfl rfl (o_assign rfl) ?_
    refine go_nil ?_
    obtain ⟨o_1, hj1, hm1⟩ := bind_some hm
    refine g_cut_m [(5, _), (6, _)] [] (fun (st : (Int × (List Int) × (Nat × List Int) × (List Int))) (hid : (Option Addr × Nat) × Nat × (Option Addr × Nat)) => match st, hid with | (z1, l1, ch1, l2), ((a_r3, cap_r3), c_r1, (a_r2, cap_r2)) => []) (fun F (st : (Int × (List Int) × (Nat × List Int) × (List Int))) (hid : (Option Addr × Nat) × Nat × (Option Addr × Nat)) => match st, hid with | (z1, l1, ch1, l2), ((a_r3, cap_r3), c_r1, (a_r2, cap_r2)) => [box b2 30 [.v (.slice a_r3 l1.length cap_r3), .i64 z1], row a_r3 cap_r3 3 1 D.i64 l1, box b1 110 [.v (.chan (some c_r1)), .v (.slice a_r2 l2.length cap_r2)], chn c_r1 ch1.1 D.i64 ch1.2, que a_r2 cap_r2 3 1 D.i64 l2]) (fun st => Out.go (st) = o_1) ⟨rfl, rfl, trivial⟩ trivial ?_ ?_
    · skip
      refine g_block ?_
      refine g_loop_m [(1, _), (5, _), (6, _)] [] (fun (st : (Int × Int × (List Int) × (Nat × List Int) × (List Int))) (hid : (Option Addr × Nat) × Nat × (Option Addr × Nat)) => match st, hid with | (i1, z2, l3, ch2, l4), ((a_r3, cap_r3), c_r1, (a_r2, cap_r2)) => [(7, .i64 i1)]) (fun F (st : (Int × Int × (List Int) × (Nat × List Int) × (List Int))) (hid : (Option Addr × Nat) × Nat × (Option Addr × Nat)) => match st, hid with | (i1, z2, l3, ch2, l4), ((a_r3, cap_r3), c_r1, (a_r2, cap_r2)) => [box b2 30 [.v (.slice a_r3 l3.length cap_r3), .i64 z2], row a_r3 cap_r3 3 1 D.i64 l3, box b1 110 [.v (.chan (some c_r1)), .v (.slice a_r2 l4.length cap_r2)], chn c_r1 ch2.1 D.i64 ch2.2, que a_r2 cap_r2 3 1 D.i64 l4]) ((_, _), _, (_, _)) hj1 (fun _ => rfl) ⟨rfl, rfl, rfl, trivial⟩ trivial ⟨rfl, trivial⟩ rfl ?_
      rintro n ⟨i1, z2, l3, ch2, l4⟩ ⟨⟨a_r3, cap_r3⟩, c_r1, ⟨a_r2, cap_r2⟩⟩ hj1
      rw [m_syntagmalaw18_QueuePlays_l1] at hj1
      refine g_norm (L' := [(7, .i64 i1), (1, _), (5, _), (6, _)]) (ms' := [box b2 30 [.v (.slice a_r3 l3.length cap_r3), .i64 z2], row a_r3 cap_r3 3 1 D.i64 l3, box b1 110 [.v (.chan (some c_r1)), .v (.slice a_r2 l4.length cap_r2)], chn c_r1 ch2.1 D.i64 ch2.2, que a_r2 cap_r2 3 1 D.i64 l4]) rfl rfl ?_
      refine g_seq ?_
      refine g_seq ?_
      refine g_region ?_
      refine go_p rfl rfl rfl (o_move rfl) ?_
      refine go_p rfl rfl rfl (o_move rfl) ?_
      refine go_p rfl rfl rfl (o_len Try.runUnderlying22 rfl) ?_
      refine go_p rfl rfl rfl (o_cmp rfl rfl rfl) ?_
      refine go_p rfl rfl rfl (o_move rfl) ?_
      apply go_and [(1, _), (5, _), (6, _), (7, _)] 3 31 (t := 28) ⟨rfl, rfl, rfl, rfl, trivial⟩ rfl
      · intro hg_1 hk1
        refine go_wantp rfl rfl rfl hg_1 rfl rfl (o_move rfl) ?_
        refine go_wantp rfl rfl rfl hg_1 rfl rfl (o_cmp rfl rfl rfl) ?_
        refine go_p rfl rfl rfl (o_pickT rfl hg_1 rfl) ?_
        exact go_meet hk1 (rfl) ⟨rfl, rfl, rfl, rfl, trivial⟩
      · intro hg_1 hk1
        refine go_skip rfl rfl rfl hg_1 rfl rfl ?_
        refine go_skip rfl rfl rfl hg_1 rfl rfl ?_
        refine go_p rfl rfl rfl (o_pickF rfl hg_1 rfl) ?_
        exact go_meet hk1 (rfl) ⟨rfl, rfl, rfl, rfl, trivial⟩
      refine go_nil ?_
      refine g_cond rfl (fun hc2 => ?_) (fun hc2 => ?_)
      · replace hj1 := cond_t hc2 hj1
        refine g_skip ?_
        refine g_seq ?_
        refine g_block ?_
        refine g_seq ?_
        refine g_region ?_
        refine go_p rfl rfl rfl (o_move rfl) ?_
        refine go_p rfl rfl rfl (o_move rfl) ?_
        obtain ⟨x2, hx4, hj1⟩ := bind_some hj1
        refine go_p rfl rfl rfl (o_indexAddr_m Try.runUnderlying22 Try.sizeOf32 rfl rfl hx4) ?_
        refine go_p rfl rfl rfl (o_load_agg Try.isAgg32 Try.sizeOf32 rfl rfl) ?_
        refine go_op rfl rfl rfl (o_alloc_own Try.zeroValue32 (cs := [.i64 0, .i64 0]) rfl) ?_
        rintro _ _ ⟨b3, rfl, rfl⟩
        refine go_u rfl rfl (o_store_box 0 Try.sizeOf32 rfl rfl rfl rfl rfl rfl rfl rfl (Nat.le_of_ble_eq_true rfl)) ?_
        rintro _ _ rfl
        refine go_ms (ms' := [box b3 32 [_, _], box b2 30 [_, _], _, box b1 110 [_, _], _, _]) rfl ?_
        refine go_nil ?_
        refine g_seq ?_
        refine g_seq ?_
        refine g_region ?_
        refine go_p rfl rfl rfl (o_fieldAddr_box fi_32_0 rfl) ?_
        refine go_p rfl rfl rfl (o_load_box 0 Try.isAgg3 rfl rfl rfl rfl) ?_
        obtain ⟨x3, hx5, hj1⟩ := bind_some hj1
        refine go_p rfl rfl rfl (o_call0 Try.call15 rfl (w_syntagmabase_Among hx5)) ?_
        refine go_nil ?_
        obtain ⟨o_2, hj2, hm2⟩ := bind_some hj1
        refine g_cut_m [(1, _), (5, _), (6, _), (7, _)] [(0, _)] (fun (st : (Int × (List Int) × (Nat × List Int) × (List Int))) (hid : (Option Addr × Nat) × Nat × (Option Addr × Nat)) => match st, hid with | (z3, l5, ch3, l6), ((a_r3, cap_r3), c_r1, (a_r2, cap_r2)) => []) (fun F (st : (Int × (List Int) × (Nat × List Int) × (List Int))) (hid : (Option Addr × Nat) × Nat × (Option Addr × Nat)) => match st, hid with | (z3, l5, ch3, l6), ((a_r3, cap_r3), c_r1, (a_r2, cap_r2)) => [(nthF F 0), box b2 30 [.v (.slice a_r3 l5.length cap_r3), .i64 z3], row a_r3 cap_r3 3 1 D.i64 l5, box b1 110 [.v (.chan (some c_r1)), .v (.slice a_r2 l6.length cap_r2)], chn c_r1 ch3.1 D.i64 ch3.2, que a_r2 cap_r2 3 1 D.i64 l6]) (fun st => Out.go (st) = o_2) ⟨rfl, rfl, rfl, rfl, trivial⟩ ⟨rfl, trivial⟩ ?_ ?_
        · skip
          refine g_block ?_
          refine g_seq ?_
          refine g_region ?_
          refine go_p rfl rfl rfl (o_cmp rfl rfl rfl) ?_
          refine go_p rfl rfl rfl (o_assign rfl) ?_
          refine go_nil ?_
          refine g_cond rfl (fun hc3 => ?_) (fun hc3 => ?_)
          · replace hj2 := cond_t hc3 hj2
            refine g_seq ?_
            refine g_region ?_
            refine go_p rfl rfl rfl (o_move rfl) ?_
            obtain ⟨⟨x4, x5, s3⟩, hx6, hj2⟩ := bind_some hj2
            refine go_op rfl rfl rfl (o_call_own [3, 4, 5] Try.call16 rfl rfl (getL_c rfl (getL_c rfl (getL_c rfl getL_n))) (w_qi_Pop hx6) (by rintro _ _ ⟨_, _, _, rfl, rfl⟩; rfl)) ?_
            rintro _ _ ⟨_, ⟨c_r1, a_r2, cap_r2, rfl, rfl⟩, rfl⟩
            refine go_ms (ms' := [box b3 32 [_, _], box b2 30 [_, _], _, box b1 110 [_, _], _, _]) rfl ?_
            refine go_p rfl rfl rfl (o_move rfl) ?_
            refine go_p rfl rfl rfl (o_extract rfl rfl) ?_
            refine go_p rfl rfl rfl (o_extract rfl rfl) ?_
            refine go_p rfl rfl rfl (o_assign rfl) ?_
            refine go_p rfl rfl rfl (o_assign rfl) ?_
            refine go_nil ?_
            refine g_seq ?_
            refine g_region ?_
            refine go_p rfl rfl rfl (o_move rfl) ?_
            obtain ⟨⟨x6, x7, s4⟩, hx7, hj2⟩ := bind_some hj2
            refine go_op rfl rfl rfl (o_call_own [1, 2] Try.call17 rfl rfl (getL_c rfl (getL_c rfl getL_n)) (w_ref18_Pop hx7) (by rintro _ _ ⟨_, _, rfl, rfl⟩; rfl)) ?_
            rintro _ _ ⟨_, ⟨a_r3, cap_r3, rfl, rfl⟩, rfl⟩
            refine go_ms (ms' := [box b3 32 [_, _], box b2 30 [_, _], _, box b1 110 [_, _], _, _]) rfl ?_
            refine go_p rfl rfl rfl (o_move rfl) ?_
            refine go_p rfl rfl rfl (o_extract rfl rfl) ?_
            refine go_p rfl rfl rfl (o_extract rfl rfl) ?_
            refine go_p rfl rfl rfl (o_assign rfl) ?_
            refine go_p rfl rfl rfl (o_assign rfl) ?_
            refine go_nil ?_
            refine g_seq ?_
            refine g_region ?_
            refine go_p rfl rfl rfl (o_move rfl) ?_
            refine go_p rfl rfl rfl (o_move rfl) ?_
            refine go_p rfl rfl rfl (o_cmp rfl rfl rfl) ?_
            refine go_p rfl rfl rfl (o_move rfl) ?_
            apply go_or [(1, _), (5, _), (6, _), (7, _)] 4 76 (t := 72) ⟨rfl, rfl, rfl, rfl, trivial⟩ rfl
            · intro hg_2 hk2
              refine go_wantp rfl rfl rfl hg_2 rfl rfl (o_move rfl) ?_
              refine go_wantp rfl rfl rfl hg_2 rfl rfl (o_move rfl) ?_
              refine go_wantp rfl rfl rfl hg_2 rfl rfl (o_neqb Try.runUnderlying4 rfl rfl) ?_
              refine go_p rfl rfl rfl (o_pickF rfl hg_2 rfl) ?_
              exact go_meet hk2 (rfl) ⟨rfl, rfl, rfl, rfl, trivial⟩
            · intro hg_2 hk2
              refine go_skip rfl rfl rfl hg_2 rfl rfl ?_
              refine go_skip rfl rfl rfl hg_2 rfl rfl ?_
              refine go_skip rfl rfl rfl hg_2 rfl rfl ?_
              refine go_p rfl rfl rfl (o_pickT rfl hg_2 rfl) ?_
              exact go_meet hk2 (rfl) ⟨rfl, rfl, rfl, rfl, trivial⟩
            refine go_nil ?_
            refine g_cond rfl (fun hc4 => ?_) (fun hc4 => ?_)
            · replace hj2 := cond_t hc4 hj2
              refine g_seq ?_
              refine g_region ?_
              refine go_p rfl rfl rfl (o_assign rfl) ?_
              refine go_nil ?_
              refine g_ret ?_
              obtain rfl := some_eq hj2
              replace hm2 := on_ret hm2
              obtain rfl := some_eq hm2
              replace hm1 := on_ret hm1
              exact retK (ret_one' rfl (ret_tmp rfl) (perm_drop _)) (congrArg (fun (p : Bool) => (.bool p : D)) (some_eq hm1))
            · replace hj2 := cond_f hc4 hj2
              refine g_skip ?_
              exact ⟨_, ((_, _), _, (_, _)), some_eq hj2, trivial, ⟨rfl, rfl, rfl, rfl, trivial⟩, [], rfl⟩
          · replace hj2 := cond_f hc3 hj2
            refine g_seq ?_
            refine g_region ?_
            refine go_p rfl rfl rfl (o_cmp rfl rfl rfl) ?_
            refine go_p rfl rfl rfl (o_assign rfl) ?_
            refine go_nil ?_
            refine g_cond rfl (fun hc5 => ?_) (fun hc5 => ?_)
            · replace hj2 := cond_t hc5 hj2
              refine g_seq ?_
              refine g_seq ?_
              obtain ⟨⟨x8, s5⟩, hx8, hj2⟩ := bind_some hj2
              obtain ⟨x9, hx9, hj2⟩ := bind_some hj2
              refine g_draw_c [1, 6, 7] [2, 3, 4, 5] [5] Try_mixed (by decide +kernel) (by decide +kernel) rfl ?_
              refine gde_p rfl rfl rfl rfl rfl rfl (o_move rfl) ?_
              refine gde_e rfl ?_
              refine gde_p rfl rfl rfl rfl rfl rfl (o_move rfl) ?_
              refine gde_p rfl rfl rfl rfl rfl rfl (o_nilCheck_box rfl) ?_
              refine gde_p rfl rfl rfl rfl rfl rfl (o_fieldAddr_box fi_30_0 rfl) ?_
              refine gde_f rfl rfl rfl rfl rfl (o_load_box 1 Try.isAgg28 rfl rfl rfl rfl) ?_
              refine gde_e rfl ?_
              refine gde_e rfl ?_
              refine gde_nil ?_
              refine gde2_t rfl rfl rfl rfl (o_call_own [3, 4, 5] Try.call19 rfl rfl (getL_c rfl (getL_c rfl (getL_c rfl getL_n))) (w_qi_Drain hx8) (by rintro _ _ ⟨_, _, _, rfl, rfl⟩; rfl)) ?_
              rintro _ _ ⟨_, ⟨c_r1, a_r2, cap_r2, rfl, rfl⟩, rfl⟩
              show _ ∧ GDE2 _ _ _ _ _ _ _ _ ([box b3 32 [_, _], box b2 30 [_, _], _, box b1 110 [_, _], _, _])
              refine ⟨⟨trivial, o_load_box 1 Try.isAgg28 rfl rfl rfl rfl⟩, ?_⟩
              refine gde2_t rfl rfl rfl rfl (.view (peekE (i := 84) 2 rfl rfl rfl) (o_call0 Try.call18 rfl (w_syntagmabase_SameInts hx9))) ?_
              rintro _ _ ⟨rfl, rfl⟩
              refine ⟨⟨trivial, o_load_box 1 Try.isAgg28 rfl rfl rfl rfl⟩, ?_⟩
              refine gde2_t rfl rfl rfl rfl (o_not rfl) ?_
              rintro _ _ ⟨rfl, rfl⟩
              refine ⟨⟨trivial, o_load_box 1 Try.isAgg28 rfl rfl rfl rfl⟩, ?_⟩
              refine gde2_nil ?_
              refine g_cond rfl (fun hc6 => ?_) (fun hc6 => ?_)
              · replace hj2 := cond_t hc6 hj2
                refine g_seq ?_
                refine g_region ?_
                refine go_p rfl rfl rfl (o_assign rfl) ?_
                refine go_nil ?_
                refine g_ret ?_
                obtain rfl := some_eq hj2
                replace hm2 := on_ret hm2
                obtain rfl := some_eq hm2
                replace hm1 := on_ret hm1
                exact retK (ret_one' rfl (ret_tmp rfl) (perm_drop _)) (congrArg (fun (p : Bool) => (.bool p : D)) (some_eq hm1))
              · replace hj2 := cond_f hc6 hj2
                refine g_skip ?_
                refine g_region ?_
                refine go_p rfl rfl rfl (o_move rfl) ?_
                refine go_p rfl rfl rfl (o_nilCheck_box rfl) ?_
                refine go_p rfl rfl rfl (o_fieldAddr_box fi_30_0 rfl) ?_
                refine go_u rfl rfl (o_store_box 1 Try.sizeOf28 rfl rfl rfl rfl rfl rfl rfl rfl (Nat.le_of_ble_eq_true rfl)) ?_
                rintro _ _ rfl
                refine go_conv (refines_newrow (T := 3) (sz := 1) (f := D.i64)) ?_
                refine go_ms (ms' := [_, box b3 32 [_, _], box b2 30 [_, _], _, box b1 110 [_, _], _, _]) rfl ?_
                refine go_conv (refines_shift 0 3 rfl rfl rfl rfl) ?_
                refine go_nil ?_
                exact ⟨_, ((_, _), _, (_, _)), some_eq hj2, trivial, ⟨rfl, rfl, rfl, rfl, trivial⟩, [], rfl⟩
            · replace hj2 := cond_f hc5 hj2
              refine g_seq ?_
              refine g_region ?_
              refine go_p rfl rfl rfl (o_cmp rfl rfl rfl) ?_
              refine go_p rfl rfl rfl (o_assign rfl) ?_
              refine go_nil ?_
              refine g_cond rfl (fun hc7 => ?_) (fun hc7 => ?_)
              · replace hj2 := cond_t hc7 hj2
                refine g_seq ?_
                refine g_region ?_
                refine go_p rfl rfl rfl (o_move rfl) ?_
                refine go_p rfl rfl rfl (o_fieldAddr_box fi_32_1 rfl) ?_
                refine go_p rfl rfl rfl (o_load_box 0 Try.isAgg3 rfl rfl rfl rfl) ?_
                refine go_p rfl rfl rfl (o_fieldAddr_box fi_32_1 rfl) ?_
                refine go_p rfl rfl rfl (o_load_box 0 Try.isAgg3 rfl rfl rfl rfl) ?_
                refine go_p rfl rfl rfl (o_move rfl) ?_
                refine go_p rfl rfl rfl (o_buildSlice (xs := [_, _, _]) (f := D.i64) (l := [_, _, _]) Try.runUnderlying28 Try.sizeOf3 Try.zeroValue3 rfl rfl rfl (fun _ => ⟨rfl, rfl, rfl⟩) rfl) ?_
                obtain ⟨s6, hx10, hj2⟩ := bind_some hj2
                refine go_op rfl rfl rfl (o_call_own [3, 4, 5] Try.call20 rfl rfl (getL_c rfl (getL_c rfl (getL_c rfl getL_n))) (w_qi_Push hx10) (by rintro _ _ ⟨_, _, _, rfl, rfl⟩; rfl)) ?_
                rintro _ _ ⟨_, ⟨c_r1, a_r2, cap_r2, rfl, rfl⟩, rfl⟩
                refine go_ms (ms' := [box b3 32 [_, _], box b2 30 [_, _], _, box b1 110 [_, _], _, _]) rfl ?_
                refine go_nil ?_
                obtain ⟨hg11, hj2⟩ := grd_some hj2
                refine g_draw_c [11, 14] [0, 12, 13] [] Try_mixed (by decide +kernel) (by decide +kernel) rfl ?_
                refine gde_p rfl rfl rfl rfl rfl rfl (o_move rfl) ?_
                refine gde_p rfl rfl rfl rfl rfl rfl (o_move rfl) ?_
                refine gde_p rfl rfl rfl rfl rfl rfl (o_nilCheck_box rfl) ?_
                refine gde_p rfl rfl rfl rfl rfl rfl (o_fieldAddr_box fi_30_0 rfl) ?_
                refine gde_p rfl rfl rfl rfl rfl rfl (o_load_box 1 Try.isAgg28 rfl rfl rfl rfl) ?_
                refine gde_p rfl rfl rfl rfl rfl rfl (o_fieldAddr_box fi_32_1 rfl) ?_
                refine gde_p rfl rfl rfl rfl rfl rfl (o_load_box 0 Try.isAgg3 rfl rfl rfl rfl) ?_
                refine gde_p rfl rfl rfl rfl rfl rfl (o_fieldAddr_box fi_32_1 rfl) ?_
                refine gde_p rfl rfl rfl rfl rfl rfl (o_load_box 0 Try.isAgg3 rfl rfl rfl rfl) ?_
                refine gde_p rfl rfl rfl rfl rfl rfl (o_move rfl) ?_
                refine gde_p rfl rfl rfl rfl rfl rfl (o_buildSlice (xs := [_, _, _]) (f := D.i64) (l := [_, _, _]) Try.runUnderlying28 Try.sizeOf3 Try.zeroValue3 rfl rfl rfl (fun _ => ⟨rfl, rfl, rfl⟩) rfl) ?_
                refine gde_e rfl ?_
                refine gde_p rfl rfl rfl rfl rfl rfl (o_nilCheck_box rfl) ?_
                refine gde_p rfl rfl rfl rfl rfl rfl (o_fieldAddr_box fi_30_0 rfl) ?_
                refine gde_e rfl ?_
                refine gde_nil ?_
                refine gde2_t rfl rfl rfl rfl (o_append (a := _) 2 Try.underlying28 Try.type3 rfl rfl rfl rfl rfl rfl rfl (fun _ => rfl) (fun _ => rfl) hg11 (app_len hg11 rfl)) ?_
                rintro _ _ ⟨a_r3, cap_r3, rfl, rfl⟩
                refine ⟨(trivial : True), ?_⟩
                refine gde2_u rfl rfl rfl (o_store_box 1 Try.sizeOf28 rfl rfl rfl rfl rfl rfl rfl rfl (Nat.le_of_ble_eq_true rfl)) ?_
                rintro _ _ rfl
                refine ⟨(trivial : True), ?_⟩
                refine gde2_nil ?_
                exact ⟨_, ((_, _), _, (_, _)), some_eq hj2, trivial, ⟨rfl, rfl, rfl, rfl, trivial⟩, [], rfl⟩
              · replace hj2 := cond_f hc7 hj2
                refine g_seq ?_
                refine g_region ?_
                refine go_p rfl rfl rfl (o_move rfl) ?_
                refine go_p rfl rfl rfl (o_fieldAddr_box fi_32_1 rfl) ?_
                refine go_p rfl rfl rfl (o_load_box 0 Try.isAgg3 rfl rfl rfl rfl) ?_
                refine go_p rfl rfl rfl (o_buildSlice (xs := [_]) (f := D.i64) (l := [_]) Try.runUnderlying28 Try.sizeOf3 Try.zeroValue3 rfl rfl rfl (fun _ => ⟨rfl, rfl, rfl⟩) rfl) ?_
                obtain ⟨s7, hx12, hj2⟩ := bind_some hj2
                refine go_op rfl rfl rfl (o_call_own [3, 4, 5] Try.call20 rfl rfl (getL_c rfl (getL_c rfl (getL_c rfl getL_n))) (w_qi_Push hx12) (by rintro _ _ ⟨_, _, _, rfl, rfl⟩; rfl)) ?_
                rintro _ _ ⟨_, ⟨c_r1, a_r2, cap_r2, rfl, rfl⟩, rfl⟩
                refine go_ms (ms' := [box b3 32 [_, _], box b2 30 [_, _], _, box b1 110 [_, _], _, _]) rfl ?_
                refine go_nil ?_
                obtain ⟨hg13, hj2⟩ := grd_some hj2
                refine g_draw_c [8, 11] [0, 9, 10] [] Try_mixed (by decide +kernel) (by decide +kernel) rfl ?_
                refine gde_p rfl rfl rfl rfl rfl rfl (o_move rfl) ?_
                refine gde_p rfl rfl rfl rfl rfl rfl (o_move rfl) ?_
                refine gde_p rfl rfl rfl rfl rfl rfl (o_nilCheck_box rfl) ?_
                refine gde_p rfl rfl rfl rfl rfl rfl (o_fieldAddr_box fi_30_0 rfl) ?_
                refine gde_p rfl rfl rfl rfl rfl rfl (o_load_box 1 Try.isAgg28 rfl rfl rfl rfl) ?_
                refine gde_p rfl rfl rfl rfl rfl rfl (o_fieldAddr_box fi_32_1 rfl) ?_
                refine gde_p rfl rfl rfl rfl rfl rfl (o_load_box 0 Try.isAgg3 rfl rfl rfl rfl) ?_
                refine gde_p rfl rfl rfl rfl rfl rfl (o_buildSlice (xs := [_]) (f := D.i64) (l := [_]) Try.runUnderlying28 Try.sizeOf3 Try.zeroValue3 rfl rfl rfl (fun _ => ⟨rfl, rfl, rfl⟩) rfl) ?_
                refine gde_e rfl ?_
                refine gde_p rfl rfl rfl rfl rfl rfl (o_nilCheck_box rfl) ?_
                refine gde_p rfl rfl rfl rfl rfl rfl (o_fieldAddr_box fi_30_0 rfl) ?_
                refine gde_e rfl ?_
                refine gde_nil ?_
                refine gde2_t rfl rfl rfl rfl (o_append (a := _) 2 Try.underlying28 Try.type3 rfl rfl rfl rfl rfl rfl rfl (fun _ => rfl) (fun _ => rfl) hg13 (app_len hg13 rfl)) ?_
                rintro _ _ ⟨a_r3, cap_r3, rfl, rfl⟩
                refine ⟨(trivial : True), ?_⟩
                refine gde2_u rfl rfl rfl (o_store_box 1 Try.sizeOf28 rfl rfl rfl rfl rfl rfl rfl rfl (Nat.le_of_ble_eq_true rfl)) ?_
                rintro _ _ rfl
                refine ⟨(trivial : True), ?_⟩
                refine gde2_nil ?_
                exact ⟨_, ((_, _), _, (_, _)), some_eq hj2, trivial, ⟨rfl, rfl, rfl, rfl, trivial⟩, [], rfl⟩
        · rintro ⟨z3, l5, ch3, l6⟩ ⟨⟨a_r3, cap_r3⟩, c_r1, ⟨a_r2, cap_r2⟩⟩ hst
          subst hst
          replace hm2 := on_go hm2
          refine k_norm (L' := [(1, _), (5, _), (6, _), (7, _)]) (ms' := [_, box b2 30 [.v (.slice a_r3 l5.length cap_r3), .i64 z3], row a_r3 cap_r3 3 1 D.i64 l5, box b1 110 [.v (.chan (some c_r1)), .v (.slice a_r2 l6.length cap_r2)], chn c_r1 ch3.1 D.i64 ch3.2, que a_r2 cap_r2 3 1 D.i64 l6]) rfl rfl ?_
          refine g_seq ?_
          obtain ⟨x10, hx14, hm2⟩ := bind_some hm2
          refine g_draw_c [1, 7] [2, 3, 4, 5, 6] [5, 6] Try_mixed (by decide +kernel) (by decide +kernel) rfl ?_
          refine gde_p rfl rfl rfl rfl rfl rfl (o_move rfl) ?_
          refine gde_e rfl ?_
          refine gde_p rfl rfl rfl rfl rfl rfl (o_move rfl) ?_
          refine gde_p rfl rfl rfl rfl rfl rfl (o_nilCheck_box rfl) ?_
          refine gde_p rfl rfl rfl rfl rfl rfl (o_fieldAddr_box fi_30_0 rfl) ?_
          refine gde_f rfl rfl rfl rfl rfl (o_load_box 1 Try.isAgg28 rfl rfl rfl rfl) ?_
          refine gde_f rfl rfl rfl rfl rfl (.view (peekE (i := 119) 2 rfl rfl rfl) (o_len Try.runUnderlying28 rfl)) ?_
          refine gde_e rfl ?_
          refine gde_nil ?_
          refine gde2_t rfl rfl rfl rfl (o_call_own [3, 4, 5] Try.call21 rfl rfl (getL_c rfl (getL_c rfl (getL_c rfl getL_n))) (w_qi_Len hx14) (by rintro _ _ ⟨rfl, rfl⟩; rfl)) ?_
          rintro _ _ ⟨_, ⟨rfl, rfl⟩, rfl⟩
          show _ ∧ GDE2 _ _ _ _ _ _ _ _ ([box b3 32 [_, _], box b2 30 [_, _], _, box b1 110 [_, _], _, _])
          refine ⟨⟨⟨trivial, o_load_box 1 Try.isAgg28 rfl rfl rfl rfl⟩, .view (peekE (i := 119) 2 rfl rfl rfl) (o_len Try.runUnderlying28 rfl)⟩, ?_⟩
          refine gde2_t rfl rfl rfl rfl (o_cmp rfl rfl rfl) ?_
          rintro _ _ ⟨rfl, rfl⟩
          refine ⟨⟨⟨trivial, o_load_box 1 Try.isAgg28 rfl rfl rfl rfl⟩, .view (peekE (i := 119) 2 rfl rfl rfl) (o_len Try.runUnderlying28 rfl)⟩, ?_⟩
          refine gde2_nil ?_
          refine g_cond rfl (fun hc8 => ?_) (fun hc8 => ?_)
          · replace hm2 := cond_t hc8 hm2
            refine g_seq ?_
            refine g_region ?_
            refine go_p rfl rfl rfl (o_assign rfl) ?_
            refine go_nil ?_
            refine g_ret ?_
            obtain rfl := some_eq hm2
            replace hm1 := on_ret hm1
            exact retK (ret_one' rfl (ret_tmp rfl) (perm_drop _)) (congrArg (fun (p : Bool) => (.bool p : D)) (some_eq hm1))
          · replace hm2 := cond_f hc8 hm2
            refine g_skip ?_
            refine g_region ?_
            refine go_p rfl rfl rfl (o_move rfl) ?_
            obtain ⟨hg15, hm2⟩ := grd_some hm2
            refine go_p rfl rfl rfl (o_add rfl rfl (i64_id hg15)) ?_
            refine go_p rfl rfl rfl (o_assign rfl) ?_
            refine go_nil ?_
            exact ⟨_, ((_, _), _, (_, _)), hm2, ⟨rfl, trivial⟩, ⟨rfl, rfl, rfl, trivial⟩, [_], rfl⟩
      · replace hj1 := cond_f hc2 hj1
        refine g_exit ?_
        exact ⟨_, ((_, _), _, (_, _)), some_eq hj1, trivial, ⟨rfl, rfl, trivial⟩, [], rfl⟩
    · rintro ⟨z1, l1, ch1, l2⟩ ⟨⟨a_r3, cap_r3⟩, c_r1, ⟨a_r2, cap_r2⟩⟩ hst
      subst hst
      replace hm1 := on_go hm1
      refine k_norm (L' := [(5, _), (6, _)]) (ms' := [box b2 30 [.v (.slice a_r3 l1.length cap_r3), .i64 z1], row a_r3 cap_r3 3 1 D.i64 l1, box b1 110 [.v (.chan (some c_r1)), .v (.slice a_r2 l2.length cap_r2)], chn c_r1 ch1.1 D.i64 ch1.2, que a_r2 cap_r2 3 1 D.i64 l2]) rfl rfl ?_
      refine g_seq ?_
      obtain ⟨⟨x11, s8⟩, hx16, hm1⟩ := bind_some hm1
      obtain ⟨x12, hx17, hm1⟩ := bind_some hm1
      rcases cond_split hm1 with ⟨hg_3, hm1⟩ | ⟨hg_3, hm1⟩
      ·
        skip
        obtain ⟨x13, hx18, hm1⟩ := bind_some hm1
        refine g_draw_c [1, 6, 7, 8, 9, 10] [2, 3, 4, 5] [5] Try_mixed (by decide +kernel) (by decide +kernel) rfl ?_
        refine gde_p rfl rfl rfl rfl rfl rfl (o_move rfl) ?_
        refine gde_e rfl ?_
        refine gde_p rfl rfl rfl rfl rfl rfl (o_move rfl) ?_
        refine gde_p rfl rfl rfl rfl rfl rfl (o_nilCheck_box rfl) ?_
        refine gde_p rfl rfl rfl rfl rfl rfl (o_fieldAddr_box fi_30_0 rfl) ?_
        refine gde_f rfl rfl rfl rfl rfl (o_load_box 0 Try.isAgg28 rfl rfl rfl rfl) ?_
        refine gde_e rfl ?_
        refine gde_e rfl ?_
        refine gde_e rfl ?_
        refine gde_e rfl ?_
        refine gde_e rfl ?_
        refine gde_nil ?_
        refine gde2_t rfl rfl rfl rfl (o_call_own [2, 3, 4] Try.call19 rfl rfl (getL_c rfl (getL_c rfl (getL_c rfl getL_n))) (w_qi_Drain hx16) (by rintro _ _ ⟨_, _, _, rfl, rfl⟩; rfl)) ?_
        rintro _ _ ⟨_, ⟨c_r1, a_r2, cap_r2, rfl, rfl⟩, rfl⟩
        show _ ∧ GDE2 _ _ _ _ _ _ _ _ ([box b2 30 [_, _], _, box b1 110 [_, _], _, _])
        refine ⟨⟨trivial, o_load_box 0 Try.isAgg28 rfl rfl rfl rfl⟩, ?_⟩
        refine gde2_t rfl rfl rfl rfl (.view (peekE (i := 127) 1 rfl rfl rfl) (o_call0 Try.call18 rfl (w_syntagmabase_SameInts hx17))) ?_
        rintro _ _ ⟨rfl, rfl⟩
        refine ⟨⟨trivial, o_load_box 0 Try.isAgg28 rfl rfl rfl rfl⟩, ?_⟩
        refine gde2_t rfl rfl rfl rfl (o_move rfl) ?_
        rintro _ _ ⟨rfl, rfl⟩
        refine ⟨⟨trivial, o_load_box 0 Try.isAgg28 rfl rfl rfl rfl⟩, ?_⟩
        refine gde2_want rfl rfl rfl rfl hg_3 rfl rfl (o_call0 Try.call22 rfl (w_syntagmalaw18_works hx18)) ?_
        rintro _ _ ⟨rfl, rfl⟩
        refine ⟨⟨trivial, o_load_box 0 Try.isAgg28 rfl rfl rfl rfl⟩, ?_⟩
        refine gde2_t rfl rfl rfl rfl (o_pickT rfl hg_3 rfl) ?_
        rintro _ _ ⟨rfl, rfl⟩
        refine ⟨⟨trivial, o_load_box 0 Try.isAgg28 rfl rfl rfl rfl⟩, ?_⟩
        refine gde2_t rfl rfl rfl rfl (o_assign rfl) ?_
        rintro _ _ ⟨rfl, rfl⟩
        refine ⟨⟨trivial, o_load_box 0 Try.isAgg28 rfl rfl rfl rfl⟩, ?_⟩
        refine gde2_nil ?_
        refine g_ret ?_
        exact retK (ret_one' rfl (ret_tmp rfl) (perm_drop _)) (congrArg (fun (p : Bool) => (.bool p : D)) (some_eq hm1))
      ·
        skip
        refine g_draw_c [1, 6, 7, 8, 9, 10] [2, 3, 4, 5] [5] Try_mixed (by decide +kernel) (by decide +kernel) rfl ?_
        refine gde_p rfl rfl rfl rfl rfl rfl (o_move rfl) ?_
        refine gde_e rfl ?_
        refine gde_p rfl rfl rfl rfl rfl rfl (o_move rfl) ?_
        refine gde_p rfl rfl rfl rfl rfl rfl (o_nilCheck_box rfl) ?_
        refine gde_p rfl rfl rfl rfl rfl rfl (o_fieldAddr_box fi_30_0 rfl) ?_
        refine gde_f rfl rfl rfl rfl rfl (o_load_box 0 Try.isAgg28 rfl rfl rfl rfl) ?_
        refine gde_e rfl ?_
        refine gde_e rfl ?_
        refine gde_e rfl ?_
        refine gde_e rfl ?_
        refine gde_e rfl ?_
        refine gde_nil ?_
        refine gde2_t rfl rfl rfl rfl (o_call_own [2, 3, 4] Try.call19 rfl rfl (getL_c rfl (getL_c rfl (getL_c rfl getL_n))) (w_qi_Drain hx16) (by rintro _ _ ⟨_, _, _, rfl, rfl⟩; rfl)) ?_
        rintro _ _ ⟨_, ⟨c_r1, a_r2, cap_r2, rfl, rfl⟩, rfl⟩
        show _ ∧ GDE2 _ _ _ _ _ _ _ _ ([box b2 30 [_, _], _, box b1 110 [_, _], _, _])
        refine ⟨⟨trivial, o_load_box 0 Try.isAgg28 rfl rfl rfl rfl⟩, ?_⟩
        refine gde2_t rfl rfl rfl rfl (.view (peekE (i := 127) 1 rfl rfl rfl) (o_call0 Try.call18 rfl (w_syntagmabase_SameInts hx17))) ?_
        rintro _ _ ⟨rfl, rfl⟩
        refine ⟨⟨trivial, o_load_box 0 Try.isAgg28 rfl rfl rfl rfl⟩, ?_⟩
        refine gde2_t rfl rfl rfl rfl (o_move rfl) ?_
        rintro _ _ ⟨rfl, rfl⟩
        refine ⟨⟨trivial, o_load_box 0 Try.isAgg28 rfl rfl rfl rfl⟩, ?_⟩
        refine gde2_skip rfl rfl rfl rfl hg_3 rfl rfl ?_
        refine gde2_t rfl rfl rfl rfl (o_pickF rfl hg_3 rfl) ?_
        rintro _ _ ⟨rfl, rfl⟩
        refine ⟨⟨trivial, o_load_box 0 Try.isAgg28 rfl rfl rfl rfl⟩, ?_⟩
        refine gde2_t rfl rfl rfl rfl (o_assign rfl) ?_
        rintro _ _ ⟨rfl, rfl⟩
        refine ⟨⟨trivial, o_load_box 0 Try.isAgg28 rfl rfl rfl rfl⟩, ?_⟩
        refine gde2_nil ?_
        refine g_ret ?_
        exact retK (ret_one' rfl (ret_tmp rfl) (perm_drop _)) (congrArg (fun (p : Bool) => (.bool p : D)) (some_eq hm1))
end Go.Proofs.Ytafphfokopkhdaa
set_option linter.unusedVariables false
set_option linter.unusedSimpArgs false
set_option maxRecDepth 100000
namespace Go.Proofs.Ytafphfokopkhdaa
open Go.V
open Classical
theorem FUv : FU = 18446744073709551616 := rfl
theorem bt (b c : Bool) : (bif b then some true else some c : Option Bool) = some (b || c) := by cases b <;> rfl
theorem sameInts_eq (a b : List Int) (h : a.length ≤ 3000) : m_syntagmabase_SameInts a b = some (decide (a = b)) := by
  unfold m_syntagmabase_SameInts
  simp only [Bool.cond_eq_ite, Bool.not_eq_true', decide_eq_false_iff_not]
  by_cases hl : a.length = b.length
  · rw [if_neg (by omega)]
    refine bnd (loop_all (φ := m_syntagmabase_SameInts_l1 a b) (l := a) false (fun i x => b[i]? = some x) ?_ ?_ (by rw [FUv]; omega)) ?_
    · intro n i x hx hi
      simp only [m_syntagmabase_SameInts_l1]
      have hy : b[i]? = some b[i] := List.getElem?_eq_getElem (by omega)
      rw [decide_eq_true (by omega), cond_true, getI hx, Option.bind_some, getI hy, Option.bind_some, hy]
      simp only [Bool.cond_eq_ite, Bool.not_eq_true', decide_eq_false_iff_not]
      constructor
      · intro h; rw [if_neg (by simpa using (Option.some.inj h).symm), grd_pos (by omega)]
      · intro h; rw [if_pos (by intro h2; exact h (by rw [h2]))]
    · intro n
      simp only [m_syntagmabase_SameInts_l1]
      rw [decide_eq_false (by omega), cond_false]
    · by_cases h3 : a = b
      · subst h3
        rw [if_pos (fun i x h => h), decide_eq_true rfl]; rfl
      · rw [if_neg, decide_eq_false h3]; rfl
        intro h4
        refine h3 (List.ext_getElem? fun i => ?_)
        by_cases hi : i < a.length
        · rw [h4 i a[i] (List.getElem?_eq_getElem hi), List.getElem?_eq_getElem hi]
        · rw [List.getElem?_eq_none (by omega), List.getElem?_eq_none (by omega)]
  · rw [if_pos (by omega), decide_eq_false (fun h => hl (by rw [h]))]
theorem sli_tl {α : Type} (x : α) (l : List α) : sli (x :: l) 1 (((x :: l).length : Nat) : Int) = some l := by
  have h := sli_nat (x :: l) 1 (x :: l).length (by simp) (Nat.le_refl _)
  rw [List.take_length] at h
  exact h
def roomN (r : Int) : Nat := (if 64 < (if 0 > r then 0 else r) then 64 else (if 0 > r then 0 else r)).toNat
theorem room_b (r : Int) : 0 ≤ (if 64 < (if 0 > r then 0 else r) then 64 else (if 0 > r then 0 else r)) ∧ (if 64 < (if 0 > r then 0 else r) then 64 else (if 0 > r then 0 else r)) ≤ 64 := by
  split <;> split <;> omega
theorem room_i (r : Int) : (if 64 < (if 0 > r then 0 else r) then 64 else (if 0 > r then 0 else r)) = ((roomN r : Nat) : Int) := by
  unfold roomN
  rw [Int.toNat_of_nonneg (room_b r).1]
def qiS (c : Nat) (l : List Int) : QueueQueueInt := ⟨(c, l.take c), l.drop c⟩
theorem qi_fill_l (c : Nat) : ∀ (n : Nat) (buf more : List Int), more.length < n → buf.length ≤ c → m_qi_fill_l1 n ((c, buf), more) = some (qiS c (buf ++ more))
  | 0, buf, more, h, _ => by omega
  | n + 1, buf, [], _, hb => by
    simp only [m_qi_fill_l1]
    rw [decide_eq_false (by simp), cond_false]
    unfold qiS
    rw [List.append_nil, List.take_of_length_le hb, List.drop_eq_nil_of_le hb]
  | n + 1, buf, x :: more, h, hb => by
    simp only [m_qi_fill_l1]
    rw [decide_eq_true (by simp only [List.length_cons]; omega), cond_true, idx_c0, Option.bind_some]
    by_cases hc : c ≤ buf.length
    · rw [decide_eq_true hc, cond_true]
      unfold qiS
      have hl : buf.length = c := by omega
      rw [List.take_left' hl, List.drop_left' hl]
    · rw [decide_eq_false hc, cond_false, sli_tl, Option.bind_some, qi_fill_l c n (buf ++ [x]) more (by simp only [List.length_cons] at h; omega) (by simp only [List.length_append, List.length_cons, List.length_nil]; omega), List.append_assoc]
      rfl
theorem qi_fill_eq (c : Nat) (buf more : List Int) (h : more.length ≤ 1000000) (hb : buf.length ≤ c) : m_qi_fill ⟨(c, buf), more⟩ = some (qiS c (buf ++ more)) := qi_fill_l c FU buf more (by rw [FUv]; omega) hb
theorem qi_push (c : Nat) (l k : List Int) (h : l.length + k.length ≤ 1000) : m_qi_Push (qiS c l) k = some (qiS c (l ++ k)) := by
  unfold m_qi_Push
  rw [grd_pos (by show ((l.drop c).length + k.length) * 8 ≤ _; rw [List.length_drop]; omega), show m_qi_fill ⟨(qiS c l).first, (qiS c l).more ++ k⟩ = _ from qi_fill_eq c (l.take c) (l.drop c ++ k) (by rw [List.length_append, List.length_drop]; omega) (by rw [List.length_take]; omega), Option.bind_some, ← List.append_assoc, List.take_append_drop]
theorem qi_pop_nil (c : Nat) : m_qi_Pop (qiS c []) = some (0, false, qiS c []) := by
  unfold m_qi_Pop
  rw [show (qiS c []).first.2 = [] from List.take_nil, show (qiS c []).more = [] from List.drop_nil]
  rw [show (([] : List Int).isEmpty) = true from rfl, cond_true, decide_eq_true (by rfl), cond_true]
  unfold qiS
  rw [List.take_nil, List.drop_nil]
theorem qi_pop_cons (c : Nat) (x : Int) (l : List Int) (h : l.length ≤ 1000) : m_qi_Pop (qiS c (x :: l)) = some (x, true, qiS c l) := by
  unfold m_qi_Pop
  cases c with
  | zero =>
    rw [show (qiS 0 (x :: l)).first.2 = [] from rfl, show (qiS 0 (x :: l)).more = x :: l from rfl, show (([] : List Int).isEmpty) = true from rfl, cond_true, decide_eq_false (by simp only [List.length_cons]; omega), cond_false, idx_c0, Option.bind_some, sli_tl, Option.bind_some]
    rfl
  | succ k =>
    rw [show (qiS (k + 1) (x :: l)).first.2 = x :: l.take k from rfl, show (qiS (k + 1) (x :: l)).more = l.drop k from rfl, show (x :: l.take k).isEmpty = false from rfl, cond_false, idx_c0, Option.bind_some, sli_tl, Option.bind_some, show (qiS (k + 1) (x :: l)).first.1 = k + 1 from rfl, qi_fill_eq _ _ _ (by rw [List.length_drop]; omega) (by rw [List.length_take]; omega), Option.bind_some, List.take_append_drop]
theorem qi_new (r : Int) : m_qi_New r = some (qiS (roomN r) []) := by
  unfold m_qi_New
  obtain ⟨h1, h2⟩ := room_b r
  rw [grd_pos h1, grd_pos (by omega), grd_pos (by omega)]
  unfold qiS roomN
  rw [List.take_nil, List.drop_nil]
theorem qi_len (c : Nat) (l : List Int) (h : l.length ≤ 1000) : m_qi_Len (qiS c l) = some (l.length : Int) := by
  unfold m_qi_Len
  have h2 : (qiS c l).first.2.length + (qiS c l).more.length = l.length := by
    show (l.take c).length + (l.drop c).length = _
    rw [List.length_take, List.length_drop]; omega
  rw [grd_pos (by omega)]
  congr 1; omega
theorem qi_drain_l (c : Nat) : ∀ (n : Nat) (l acc : List Int), l.length < n → acc.length + l.length ≤ 1000 → m_qi_Drain_l1 n (acc, (qiS c l).first, (qiS c l).more) = some (acc ++ l, qiS c [])
  | 0, l, acc, h, _ => by omega
  | n + 1, [], acc, _, _ => by
    simp only [m_qi_Drain_l1]
    rw [show m_qi_Pop ⟨(qiS c []).first, (qiS c []).more⟩ = _ from qi_pop_nil c, Option.bind_some]
    dsimp only
    rw [Bool.not_false, cond_true, List.append_nil]
  | n + 1, x :: l, acc, h, h2 => by
    simp only [List.length_cons] at h h2
    simp only [m_qi_Drain_l1]
    rw [show m_qi_Pop ⟨(qiS c (x :: l)).first, (qiS c (x :: l)).more⟩ = _ from qi_pop_cons c x l (by omega), Option.bind_some]
    dsimp only
    rw [Bool.not_true, cond_false, grd_pos (by simp only [List.length_cons, List.length_nil]; omega), qi_drain_l c n l (acc ++ [x]) (by omega) (by simp only [List.length_append, List.length_cons, List.length_nil]; omega), List.append_assoc]
    rfl
theorem qi_drain (c : Nat) (l : List Int) (h : l.length ≤ 1000) : m_qi_Drain ⟨(qiS c l).first, (qiS c l).more⟩ = some (l, qiS c []) := qi_drain_l c FU l [] (by rw [FUv]; omega) (by simp only [List.length_nil]; omega)
theorem works18 : m_syntagmalaw18_works = some true := by kernel_rfl
theorem among5 (x : Int) : ∃ k, m_syntagmabase_Among x 5 = some k := by
  unfold m_syntagmabase_Among
  rw [decide_eq_false (by omega), cond_false, grd_pos (by decide)]
  exact ⟨_, rfl⟩
theorem ref18_pop_nil (z : Int) : m_ref18_Pop ⟨[], z⟩ = some (0, false, ⟨[], z⟩) := rfl
theorem ref18_pop_cons (x : Int) (l : List Int) (z : Int) (h : l.length ≤ 1000) : m_ref18_Pop ⟨x :: l, z⟩ = some (x, true, ⟨l, z⟩) := by
  unfold m_ref18_Pop
  dsimp only
  rw [decide_eq_false (by simp only [List.length_cons]; omega), cond_false, idx_c0, Option.bind_some, sli_tl, Option.bind_some, grd_pos (by omega)]
  rfl
def PlayI (c : Nat) (i : Nat) (s : Int × List Int × (Nat × List Int) × List Int) : Prop := s.2.1.length ≤ 3 * i ∧ s.2.2.1 = (qiS c s.2.1).first ∧ s.2.2.2 = (qiS c s.2.1).more
theorem play_loop (c : Nat) (acts : List Syntagmalaw18Act) (z : Int) : ∃ o, m_syntagmalaw18_QueuePlays_l1 acts FU (0, z, [], (qiS c []).first, (qiS c []).more) = some o ∧ ∃ z' l, o = Out.go (z', l, (qiS c l).first, (qiS c l).more) ∧ l.length ≤ 600 := by
  refine loop_rng (φ := fun n i s => m_syntagmalaw18_QueuePlays_l1 acts n (i, s)) (l := acts.take 200) (PlayI c) (fun o => ∃ z' l, o = Out.go (z', l, (qiS c l).first, (qiS c l).more) ∧ l.length ≤ 600) ?_ ?_ (by rw [FUv, List.length_take]; omega) (z, [], (qiS c []).first, (qiS c []).more) ⟨by simp, rfl, rfl⟩
  · rintro n i a ⟨z, l, ch, l4⟩ hx hi ⟨h1, h2, h3⟩
    simp only at h1 h2 h3
    subst h2 h3
    have hi2 : i < 200 ∧ i < acts.length := by rw [List.length_take] at hi; omega
    have hx2 : acts[i]? = some a := by rw [List.getElem?_take, if_pos hi2.1] at hx; exact hx
    left
    have tail : ∀ (z' : Int) (l' : List Int), l'.length ≤ 3 * (i + 1) → ∃ s', ((m_qi_Len (⟨(qiS c l').first, (qiS c l').more⟩ : QueueQueueInt)).bind fun x10 =>
        bif (!decide (x10 = (l'.length : Int))) then
          some (Out.ret false)
        else
          grd (InR ((i : Int) + 1)) <|
          m_syntagmalaw18_QueuePlays_l1 acts n (((i : Int) + 1), z', l', (qiS c l').first, (qiS c l').more)) = m_syntagmalaw18_QueuePlays_l1 acts n ((i : Int) + 1, s') ∧ PlayI c (i + 1) s' := by
      intro z' l' hl
      refine ⟨(z', l', (qiS c l').first, (qiS c l').more), ?_, hl, rfl, rfl⟩
      rw [show m_qi_Len (⟨(qiS c l').first, (qiS c l').more⟩ : QueueQueueInt) = _ from qi_len c l' (by omega), Option.bind_some, decide_eq_true rfl, Bool.not_true, cond_false, grd_pos (by omega)]
    obtain ⟨k, hk⟩ := among5 a.do_
    simp only [m_syntagmalaw18_QueuePlays_l1]
    rw [decide_eq_true (show (i : Int) < (acts.length : Int) by omega), decide_eq_true (show (i : Int) < 200 by omega), Bool.and_self, cond_true, getI hx2, Option.bind_some, hk, Option.bind_some]
    by_cases h2 : k = 2
    · rw [decide_eq_true h2, cond_true]
      cases l with
      | nil =>
        rw [show m_qi_Pop ⟨(qiS c []).first, (qiS c []).more⟩ = _ from qi_pop_nil c, Option.bind_some]
        dsimp only
        rw [ref18_pop_nil, Option.bind_some]
        dsimp only
        rw [show ((!decide ((0 : Int) = 0)) || (!(false == false))) = false by decide, cond_false, Option.bind_some, go_on]
        exact tail z [] (by simp)
      | cons x l =>
        simp only [List.length_cons] at h1
        rw [show m_qi_Pop ⟨(qiS c (x :: l)).first, (qiS c (x :: l)).more⟩ = _ from qi_pop_cons c x l (by omega), Option.bind_some]
        dsimp only
        rw [ref18_pop_cons x l z (by omega), Option.bind_some]
        dsimp only
        rw [decide_eq_true rfl, show ((!true) || (!(true == true))) = false by decide, cond_false, Option.bind_some, go_on]
        exact tail z l (by omega)
    · rw [decide_eq_false h2, cond_false]
      by_cases h3 : k = 3
      · rw [decide_eq_true h3, cond_true, qi_drain c l (by omega), Option.bind_some]
        dsimp only
        rw [sameInts_eq l l (by omega), Option.bind_some, decide_eq_true rfl, Bool.not_true, cond_false, Option.bind_some, go_on]
        exact tail z [] (by simp)
      · rw [decide_eq_false h3, cond_false]
        by_cases h4 : k = 4
        · rw [decide_eq_true h4, cond_true, show m_qi_Push (⟨(qiS c l).first, (qiS c l).more⟩ : QueueQueueInt) [a.n_, a.n_, (i : Int)] = _ from qi_push c l _ (by simp only [List.length_cons, List.length_nil]; omega), Option.bind_some, grd_pos (by simp only [List.length_cons, List.length_nil]; omega), Option.bind_some, go_on]
          exact tail z (l ++ [a.n_, a.n_, (i : Int)]) (by simp only [List.length_append, List.length_cons, List.length_nil]; omega)
        · rw [decide_eq_false h4, cond_false, show m_qi_Push (⟨(qiS c l).first, (qiS c l).more⟩ : QueueQueueInt) [a.n_] = _ from qi_push c l _ (by simp only [List.length_cons, List.length_nil]; omega), Option.bind_some, grd_pos (by simp only [List.length_cons, List.length_nil]; omega), Option.bind_some, go_on]
          exact tail z (l ++ [a.n_]) (by simp only [List.length_append, List.length_cons, List.length_nil]; omega)
  · rintro n ⟨z, l, ch, l4⟩ ⟨h1, h2, h3⟩
    simp only at h1 h2 h3
    subst h2 h3
    refine ⟨_, ?_, z, l, rfl, by rw [List.length_take] at h1; omega⟩
    simp only [m_syntagmalaw18_QueuePlays_l1]
    rw [show (decide (((acts.take 200).length : Int) < (acts.length : Int)) && decide (((acts.take 200).length : Int) < 200)) = false by
      rw [Bool.and_eq_false_iff, decide_eq_false_iff_not, decide_eq_false_iff_not, List.length_take]; omega, cond_false]
theorem ref18_new (room : Int) : m_ref18_New room = some ⟨[], (roomN room : Int)⟩ := by
  unfold m_ref18_New
  rw [room_i]
theorem law_QueuePlays (room : Int) (acts : List Syntagmalaw18Act) : m_syntagmalaw18_QueuePlays room acts = some true := by
  unfold m_syntagmalaw18_QueuePlays
  rw [qi_new, Option.bind_some, ref18_new, Option.bind_some, show m_qi_Room (⟨(qiS (roomN room) []).first, (qiS (roomN room) []).more⟩ : QueueQueueInt) = some (roomN room : Int) from rfl, Option.bind_some]
  dsimp only
  rw [decide_eq_true rfl, Bool.not_true, cond_false]
  obtain ⟨o, e1, z, l, rfl, hl⟩ := play_loop (roomN room) acts (roomN room : Int)
  rw [e1, Option.bind_some, go_on]
  dsimp only
  rw [qi_drain (roomN room) l (by omega), Option.bind_some]
  dsimp only
  rw [sameInts_eq l l (by omega), Option.bind_some, decide_eq_true rfl, cond_true, works18]
  rfl
end Go.Proofs.Ytafphfokopkhdaa
