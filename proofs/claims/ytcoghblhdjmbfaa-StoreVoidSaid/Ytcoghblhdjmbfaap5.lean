/- Part 5 of the proof: a program logic, what the functions compute, and what these answer; no condition. -/
import Derived.Test.Ytcoghblhdjmbfaap4
set_option linter.unusedVariables false
set_option linter.unusedSimpArgs false
set_option maxRecDepth 100000
set_option maxHeartbeats 2000000
namespace Go.Proofs.Ytcoghblhdjmbfaa
open Go.V
theorem fi_51_1 : FieldIs Try.prog 51 1 1 1 false := ⟨⟨_, _, Try.runUnderlying51, rfl, rfl, Try.sizeOf48, by decide, Try.isAgg48⟩⟩
theorem pl_54 : ∀ fs, (∀ w, (underlying 54).run Try.prog w = .ok (.struct fs) w) -> placesOf Try.prog fs [(0, 1), (1, 1), (2, 1), (3, 1)] := by
 intro fs h w
 have := (h w).symm.trans (Try.runUnderlying54 w)
 simp only [Result.ok.injEq, TypeDesc.struct.injEq, and_true] at this;subst this
 simp [Try.sizeOf22, Try.sizeOf3, Sem.run]
theorem pl_56 : ∀ fs, (∀ w, (underlying 56).run Try.prog w = .ok (.struct fs) w) -> placesOf Try.prog fs [(0, 1), (1, 1), (2, 1)] := by
 intro fs h w
 have := (h w).symm.trans (Try.runUnderlying56 w)
 simp only [Result.ok.injEq, TypeDesc.struct.injEq, and_true] at this;subst this
 simp [Try.sizeOf3, Try.sizeOf49, Sem.run]
def m_store_Store_Var (s1 : StoreStore) (level1 : Int)  : Option (Int × Int × StoreStore) :=
 bif ((decide (level1 < 0)) || (decide (100 < level1))) then
  some (0, 2, (⟨s1.nodes, s1.vars, s1.levels, s1.seen, (⟨s1.wait.first, s1.wait.more⟩ : QueuePairs), s1.dead⟩ : StoreStore))
 else
  bif (decide (1000 <= (s1.vars.length : Int))) then
   some (0, 8, (⟨s1.nodes, s1.vars, s1.levels, s1.seen, (⟨s1.wait.first, s1.wait.more⟩ : QueuePairs), s1.dead⟩ : StoreStore))
  else
   (m_store_Store_add (⟨s1.nodes, s1.vars, s1.levels, s1.seen, (⟨s1.wait.first, s1.wait.more⟩ : QueuePairs), s1.dead⟩ : StoreStore) (⟨11, (s1.vars.length : Int), 0, ([] : List AFd)⟩ : ANd) level1).bind fun (x1, x2, s2) =>
   bif (decide (x2 = 0)) then
    grd ((s2.vars.length + ([(⟨level1, ([] : List Int), ([] : List Int)⟩ : StoreVariable)] : List _).length) * 56 <= 140737488355328) <|
    some (x1, x2, (⟨s2.nodes, (s2.vars ++ [(⟨level1, ([] : List Int), ([] : List Int)⟩ : StoreVariable)]), s2.levels, s2.seen, (⟨s2.wait.first, s2.wait.more⟩ : QueuePairs), s2.dead⟩ : StoreStore))
   else
    some (x1, x2, (⟨s2.nodes, s2.vars, s2.levels, s2.seen, (⟨s2.wait.first, s2.wait.more⟩ : QueuePairs), s2.dead⟩ : StoreStore))
theorem w_store_Store_Var {s1 : StoreStore} {level1 : Int}  {r_1 : Int} {r_2 : Int} {s_1 : StoreStore} {b_q0 : Nat} {a_q0c0 : Option Addr} {cap_q0c0 : Nat} {a_q0c1 : Option Addr} {m_q0c1 : Nat} {cap_q0c1 : Nat} {a_q0c2 : Option Addr} {cap_q0c2 : Nat} {b_q0c3 : Nat} {b_q0c4 : Nat} {c_q0c4c0 : Nat} {a_q0c4c1 : Option Addr} {cap_q0c4c1 : Nat} (hm : m_store_Store_Var s1 level1 = some (r_1, r_2, s_1)) : Go.V.Fn Try.prog 5 [.v (.pointer (some ⟨b_q0, 0, none⟩)), .i64 level1] [box b_q0 51 [.v (.slice a_q0c0 s1.nodes.length cap_q0c0), .v (.slice a_q0c1 m_q0c1 cap_q0c1), .v (.slice a_q0c2 s1.levels.length cap_q0c2), .v (.map (some b_q0c3)), .v (.pointer (some ⟨b_q0c4, 0, none⟩)), .bool s1.dead], row a_q0c0 cap_q0c0 54 4 ANd.d s1.nodes, arr a_q0c1 m_q0c1 cap_q0c1 56 3 StoreVariable.d s1.vars, row a_q0c2 cap_q0c2 3 1 D.i64 s1.levels, mp b_q0c3 kStorePair D.bool s1.seen, box b_q0c4 70 [.v (.chan (some c_q0c4c0)), .v (.slice a_q0c4c1 s1.wait.more.length cap_q0c4c1)], chn c_q0c4c0 s1.wait.first.1 StorePair.d s1.wait.first.2, que a_q0c4c1 cap_q0c4c1 47 2 StorePair.d s1.wait.more] (fun d ms' => ∃ a_s_1c0 cap_s_1c0 a_s_1c1 m_s_1c1 cap_s_1c1 a_s_1c2 cap_s_1c2 c_s_1c4c0 a_s_1c4c1 cap_s_1c4c1, d = .tup [.i64 r_1, .i64 r_2] /\ ms' = [box b_q0 51 [.v (.slice a_s_1c0 s_1.nodes.length cap_s_1c0), .v (.slice a_s_1c1 m_s_1c1 cap_s_1c1), .v (.slice a_s_1c2 s_1.levels.length cap_s_1c2), .v (.map (some b_q0c3)), .v (.pointer (some ⟨b_q0c4, 0, none⟩)), .bool s_1.dead], row a_s_1c0 cap_s_1c0 54 4 ANd.d s_1.nodes, arr a_s_1c1 m_s_1c1 cap_s_1c1 56 3 StoreVariable.d s_1.vars, row a_s_1c2 cap_s_1c2 3 1 D.i64 s_1.levels, mp b_q0c3 kStorePair D.bool s_1.seen, box b_q0c4 70 [.v (.chan (some c_s_1c4c0)), .v (.slice a_s_1c4c1 s_1.wait.more.length cap_s_1c4c1)], chn c_s_1c4c0 s_1.wait.first.1 StorePair.d s_1.wait.first.2, que a_s_1c4c1 cap_s_1c4c1 47 2 StorePair.d s_1.wait.more]) := by
 unfold m_store_Store_Var at hm;refine fn_intro Try.func5 rfl Try.ntmps5 rfl fun H0 fr w0 => ?_;refine g_seq (gRg ?_);refine go_p rfl rfl rfl (oAs rfl) ?_;refine go_p rfl rfl rfl (oAs rfl) ?_;refine gNl (g_seq (g_block (g_seq (gRg ?_))));refine go_p rfl rfl rfl (oMv rfl) ?_;refine go_p rfl rfl rfl (o_eqnil Try.runUnderlying23 rfl nilP_ptr rfl) ?_;refine go_p rfl rfl rfl (oAs rfl) ?_;refine gNl ?_;refine g_cond_false rfl rfl ?_;refine g_seq (gRg ?_);refine go_p rfl rfl rfl (oMv rfl) ?_;refine go_p rfl rfl rfl (o_cmp rfl rfl rfl) ?_;refine go_p rfl rfl rfl (oMv rfl) ?_
 apply go_or [(0, _), (1, _)] 3 17 (t := 14) ⟨rfl, rfl, trivial⟩ rfl
 ·intro hg_1 hk1
  refine gWp rfl rfl rfl hg_1 rfl rfl (oMv rfl) ?_;refine gWp rfl rfl rfl hg_1 rfl rfl (o_cmp rfl rfl rfl) ?_;refine go_p rfl rfl rfl (o_pickF rfl hg_1 rfl) ?_;exact gMt hk1 (rfl) ⟨rfl, rfl, trivial⟩
 ·intro hg_1 hk1
  refine gKp rfl rfl rfl hg_1 rfl rfl ?_;refine gKp rfl rfl rfl hg_1 rfl rfl ?_;refine go_p rfl rfl rfl (o_pickT rfl hg_1 rfl) ?_;exact gMt hk1 (rfl) ⟨rfl, rfl, trivial⟩
 refine go_p rfl rfl rfl (oAs rfl) ?_;refine gNl ?_;refine gCd rfl (fun hc1 => ?_) (fun hc1 => ?_)
 ·replace hm := cond_t hc1 hm
  refine g_seq (gRg ?_);refine go_p rfl rfl rfl (oAs rfl) ?_;refine go_p rfl rfl rfl (oAs rfl) ?_;refine gNl (g_ret ?_)
  have hq1 := some_eq hm
  obtain ⟨rfl, hq2⟩ := Prod.mk.inj hq1;obtain ⟨rfl, rfl⟩ := Prod.mk.inj hq2;exact retK (ret_many (ds := [_, _]) rfl (by decide) ⟨ret_tmp rfl, ⟨ret_tmp rfl, rfl⟩⟩ (permA 0 rfl (permA 0 rfl (permA 0 rfl (permA 0 rfl (permA 0 rfl (permA 0 rfl (permA 0 rfl (permA 0 rfl permN))))))))) ⟨_, _, _, _, _, _, _, _, _, _, rfl, rfl⟩
 ·replace hm := cond_f hc1 hm
  refine g_seq (gRg ?_);refine go_p rfl rfl rfl (oMv rfl) ?_;refine go_p rfl rfl rfl (o_nilCheck_box rfl) ?_;refine go_p rfl rfl rfl (oFb fi_51_1 rfl) ?_;refine go_p rfl rfl rfl (oLb 0 Try.isAgg48 rfl rfl rfl rfl) ?_;refine go_p rfl rfl rfl (o_len_arr 2 Try.runUnderlying48 rfl rfl) ?_;refine go_p rfl rfl rfl (o_cmp rfl rfl rfl) ?_;refine go_p rfl rfl rfl (oAs rfl) ?_;refine gNl ?_;refine gCd rfl (fun hc2 => ?_) (fun hc2 => ?_)
  ·replace hm := cond_t hc2 hm
   refine g_seq (gRg ?_);refine go_p rfl rfl rfl (oAs rfl) ?_;refine go_p rfl rfl rfl (oAs rfl) ?_;refine gNl (g_ret ?_)
   have hq1 := some_eq hm
   obtain ⟨rfl, hq2⟩ := Prod.mk.inj hq1;obtain ⟨rfl, rfl⟩ := Prod.mk.inj hq2;exact retK (ret_many (ds := [_, _]) rfl (by decide) ⟨ret_tmp rfl, ⟨ret_tmp rfl, rfl⟩⟩ (permA 0 rfl (permA 0 rfl (permA 0 rfl (permA 0 rfl (permA 0 rfl (permA 0 rfl (permA 0 rfl (permA 0 rfl permN))))))))) ⟨_, _, _, _, _, _, _, _, _, _, rfl, rfl⟩
  ·replace hm := cond_f hc2 hm
   refine gSp (g_seq (gRg ?_));refine go_p rfl rfl rfl (oMv rfl) ?_;refine go_p rfl rfl rfl (oMv rfl) ?_;refine go_p rfl rfl rfl (o_nilCheck_box rfl) ?_;refine go_p rfl rfl rfl (oFb fi_51_1 rfl) ?_;refine go_p rfl rfl rfl (oLb 0 Try.isAgg48 rfl rfl rfl rfl) ?_;refine go_p rfl rfl rfl (o_len_arr 2 Try.runUnderlying48 rfl rfl) ?_;refine go_p rfl rfl rfl (o_build (zs := [.v (.int .i64 0), .v (.int .i64 0), .v (.int .i64 0), .list 2 AFd.d []]) Try.runUnderlying54 Try.zeroValue54 (pl_54 _ Try.runUnderlying54) rfl rfl rfl rfl) ?_;refine go_p rfl rfl rfl (oMv rfl) ?_;obtain ⟨⟨x1, x2, s2⟩, hx1, hm⟩ := bS hm;refine go_op rfl rfl rfl (o_call_own [0, 1, 2, 3, 4, 5, 6, 7] Try.call15 rfl rfl (getL_c rfl (getL_c rfl (getL_c rfl (getL_c rfl (getL_c rfl (getL_c rfl (getL_c rfl (getL_c rfl getL_n)))))))) (w_store_Store_add hx1) (by rintro _ _ ⟨_, _, _, _, _, _, _, _, _, _, rfl, rfl⟩; rfl)) ?_;rintro _ _ ⟨_, ⟨a_q0c0, cap_q0c0, a_q0c1, m_q0c1, cap_q0c1, a_q0c2, cap_q0c2, c_q0c4c0, a_q0c4c1, cap_q0c4c1, rfl, rfl⟩, rfl⟩;refine go_ms (ms' := [box b_q0 51 [_, _, _, _, _, _], _, _, _, _, box b_q0c4 70 [_, _], _, _]) rfl ?_;refine go_p rfl rfl rfl (oMv rfl) ?_;refine go_p rfl rfl rfl (o_extract rfl rfl) ?_;refine go_p rfl rfl rfl (o_extract rfl rfl) ?_;refine go_p rfl rfl rfl (oAs rfl) ?_;refine go_p rfl rfl rfl (oAs rfl) ?_;refine gNl (g_seq (g_seq (gRg ?_)));refine go_p rfl rfl rfl (oMv rfl) ?_;refine go_p rfl rfl rfl (o_cmp rfl rfl rfl) ?_;refine gNl ?_;refine gCd rfl (fun hc3 => ?_) (fun hc3 => ?_)
   ·replace hm := cond_t hc3 hm
    refine gRg ?_;refine go_p rfl rfl rfl (oMv rfl) ?_;refine go_p rfl rfl rfl (oMv rfl) ?_;refine go_p rfl rfl rfl (o_nilCheck_box rfl) ?_;refine go_p rfl rfl rfl (oFb fi_51_1 rfl) ?_;refine go_p rfl rfl rfl (oLb 0 Try.isAgg48 rfl rfl rfl rfl) ?_;refine go_p rfl rfl rfl (oMv rfl) ?_;refine go_p rfl rfl rfl (o_build (zs := [.v (.int .i64 0), .v (.slice none 0 0), .v (.slice none 0 0)]) Try.runUnderlying56 Try.zeroValue56 (pl_56 _ Try.runUnderlying56) rfl rfl rfl rfl) ?_;refine go_p rfl rfl rfl (o_buildSlice (xs := [_]) (f := StoreVariable.d) (l := [(⟨level1, ([] : List Int), ([] : List Int)⟩ : StoreVariable)]) Try.runUnderlying48 Try.sizeOf56 Try.zeroValue56 rfl rfl rfl (fun x => ⟨(StoreVariable.ok x).1, (StoreVariable.ok x).2.1, (StoreVariable.ok x).2.2.1⟩) rfl) ?_;obtain ⟨hg2, hm⟩ := grd_some hm;refine go_op rfl rfl rfl (o_append_own (a := _) 2 Try.underlying48 Try.type56 rfl rfl rfl rfl rfl rfl (fun x => (StoreVariable.ok x).2.2.1) (fun x => (StoreVariable.ok x).2.2.2) hg2 (app_len hg2 rfl)) ?_;rintro _ _ ⟨a_q0c1, m_q0c1, cap_q0c1, rfl, rfl⟩;refine go_ms (ms' := [box b_q0 51 [_, _, _, _, _, _], _, _, _, _, box b_q0c4 70 [_, _], _, _]) rfl ?_;refine go_p rfl rfl rfl (o_nilCheck_box rfl) ?_;refine go_p rfl rfl rfl (oFb fi_51_1 rfl) ?_;refine go_u rfl rfl (oSb 0 Try.sizeOf48 rfl rfl rfl rfl rfl rfl rfl rfl (nB rfl)) ?_;rintro _ _ rfl;refine go_ms (ms' := [box b_q0 51 [_, _, _, _, _, _], _, _, _, _, box b_q0c4 70 [_, _], _, _]) rfl ?_;refine gNl (g_seq (gRg ?_));refine go_p rfl rfl rfl (oMv rfl) ?_;refine go_p rfl rfl rfl (oMv rfl) ?_;refine go_p rfl rfl rfl (oAs rfl) ?_;refine go_p rfl rfl rfl (oAs rfl) ?_;refine gNl (g_ret ?_)
    have hq1 := some_eq hm
    obtain ⟨rfl, hq2⟩ := Prod.mk.inj hq1;obtain ⟨rfl, rfl⟩ := Prod.mk.inj hq2;exact retK (ret_many (ds := [_, _]) rfl (by decide) ⟨ret_tmp rfl, ⟨ret_tmp rfl, rfl⟩⟩ (permA 0 rfl (permA 0 rfl (permA 0 rfl (permA 0 rfl (permA 0 rfl (permA 0 rfl (permA 0 rfl (permA 0 rfl permN))))))))) ⟨_, _, _, _, _, _, _, _, _, _, rfl, rfl⟩
   ·replace hm := cond_f hc3 hm
    refine gSp (g_seq (gRg ?_));refine go_p rfl rfl rfl (oMv rfl) ?_;refine go_p rfl rfl rfl (oMv rfl) ?_;refine go_p rfl rfl rfl (oAs rfl) ?_;refine go_p rfl rfl rfl (oAs rfl) ?_;refine gNl (g_ret ?_)
    have hq1 := some_eq hm
    obtain ⟨rfl, hq2⟩ := Prod.mk.inj hq1;obtain ⟨rfl, rfl⟩ := Prod.mk.inj hq2;exact retK (ret_many (ds := [_, _]) rfl (by decide) ⟨ret_tmp rfl, ⟨ret_tmp rfl, rfl⟩⟩ (permA 0 rfl (permA 0 rfl (permA 0 rfl (permA 0 rfl (permA 0 rfl (permA 0 rfl (permA 0 rfl (permA 0 rfl permN))))))))) ⟨_, _, _, _, _, _, _, _, _, _, rfl, rfl⟩
def m_store_Store_VarN (level1 : Int)  : Option (Int × Int) :=
 some (0, 3)
theorem w_store_Store_VarN {level1 : Int}  {r_1 : Int} {r_2 : Int} (hm : m_store_Store_VarN level1 = some (r_1, r_2)) : Fn0 Try.prog 5 [.v (.pointer none), .i64 level1] (.tup [.i64 r_1, .i64 r_2]) := by
 unfold m_store_Store_VarN at hm;refine fn_intro Try.func5 rfl Try.ntmps5 rfl fun H0 fr w0 => ?_;refine g_seq (gRg ?_);refine go_p rfl rfl rfl (oAs rfl) ?_;refine go_p rfl rfl rfl (oAs rfl) ?_;refine gNl (g_seq (g_block (g_seq (gRg ?_))));refine go_p rfl rfl rfl (oMv rfl) ?_;refine go_p rfl rfl rfl (o_eqnil Try.runUnderlying23 rfl nilP_nil rfl) ?_;refine go_p rfl rfl rfl (oAs rfl) ?_;refine gNl ?_;refine g_cond_true rfl rfl ?_;refine g_seq (gRg ?_);refine go_p rfl rfl rfl (oAs rfl) ?_;refine go_p rfl rfl rfl (oAs rfl) ?_;refine gNl (g_ret ?_);exact retK (ret_many (ds := [_, _]) rfl (by decide) ⟨ret_tmp rfl, ⟨ret_tmp rfl, rfl⟩⟩ (perm_drop _)) (congrArg (fun (p : (Int × Int)) => D.tup [.i64 p.1, .i64 p.2]) (some_eq hm))
def m_store_Store_Leaf (s1 : StoreStore) (kind1 : Int)  : Option (Int × Int × StoreStore) :=
 bif ((decide (kind1 < 1)) || (decide (5 < kind1))) then
  some (0, 2, (⟨s1.nodes, s1.vars, s1.levels, s1.seen, (⟨s1.wait.first, s1.wait.more⟩ : QueuePairs), s1.dead⟩ : StoreStore))
 else
  (m_store_Store_add (⟨s1.nodes, s1.vars, s1.levels, s1.seen, (⟨s1.wait.first, s1.wait.more⟩ : QueuePairs), s1.dead⟩ : StoreStore) (⟨kind1, 0, 0, ([] : List AFd)⟩ : ANd) (-1)).bind fun (x1, x2, s2) =>
  some (x1, x2, (⟨s2.nodes, s2.vars, s2.levels, s2.seen, (⟨s2.wait.first, s2.wait.more⟩ : QueuePairs), s2.dead⟩ : StoreStore))
theorem w_store_Store_Leaf {s1 : StoreStore} {kind1 : Int}  {r_1 : Int} {r_2 : Int} {s_1 : StoreStore} {b_q0 : Nat} {a_q0c0 : Option Addr} {cap_q0c0 : Nat} {a_q0c1 : Option Addr} {m_q0c1 : Nat} {cap_q0c1 : Nat} {a_q0c2 : Option Addr} {cap_q0c2 : Nat} {b_q0c3 : Nat} {b_q0c4 : Nat} {c_q0c4c0 : Nat} {a_q0c4c1 : Option Addr} {cap_q0c4c1 : Nat} (hm : m_store_Store_Leaf s1 kind1 = some (r_1, r_2, s_1)) : Go.V.Fn Try.prog 6 [.v (.pointer (some ⟨b_q0, 0, none⟩)), .i64 kind1] [box b_q0 51 [.v (.slice a_q0c0 s1.nodes.length cap_q0c0), .v (.slice a_q0c1 m_q0c1 cap_q0c1), .v (.slice a_q0c2 s1.levels.length cap_q0c2), .v (.map (some b_q0c3)), .v (.pointer (some ⟨b_q0c4, 0, none⟩)), .bool s1.dead], row a_q0c0 cap_q0c0 54 4 ANd.d s1.nodes, arr a_q0c1 m_q0c1 cap_q0c1 56 3 StoreVariable.d s1.vars, row a_q0c2 cap_q0c2 3 1 D.i64 s1.levels, mp b_q0c3 kStorePair D.bool s1.seen, box b_q0c4 70 [.v (.chan (some c_q0c4c0)), .v (.slice a_q0c4c1 s1.wait.more.length cap_q0c4c1)], chn c_q0c4c0 s1.wait.first.1 StorePair.d s1.wait.first.2, que a_q0c4c1 cap_q0c4c1 47 2 StorePair.d s1.wait.more] (fun d ms' => ∃ a_s_1c0 cap_s_1c0 a_s_1c1 m_s_1c1 cap_s_1c1 a_s_1c2 cap_s_1c2 c_s_1c4c0 a_s_1c4c1 cap_s_1c4c1, d = .tup [.i64 r_1, .i64 r_2] /\ ms' = [box b_q0 51 [.v (.slice a_s_1c0 s_1.nodes.length cap_s_1c0), .v (.slice a_s_1c1 m_s_1c1 cap_s_1c1), .v (.slice a_s_1c2 s_1.levels.length cap_s_1c2), .v (.map (some b_q0c3)), .v (.pointer (some ⟨b_q0c4, 0, none⟩)), .bool s_1.dead], row a_s_1c0 cap_s_1c0 54 4 ANd.d s_1.nodes, arr a_s_1c1 m_s_1c1 cap_s_1c1 56 3 StoreVariable.d s_1.vars, row a_s_1c2 cap_s_1c2 3 1 D.i64 s_1.levels, mp b_q0c3 kStorePair D.bool s_1.seen, box b_q0c4 70 [.v (.chan (some c_s_1c4c0)), .v (.slice a_s_1c4c1 s_1.wait.more.length cap_s_1c4c1)], chn c_s_1c4c0 s_1.wait.first.1 StorePair.d s_1.wait.first.2, que a_s_1c4c1 cap_s_1c4c1 47 2 StorePair.d s_1.wait.more]) := by
 unfold m_store_Store_Leaf at hm;refine fn_intro Try.func6 rfl Try.ntmps6 rfl fun H0 fr w0 => ?_;refine g_seq (gRg ?_);refine go_p rfl rfl rfl (oAs rfl) ?_;refine go_p rfl rfl rfl (oAs rfl) ?_;refine gNl (g_seq (g_block (g_seq (gRg ?_))));refine go_p rfl rfl rfl (oMv rfl) ?_;refine go_p rfl rfl rfl (o_eqnil Try.runUnderlying23 rfl nilP_ptr rfl) ?_;refine go_p rfl rfl rfl (oAs rfl) ?_;refine gNl ?_;refine g_cond_false rfl rfl ?_;refine g_seq (gRg ?_);refine go_p rfl rfl rfl (oMv rfl) ?_;refine go_p rfl rfl rfl (o_cmp rfl rfl rfl) ?_;refine go_p rfl rfl rfl (oMv rfl) ?_
 apply go_or [(0, _), (1, _)] 3 15 (t := 12) ⟨rfl, rfl, trivial⟩ rfl
 ·intro hg_1 hk1
  refine gWp rfl rfl rfl hg_1 rfl rfl (oMv rfl) ?_;refine gWp rfl rfl rfl hg_1 rfl rfl (o_cmp rfl rfl rfl) ?_;refine go_p rfl rfl rfl (o_pickF rfl hg_1 rfl) ?_;exact gMt hk1 (rfl) ⟨rfl, rfl, trivial⟩
 ·intro hg_1 hk1
  refine gKp rfl rfl rfl hg_1 rfl rfl ?_;refine gKp rfl rfl rfl hg_1 rfl rfl ?_;refine go_p rfl rfl rfl (o_pickT rfl hg_1 rfl) ?_;exact gMt hk1 (rfl) ⟨rfl, rfl, trivial⟩
 refine go_p rfl rfl rfl (oAs rfl) ?_;refine gNl ?_;refine gCd rfl (fun hc1 => ?_) (fun hc1 => ?_)
 ·replace hm := cond_t hc1 hm
  refine g_seq (gRg ?_);refine go_p rfl rfl rfl (oAs rfl) ?_;refine go_p rfl rfl rfl (oAs rfl) ?_;refine gNl (g_ret ?_)
  have hq1 := some_eq hm
  obtain ⟨rfl, hq2⟩ := Prod.mk.inj hq1;obtain ⟨rfl, rfl⟩ := Prod.mk.inj hq2;exact retK (ret_many (ds := [_, _]) rfl (by decide) ⟨ret_tmp rfl, ⟨ret_tmp rfl, rfl⟩⟩ (permA 0 rfl (permA 0 rfl (permA 0 rfl (permA 0 rfl (permA 0 rfl (permA 0 rfl (permA 0 rfl (permA 0 rfl permN))))))))) ⟨_, _, _, _, _, _, _, _, _, _, rfl, rfl⟩
 ·replace hm := cond_f hc1 hm
  refine gSp (g_seq (gRg ?_));refine go_p rfl rfl rfl (oMv rfl) ?_;refine go_p rfl rfl rfl (oMv rfl) ?_;refine go_p rfl rfl rfl (o_build (zs := [.v (.int .i64 0), .v (.int .i64 0), .v (.int .i64 0), .list 2 AFd.d []]) Try.runUnderlying54 Try.zeroValue54 (pl_54 _ Try.runUnderlying54) rfl rfl rfl rfl) ?_;obtain ⟨⟨x1, x2, s2⟩, hx1, hm⟩ := bS hm;refine go_op rfl rfl rfl (o_call_own [0, 1, 2, 3, 4, 5, 6, 7] Try.call15 rfl rfl (getL_c rfl (getL_c rfl (getL_c rfl (getL_c rfl (getL_c rfl (getL_c rfl (getL_c rfl (getL_c rfl getL_n)))))))) (w_store_Store_add hx1) (by rintro _ _ ⟨_, _, _, _, _, _, _, _, _, _, rfl, rfl⟩; rfl)) ?_;rintro _ _ ⟨_, ⟨a_q0c0, cap_q0c0, a_q0c1, m_q0c1, cap_q0c1, a_q0c2, cap_q0c2, c_q0c4c0, a_q0c4c1, cap_q0c4c1, rfl, rfl⟩, rfl⟩;refine go_ms (ms' := [box b_q0 51 [_, _, _, _, _, _], _, _, _, _, box b_q0c4 70 [_, _], _, _]) rfl ?_;refine go_p rfl rfl rfl (o_extract rfl rfl) ?_;refine go_p rfl rfl rfl (o_extract rfl rfl) ?_;refine go_p rfl rfl rfl (oAs rfl) ?_;refine go_p rfl rfl rfl (oAs rfl) ?_;refine gNl (g_ret ?_)
  have hq1 := some_eq hm
  obtain ⟨rfl, hq2⟩ := Prod.mk.inj hq1;obtain ⟨rfl, rfl⟩ := Prod.mk.inj hq2;exact retK (ret_many (ds := [_, _]) rfl (by decide) ⟨ret_tmp rfl, ⟨ret_tmp rfl, rfl⟩⟩ (permA 0 rfl (permA 0 rfl (permA 0 rfl (permA 0 rfl (permA 0 rfl (permA 0 rfl (permA 0 rfl (permA 0 rfl permN))))))))) ⟨_, _, _, _, _, _, _, _, _, _, rfl, rfl⟩
def m_store_Store_LeafN (kind1 : Int)  : Option (Int × Int) :=
 some (0, 3)
theorem w_store_Store_LeafN {kind1 : Int}  {r_1 : Int} {r_2 : Int} (hm : m_store_Store_LeafN kind1 = some (r_1, r_2)) : Fn0 Try.prog 6 [.v (.pointer none), .i64 kind1] (.tup [.i64 r_1, .i64 r_2]) := by
 unfold m_store_Store_LeafN at hm;refine fn_intro Try.func6 rfl Try.ntmps6 rfl fun H0 fr w0 => ?_;refine g_seq (gRg ?_);refine go_p rfl rfl rfl (oAs rfl) ?_;refine go_p rfl rfl rfl (oAs rfl) ?_;refine gNl (g_seq (g_block (g_seq (gRg ?_))));refine go_p rfl rfl rfl (oMv rfl) ?_;refine go_p rfl rfl rfl (o_eqnil Try.runUnderlying23 rfl nilP_nil rfl) ?_;refine go_p rfl rfl rfl (oAs rfl) ?_;refine gNl ?_;refine g_cond_true rfl rfl ?_;refine g_seq (gRg ?_);refine go_p rfl rfl rfl (oAs rfl) ?_;refine go_p rfl rfl rfl (oAs rfl) ?_;refine gNl (g_ret ?_);exact retK (ret_many (ds := [_, _]) rfl (by decide) ⟨ret_tmp rfl, ⟨ret_tmp rfl, rfl⟩⟩ (perm_drop _)) (congrArg (fun (p : (Int × Int)) => D.tup [.i64 p.1, .i64 p.2]) (some_eq hm))
def m_store_Store_Arrow (s1 : StoreStore) (a1 : Int) (bv1 : Int)  : Option (Int × Int × StoreStore) :=
 (m_there (⟨s1.nodes, s1.vars, s1.levels, s1.seen, (⟨s1.wait.first, s1.wait.more⟩ : QueuePairs), s1.dead⟩ : StoreStore) [a1, bv1]).bind fun x1 =>
 bif (!x1) then
  some (0, 3, (⟨s1.nodes, s1.vars, s1.levels, s1.seen, (⟨s1.wait.first, s1.wait.more⟩ : QueuePairs), s1.dead⟩ : StoreStore))
 else
  none
theorem w_store_Store_Arrow {s1 : StoreStore} {a1 : Int} {bv1 : Int}  {r_1 : Int} {r_2 : Int} {s_1 : StoreStore} {b_q0 : Nat} {a_q0c0 : Option Addr} {cap_q0c0 : Nat} {a_q0c1 : Option Addr} {m_q0c1 : Nat} {cap_q0c1 : Nat} {a_q0c2 : Option Addr} {cap_q0c2 : Nat} {b_q0c3 : Nat} {b_q0c4 : Nat} {c_q0c4c0 : Nat} {a_q0c4c1 : Option Addr} {cap_q0c4c1 : Nat} (hm : m_store_Store_Arrow s1 a1 bv1 = some (r_1, r_2, s_1)) : Go.V.Fn Try.prog 7 [.v (.pointer (some ⟨b_q0, 0, none⟩)), .i64 a1, .i64 bv1] [box b_q0 51 [.v (.slice a_q0c0 s1.nodes.length cap_q0c0), .v (.slice a_q0c1 m_q0c1 cap_q0c1), .v (.slice a_q0c2 s1.levels.length cap_q0c2), .v (.map (some b_q0c3)), .v (.pointer (some ⟨b_q0c4, 0, none⟩)), .bool s1.dead], row a_q0c0 cap_q0c0 54 4 ANd.d s1.nodes, arr a_q0c1 m_q0c1 cap_q0c1 56 3 StoreVariable.d s1.vars, row a_q0c2 cap_q0c2 3 1 D.i64 s1.levels, mp b_q0c3 kStorePair D.bool s1.seen, box b_q0c4 70 [.v (.chan (some c_q0c4c0)), .v (.slice a_q0c4c1 s1.wait.more.length cap_q0c4c1)], chn c_q0c4c0 s1.wait.first.1 StorePair.d s1.wait.first.2, que a_q0c4c1 cap_q0c4c1 47 2 StorePair.d s1.wait.more] (fun d ms' => ∃ a_s_1c0 cap_s_1c0 a_s_1c1 m_s_1c1 cap_s_1c1 a_s_1c2 cap_s_1c2 c_s_1c4c0 a_s_1c4c1 cap_s_1c4c1, d = .tup [.i64 r_1, .i64 r_2] /\ ms' = [box b_q0 51 [.v (.slice a_s_1c0 s_1.nodes.length cap_s_1c0), .v (.slice a_s_1c1 m_s_1c1 cap_s_1c1), .v (.slice a_s_1c2 s_1.levels.length cap_s_1c2), .v (.map (some b_q0c3)), .v (.pointer (some ⟨b_q0c4, 0, none⟩)), .bool s_1.dead], row a_s_1c0 cap_s_1c0 54 4 ANd.d s_1.nodes, arr a_s_1c1 m_s_1c1 cap_s_1c1 56 3 StoreVariable.d s_1.vars, row a_s_1c2 cap_s_1c2 3 1 D.i64 s_1.levels, mp b_q0c3 kStorePair D.bool s_1.seen, box b_q0c4 70 [.v (.chan (some c_s_1c4c0)), .v (.slice a_s_1c4c1 s_1.wait.more.length cap_s_1c4c1)], chn c_s_1c4c0 s_1.wait.first.1 StorePair.d s_1.wait.first.2, que a_s_1c4c1 cap_s_1c4c1 47 2 StorePair.d s_1.wait.more]) := by
 unfold m_store_Store_Arrow at hm;refine fn_intro Try.func7 rfl Try.ntmps7 rfl fun H0 fr w0 => ?_;refine g_seq (gRg ?_);refine go_p rfl rfl rfl (oAs rfl) ?_;refine go_p rfl rfl rfl (oAs rfl) ?_;refine gNl (g_seq (g_seq (gRg ?_)));refine go_p rfl rfl rfl (oMv rfl) ?_;refine go_p rfl rfl rfl (oMv rfl) ?_;refine go_p rfl rfl rfl (oMv rfl) ?_;refine go_p rfl rfl rfl (o_buildSlice (xs := [_, _]) (f := D.i64) (l := [_, _]) Try.runUnderlying49 Try.sizeOf3 Try.zeroValue3 rfl rfl rfl (fun _ => ⟨rfl, rfl, rfl⟩) rfl) ?_;obtain ⟨x1, hx1, hm⟩ := bS hm;refine go_p rfl rfl rfl (o_call_own_p [0, 1, 2, 3, 4, 5, 6, 7] Try.call16 rfl rfl (getL_c rfl (getL_c rfl (getL_c rfl (getL_c rfl (getL_c rfl (getL_c rfl (getL_c rfl (getL_c rfl getL_n)))))))) (w_there hx1)) ?_;refine go_p rfl rfl rfl (o_not rfl) ?_;refine gNl ?_;refine gCd rfl (fun hc1 => ?_) (fun hc1 => ?_)
 ·replace hm := cond_t hc1 hm
  refine g_seq (gRg ?_);refine go_p rfl rfl rfl (oAs rfl) ?_;refine go_p rfl rfl rfl (oAs rfl) ?_;refine gNl (g_ret ?_)
  have hq1 := some_eq hm
  obtain ⟨rfl, hq2⟩ := Prod.mk.inj hq1;obtain ⟨rfl, rfl⟩ := Prod.mk.inj hq2;exact retK (ret_many (ds := [_, _]) rfl (by decide) ⟨ret_tmp rfl, ⟨ret_tmp rfl, rfl⟩⟩ (permA 0 rfl (permA 0 rfl (permA 0 rfl (permA 0 rfl (permA 0 rfl (permA 0 rfl (permA 0 rfl (permA 0 rfl permN))))))))) ⟨_, _, _, _, _, _, _, _, _, _, rfl, rfl⟩
 ·replace hm := cond_f hc1 hm
  refine gSp (g_seq ?_)
  cases hm
def m_store_Store_ArrowN (a1 : Int) (bv1 : Int)  : Option (Int × Int) :=
 (m_thereN [a1, bv1]).bind fun x1 =>
 bif (!x1) then
  some (0, 3)
 else
  none
theorem w_store_Store_ArrowN {a1 : Int} {bv1 : Int}  {r_1 : Int} {r_2 : Int} (hm : m_store_Store_ArrowN a1 bv1 = some (r_1, r_2)) : Fn0 Try.prog 7 [.v (.pointer none), .i64 a1, .i64 bv1] (.tup [.i64 r_1, .i64 r_2]) := by
 unfold m_store_Store_ArrowN at hm;refine fn_intro Try.func7 rfl Try.ntmps7 rfl fun H0 fr w0 => ?_;refine g_seq (gRg ?_);refine go_p rfl rfl rfl (oAs rfl) ?_;refine go_p rfl rfl rfl (oAs rfl) ?_;refine gNl (g_seq (g_seq (gRg ?_)));refine go_p rfl rfl rfl (oMv rfl) ?_;refine go_p rfl rfl rfl (oMv rfl) ?_;refine go_p rfl rfl rfl (oMv rfl) ?_;refine go_p rfl rfl rfl (o_buildSlice (xs := [_, _]) (f := D.i64) (l := [_, _]) Try.runUnderlying49 Try.sizeOf3 Try.zeroValue3 rfl rfl rfl (fun _ => ⟨rfl, rfl, rfl⟩) rfl) ?_;obtain ⟨x1, hx1, hm⟩ := bS hm;refine go_p rfl rfl rfl (o_call0 Try.call16 rfl (w_thereN hx1)) ?_;refine go_p rfl rfl rfl (o_not rfl) ?_;refine gNl ?_;refine gCd rfl (fun hc1 => ?_) (fun hc1 => ?_)
 ·replace hm := cond_t hc1 hm
  refine g_seq (gRg ?_);refine go_p rfl rfl rfl (oAs rfl) ?_;refine go_p rfl rfl rfl (oAs rfl) ?_;refine gNl (g_ret ?_);exact retK (ret_many (ds := [_, _]) rfl (by decide) ⟨ret_tmp rfl, ⟨ret_tmp rfl, rfl⟩⟩ (perm_drop _)) (congrArg (fun (p : (Int × Int)) => D.tup [.i64 p.1, .i64 p.2]) (some_eq hm))
 ·replace hm := cond_f hc1 hm
  refine gSp (g_seq ?_)
  cases hm
theorem fi_31_1 : FieldIs Try.prog 31 1 1 1 false := ⟨⟨_, _, Try.runUnderlying31, rfl, rfl, Try.sizeOf3, by decide, Try.isAgg3⟩⟩
def m_store_Store_Wide_l1 (s1 : StoreStore) (l1 : (List AFd)) : Nat -> (Int × Int) -> Option (Out (Int × Int × StoreStore) Int)
 | 0, _ => none
 | n + 1, (level2, x1) =>
  bif (decide (x1 < (l1.length : Int))) then
   (idx l1 x1).bind fun x2 =>
   (m_there (⟨s1.nodes, s1.vars, s1.levels, s1.seen, (⟨s1.wait.first, s1.wait.more⟩ : QueuePairs), s1.dead⟩ : StoreStore) [x2.at_]).bind fun x3 =>
   bif (!x3) then
    some (Out.ret (0, 3, (⟨s1.nodes, s1.vars, s1.levels, s1.seen, (⟨s1.wait.first, s1.wait.more⟩ : QueuePairs), s1.dead⟩ : StoreStore)))
   else
    (idx s1.levels x2.at_).bind fun x4 =>
    grd (InR (x1 + 1)) <|
    m_store_Store_Wide_l1 s1 l1 n ((if x4 > level2 then x4 else level2), (x1 + 1))
  else
   some (Out.go (level2))
def m_store_Store_Wide (s1 : StoreStore) (kind1 : Int) (l1 : (List AFd))  : Option (Int × Int × StoreStore) :=
 ((m_store_Store_Wide_l1 s1 l1 FU ((-1), 0) : Option (Out (Int × Int × StoreStore) Int))).bind (fun oo => oo.on (fun r1 => some r1) (fun level1 =>
 (bif ((!decide (kind1 = 7)) && (!decide (kind1 = 8))) then (some true) else ((m_store_named kind1 l1).bind fun x5 =>
 some (!x5))).bind fun p1 =>
 bif p1 then
  some (0, 2, (⟨s1.nodes, s1.vars, s1.levels, s1.seen, (⟨s1.wait.first, s1.wait.more⟩ : QueuePairs), s1.dead⟩ : StoreStore))
 else
  none))
theorem w_store_Store_Wide {s1 : StoreStore} {kind1 : Int} {l1 : (List AFd)}  {r_1 : Int} {r_2 : Int} {s_1 : StoreStore} {b_q0 : Nat} {a_q0c0 : Option Addr} {cap_q0c0 : Nat} {a_q0c1 : Option Addr} {m_q0c1 : Nat} {cap_q0c1 : Nat} {a_q0c2 : Option Addr} {cap_q0c2 : Nat} {b_q0c3 : Nat} {b_q0c4 : Nat} {c_q0c4c0 : Nat} {a_q0c4c1 : Option Addr} {cap_q0c4c1 : Nat} (hm : m_store_Store_Wide s1 kind1 l1 = some (r_1, r_2, s_1)) : Go.V.Fn Try.prog 8 [.v (.pointer (some ⟨b_q0, 0, none⟩)), .i64 kind1, .list 2 AFd.d l1] [box b_q0 51 [.v (.slice a_q0c0 s1.nodes.length cap_q0c0), .v (.slice a_q0c1 m_q0c1 cap_q0c1), .v (.slice a_q0c2 s1.levels.length cap_q0c2), .v (.map (some b_q0c3)), .v (.pointer (some ⟨b_q0c4, 0, none⟩)), .bool s1.dead], row a_q0c0 cap_q0c0 54 4 ANd.d s1.nodes, arr a_q0c1 m_q0c1 cap_q0c1 56 3 StoreVariable.d s1.vars, row a_q0c2 cap_q0c2 3 1 D.i64 s1.levels, mp b_q0c3 kStorePair D.bool s1.seen, box b_q0c4 70 [.v (.chan (some c_q0c4c0)), .v (.slice a_q0c4c1 s1.wait.more.length cap_q0c4c1)], chn c_q0c4c0 s1.wait.first.1 StorePair.d s1.wait.first.2, que a_q0c4c1 cap_q0c4c1 47 2 StorePair.d s1.wait.more] (fun d ms' => ∃ a_s_1c0 cap_s_1c0 a_s_1c1 m_s_1c1 cap_s_1c1 a_s_1c2 cap_s_1c2 c_s_1c4c0 a_s_1c4c1 cap_s_1c4c1, d = .tup [.i64 r_1, .i64 r_2] /\ ms' = [box b_q0 51 [.v (.slice a_s_1c0 s_1.nodes.length cap_s_1c0), .v (.slice a_s_1c1 m_s_1c1 cap_s_1c1), .v (.slice a_s_1c2 s_1.levels.length cap_s_1c2), .v (.map (some b_q0c3)), .v (.pointer (some ⟨b_q0c4, 0, none⟩)), .bool s_1.dead], row a_s_1c0 cap_s_1c0 54 4 ANd.d s_1.nodes, arr a_s_1c1 m_s_1c1 cap_s_1c1 56 3 StoreVariable.d s_1.vars, row a_s_1c2 cap_s_1c2 3 1 D.i64 s_1.levels, mp b_q0c3 kStorePair D.bool s_1.seen, box b_q0c4 70 [.v (.chan (some c_s_1c4c0)), .v (.slice a_s_1c4c1 s_1.wait.more.length cap_s_1c4c1)], chn c_s_1c4c0 s_1.wait.first.1 StorePair.d s_1.wait.first.2, que a_s_1c4c1 cap_s_1c4c1 47 2 StorePair.d s_1.wait.more]) := by
 unfold m_store_Store_Wide at hm;refine fn_intro Try.func8 rfl Try.ntmps8 rfl fun H0 fr w0 => ?_;refine g_seq (gRg ?_);refine go_p rfl rfl rfl (oAs rfl) ?_;refine go_p rfl rfl rfl (oAs rfl) ?_;refine gNl (g_seq (gRg ?_));refine go_p rfl rfl rfl (oAs rfl) ?_;refine gNl (g_seq (g_seq (gRg ?_)));refine go_p rfl rfl rfl (oMv rfl) ?_;refine go_p rfl rfl rfl (o_len Try.runUnderlying22 rfl) ?_;refine go_p rfl rfl rfl (oMv rfl) ?_;refine gNl ?_;obtain ⟨o_1, hj1, hm1⟩ := bS hm;refine g_cut_m [(0, _), (1, _), (2, _)] [(0, _), (1, _), (2, _), (3, _), (4, _), (5, _), (6, _), (7, _)] (fun (st : Int) (hid : Unit) => match st, hid with | level1, _ => [(8, .i64 level1)]) (fun F (st : Int) (hid : Unit) => match st, hid with | level1, _ => [(nthF F 0), (nthF F 1), (nthF F 2), (nthF F 3), (nthF F 4), (nthF F 5), (nthF F 6), (nthF F 7)]) (fun st => Out.go (st) = o_1) ⟨rfl, rfl, rfl, trivial⟩ ⟨rfl, rfl, rfl, rfl, rfl, rfl, rfl, rfl, trivial⟩ ?_ ?_
 ·skip
  refine g_block ?_;refine g_loop_m [(0, _), (1, _), (2, _), (11, _), (12, _)] [(0, _), (1, _), (2, _), (3, _), (4, _), (5, _), (6, _), (7, _)] (fun (st : (Int × Int)) (hid : Unit) => match st, hid with | (level2, x1), _ => [(8, .i64 level2), (13, .i64 x1)]) (fun F (st : (Int × Int)) (hid : Unit) => match st, hid with | (level2, x1), _ => [(nthF F 0), (nthF F 1), (nthF F 2), (nthF F 3), (nthF F 4), (nthF F 5), (nthF F 6), (nthF F 7)]) () hj1 (fun _ => rfl) ⟨rfl, rfl, rfl, rfl, rfl, trivial⟩ ⟨rfl, rfl, rfl, rfl, rfl, rfl, rfl, rfl, trivial⟩ ⟨rfl, rfl, trivial⟩ rfl ?_;rintro n ⟨level2, x1⟩ _ hj1;rw [m_store_Store_Wide_l1] at hj1;refine g_norm (L' := [(8, .i64 level2), (13, .i64 x1), (0, _), (1, _), (2, _), (11, _), (12, _)]) (ms' := [_, _, _, _, _, _, _, _]) rfl rfl ?_;refine g_seq (gRg ?_);refine go_p rfl rfl rfl (o_cmp rfl rfl rfl) ?_;refine gNl (g_seq ?_);refine gCd rfl (fun hc1 => ?_) (fun hc1 => ?_)
  ·replace hj1 := cond_t hc1 hj1
   refine gSp (g_seq (g_block (g_seq (gRg ?_))));obtain ⟨x2, hx1, hj1⟩ := bS hj1;refine go_p rfl rfl rfl (oIm Try.runUnderlying22 Try.sizeOf31 rfl rfl hx1) ?_;refine go_p rfl rfl rfl (o_load_agg Try.isAgg31 Try.sizeOf31 rfl rfl) ?_;refine go_op rfl rfl rfl (o_alloc_own Try.zeroValue31 (cs := [.str ([] : List UInt8), .i64 0]) rfl) ?_;rintro _ _ ⟨b1, rfl, rfl⟩;refine go_u rfl rfl (oSb 0 Try.sizeOf31 rfl rfl rfl rfl rfl rfl rfl rfl (nB rfl)) ?_;rintro _ _ rfl;refine go_ms (ms' := [box b1 31 [_, _], box b_q0 51 [_, _, _, _, _, _], _, _, _, _, box b_q0c4 70 [_, _], _, _]) rfl ?_;refine gNl (g_seq (g_seq (gRg ?_)));refine go_p rfl rfl rfl (oMv rfl) ?_;refine go_p rfl rfl rfl (oFb fi_31_1 rfl) ?_;refine go_p rfl rfl rfl (oLb 0 Try.isAgg3 rfl rfl rfl rfl) ?_;refine go_p rfl rfl rfl (o_buildSlice (xs := [_]) (f := D.i64) (l := [_]) Try.runUnderlying49 Try.sizeOf3 Try.zeroValue3 rfl rfl rfl (fun _ => ⟨rfl, rfl, rfl⟩) rfl) ?_;obtain ⟨x3, hx2, hj1⟩ := bS hj1;refine go_p rfl rfl rfl (o_call_own_p [1, 2, 3, 4, 5, 6, 7, 8] Try.call16 rfl rfl (getL_c rfl (getL_c rfl (getL_c rfl (getL_c rfl (getL_c rfl (getL_c rfl (getL_c rfl (getL_c rfl getL_n)))))))) (w_there hx2)) ?_;refine go_p rfl rfl rfl (o_not rfl) ?_;refine gNl ?_;refine gCd rfl (fun hc2 => ?_) (fun hc2 => ?_)
   ·replace hj1 := cond_t hc2 hj1
    refine g_seq (gRg ?_);refine go_p rfl rfl rfl (oAs rfl) ?_;refine go_p rfl rfl rfl (oAs rfl) ?_;refine gNl (g_ret ?_);obtain rfl := some_eq hj1
    replace hm1 := on_ret hm1
    have hq1 := some_eq hm1
    obtain ⟨rfl, hq2⟩ := Prod.mk.inj hq1;obtain ⟨rfl, rfl⟩ := Prod.mk.inj hq2;exact retK (ret_many (ds := [_, _]) rfl (by decide) ⟨ret_tmp rfl, ⟨ret_tmp rfl, rfl⟩⟩ (permA 1 rfl (permA 1 rfl (permA 1 rfl (permA 1 rfl (permA 1 rfl (permA 1 rfl (permA 1 rfl (permA 1 rfl permN))))))))) ⟨_, _, _, _, _, _, _, _, _, _, rfl, rfl⟩
   ·replace hj1 := cond_f hc2 hj1
    refine gSp ?_;obtain ⟨x4, hx3, hj1⟩ := bS hj1;refine g_draw 11 Try_mixed (by decide +kernel) ?_;refine gd_p rfl rfl rfl (oMv rfl) ?_;refine gd_p rfl rfl rfl (oMv rfl) ?_;refine gd_p rfl rfl rfl (o_nilCheck_box rfl) ?_;refine gd_p rfl rfl rfl (oFb fi_51_2 rfl) ?_;refine gd_p rfl rfl rfl (oLb 1 Try.isAgg49 rfl rfl rfl rfl) ?_;refine gd_p rfl rfl rfl (oFb fi_31_1 rfl) ?_;refine gd_p rfl rfl rfl (oLb 0 Try.isAgg3 rfl rfl rfl rfl) ?_;refine gd_p rfl rfl rfl (.view (peekE (i := 27) 4 rfl rfl rfl) (oIm Try.runUnderlying49 Try.sizeOf3 rfl rfl hx3)) ?_;refine gd_p rfl rfl rfl (o_load Try.isAgg3 rfl rfl) ?_;refine gd_p rfl rfl rfl (o_max rfl rfl) ?_;refine gd_p rfl rfl rfl (oAs rfl) ?_;refine gd_nil ?_;refine gNl (gRg ?_);obtain ⟨hg4, hj1⟩ := grd_some hj1;refine go_p rfl rfl rfl (o_add rfl rfl (i64_id hg4)) ?_;refine go_p rfl rfl rfl (oMv rfl) ?_;refine gNl ?_;exact ⟨_, (), hj1, ⟨rfl, rfl, trivial⟩, ⟨rfl, rfl, rfl, rfl, rfl, trivial⟩, [_], rfl⟩
  ·replace hj1 := cond_f hc1 hj1
   refine g_exit ?_;exact ⟨_, (), some_eq hj1, ⟨rfl, trivial⟩, ⟨rfl, rfl, rfl, trivial⟩, [], rfl⟩
 ·rintro level1 _ hst
  subst hst
  replace hm1 := on_go hm1
  refine k_norm (L' := [(8, .i64 level1), (0, _), (1, _), (2, _)]) (ms' := [_, _, _, _, _, _, _, _]) rfl rfl ?_;refine g_seq (g_block (g_seq (gRg ?_)));refine go_p rfl rfl rfl (oMv rfl) ?_;refine go_p rfl rfl rfl (o_eqnil Try.runUnderlying23 rfl nilP_ptr rfl) ?_;refine go_p rfl rfl rfl (oAs rfl) ?_;refine gNl ?_;refine g_cond_false rfl rfl ?_;refine g_seq (gRg ?_);refine go_p rfl rfl rfl (oMv rfl) ?_;refine go_p rfl rfl rfl (o_cmp rfl rfl rfl) ?_;refine go_p rfl rfl rfl (oMv rfl) ?_
  apply go_and [(0, _), (1, _), (2, _), (8, _)] 3 43 (t := 40) ⟨rfl, rfl, rfl, rfl, trivial⟩ rfl
  ·intro hg_1 hk1
   refine gWp rfl rfl rfl hg_1 rfl rfl (oMv rfl) ?_;refine gWp rfl rfl rfl hg_1 rfl rfl (o_cmp rfl rfl rfl) ?_;refine go_p rfl rfl rfl (o_pickT rfl hg_1 rfl) ?_;exact gMt hk1 (rfl) ⟨rfl, rfl, rfl, rfl, trivial⟩
  ·intro hg_1 hk1
   refine gKp rfl rfl rfl hg_1 rfl rfl ?_;refine gKp rfl rfl rfl hg_1 rfl rfl ?_;refine go_p rfl rfl rfl (o_pickF rfl hg_1 rfl) ?_;exact gMt hk1 (rfl) ⟨rfl, rfl, rfl, rfl, trivial⟩
  refine go_p rfl rfl rfl (oMv rfl) ?_;obtain ⟨p1, hp_2, hm1⟩ := bS hm1;refine go_two [(0, _), (1, _), (2, _), (8, _)] 5 49 p1 (t := 44) ⟨rfl, rfl, rfl, rfl, trivial⟩ rfl (fun hg_2 hk2 => ?_) (fun hg_2 hk2 => ?_) ?_
  ·replace hp_2 := cond_t hg_2 hp_2
   refine gKp rfl rfl rfl hg_2 rfl rfl ?_;refine gKp rfl rfl rfl hg_2 rfl rfl ?_;refine gKp rfl rfl rfl hg_2 rfl rfl ?_;refine gKp rfl rfl rfl hg_2 rfl rfl ?_;refine go_p rfl rfl rfl (o_pickT rfl hg_2 rfl) ?_;exact gMt hk2 (congrArg (fun b => some (D.bool b)) (some_eq hp_2)) ⟨rfl, rfl, rfl, rfl, trivial⟩
  ·replace hp_2 := cond_f hg_2 hp_2
   refine gWp rfl rfl rfl hg_2 rfl rfl (oMv rfl) ?_;refine gWp rfl rfl rfl hg_2 rfl rfl (oMv rfl) ?_;obtain ⟨x5, hx5, hp_2⟩ := bS hp_2;refine gWp rfl rfl rfl hg_2 rfl rfl (o_call0 Try.call17 rfl (w_store_named hx5)) ?_;refine gWp rfl rfl rfl hg_2 rfl rfl (o_not rfl) ?_;refine go_p rfl rfl rfl (o_pickF rfl hg_2 rfl) ?_;exact gMt hk2 (congrArg (fun b => some (D.bool b)) (some_eq hp_2)) ⟨rfl, rfl, rfl, rfl, trivial⟩
  refine go_p rfl rfl rfl (oAs rfl) ?_;refine gNl ?_;refine gCd rfl (fun hc3 => ?_) (fun hc3 => ?_)
  ·replace hm1 := cond_t hc3 hm1
   refine g_seq (gRg ?_);refine go_p rfl rfl rfl (oAs rfl) ?_;refine go_p rfl rfl rfl (oAs rfl) ?_;refine gNl (g_ret ?_)
   have hq1 := some_eq hm1
   obtain ⟨rfl, hq2⟩ := Prod.mk.inj hq1;obtain ⟨rfl, rfl⟩ := Prod.mk.inj hq2;exact retK (ret_many (ds := [_, _]) rfl (by decide) ⟨ret_tmp rfl, ⟨ret_tmp rfl, rfl⟩⟩ (permA 0 rfl (permA 0 rfl (permA 0 rfl (permA 0 rfl (permA 0 rfl (permA 0 rfl (permA 0 rfl (permA 0 rfl permN))))))))) ⟨_, _, _, _, _, _, _, _, _, _, rfl, rfl⟩
  ·replace hm1 := cond_f hc3 hm1
   refine gSp (g_seq (gRg ?_));refine go_p rfl rfl rfl (oMv rfl) ?_;refine go_p rfl rfl rfl (oMv rfl) ?_;refine go_p rfl rfl rfl (oMv rfl) ?_
   cases hm1
theorem fi_51_3 : FieldIs Try.prog 51 3 3 1 false := ⟨⟨_, _, Try.runUnderlying51, rfl, rfl, Try.sizeOf43, by decide, Try.isAgg43⟩⟩
theorem fi_51_4 : FieldIs Try.prog 51 4 4 1 false := ⟨⟨_, _, Try.runUnderlying51, rfl, rfl, Try.sizeOf44, by decide, Try.isAgg44⟩⟩
def m_store_Store_ask (s1 : StoreStore) (a1 : Int) (bv1 : Int)  : Option StoreStore :=
 bif (!((mget s1.seen (⟨a1, bv1⟩ : StorePair)).getD (false : Bool))) then
  (m_queue_Queue_store_pair_Push (⟨s1.wait.first, s1.wait.more⟩ : QueuePairs) [(⟨a1, bv1⟩ : StorePair)]).bind fun s2 =>
  some (⟨s1.nodes, s1.vars, s1.levels, (mset s1.seen (⟨a1, bv1⟩ : StorePair) true), (⟨s2.first, s2.more⟩ : QueuePairs), s1.dead⟩ : StoreStore)
 else
  some (⟨s1.nodes, s1.vars, s1.levels, s1.seen, (⟨s1.wait.first, s1.wait.more⟩ : QueuePairs), s1.dead⟩ : StoreStore)
theorem w_store_Store_ask {s1 : StoreStore} {a1 : Int} {bv1 : Int}  {s_1 : StoreStore} {b_q0 : Nat} {a_q0c0 : Option Addr} {cap_q0c0 : Nat} {a_q0c1 : Option Addr} {m_q0c1 : Nat} {cap_q0c1 : Nat} {a_q0c2 : Option Addr} {cap_q0c2 : Nat} {b_q0c3 : Nat} {b_q0c4 : Nat} {c_q0c4c0 : Nat} {a_q0c4c1 : Option Addr} {cap_q0c4c1 : Nat} (hm : m_store_Store_ask s1 a1 bv1 = some s_1) : Go.V.Fn Try.prog 19 [.v (.pointer (some ⟨b_q0, 0, none⟩)), .i64 a1, .i64 bv1] [box b_q0 51 [.v (.slice a_q0c0 s1.nodes.length cap_q0c0), .v (.slice a_q0c1 m_q0c1 cap_q0c1), .v (.slice a_q0c2 s1.levels.length cap_q0c2), .v (.map (some b_q0c3)), .v (.pointer (some ⟨b_q0c4, 0, none⟩)), .bool s1.dead], row a_q0c0 cap_q0c0 54 4 ANd.d s1.nodes, arr a_q0c1 m_q0c1 cap_q0c1 56 3 StoreVariable.d s1.vars, row a_q0c2 cap_q0c2 3 1 D.i64 s1.levels, mp b_q0c3 kStorePair D.bool s1.seen, box b_q0c4 70 [.v (.chan (some c_q0c4c0)), .v (.slice a_q0c4c1 s1.wait.more.length cap_q0c4c1)], chn c_q0c4c0 s1.wait.first.1 StorePair.d s1.wait.first.2, que a_q0c4c1 cap_q0c4c1 47 2 StorePair.d s1.wait.more] (fun d ms' => ∃ a_s_1c0 cap_s_1c0 a_s_1c1 m_s_1c1 cap_s_1c1 a_s_1c2 cap_s_1c2 c_s_1c4c0 a_s_1c4c1 cap_s_1c4c1, d = .tup [] /\ ms' = [box b_q0 51 [.v (.slice a_s_1c0 s_1.nodes.length cap_s_1c0), .v (.slice a_s_1c1 m_s_1c1 cap_s_1c1), .v (.slice a_s_1c2 s_1.levels.length cap_s_1c2), .v (.map (some b_q0c3)), .v (.pointer (some ⟨b_q0c4, 0, none⟩)), .bool s_1.dead], row a_s_1c0 cap_s_1c0 54 4 ANd.d s_1.nodes, arr a_s_1c1 m_s_1c1 cap_s_1c1 56 3 StoreVariable.d s_1.vars, row a_s_1c2 cap_s_1c2 3 1 D.i64 s_1.levels, mp b_q0c3 kStorePair D.bool s_1.seen, box b_q0c4 70 [.v (.chan (some c_s_1c4c0)), .v (.slice a_s_1c4c1 s_1.wait.more.length cap_s_1c4c1)], chn c_s_1c4c0 s_1.wait.first.1 StorePair.d s_1.wait.first.2, que a_s_1c4c1 cap_s_1c4c1 47 2 StorePair.d s_1.wait.more]) := by
 unfold m_store_Store_ask at hm;refine fn_intro Try.func19 rfl Try.ntmps19 rfl fun H0 fr w0 => ?_;refine g_seq (gRg ?_);refine go_p rfl rfl rfl (oMv rfl) ?_;refine go_p rfl rfl rfl (oMv rfl) ?_;refine go_p rfl rfl rfl (o_build_two Try.runUnderlying47 Try.sizeOf3 Try.zeroValue47 rfl rfl) ?_;refine go_op rfl rfl rfl (o_alloc_own Try.zeroValue47 (cs := [.i64 0, .i64 0]) rfl) ?_;rintro _ _ ⟨b1, rfl, rfl⟩;refine go_u rfl rfl (oSb 0 Try.sizeOf47 rfl rfl rfl rfl rfl rfl rfl rfl (nB rfl)) ?_;rintro _ _ rfl;refine go_ms (ms' := [box b1 47 [_, _], box b_q0 51 [_, _, _, _, _, _], _, _, _, _, box b_q0c4 70 [_, _], _, _]) rfl ?_;refine gNl (g_seq ?_);refine g_draw 7 Try_mixed (by decide +kernel) ?_;refine gd_p rfl rfl rfl (oMv rfl) ?_;refine gd_p rfl rfl rfl (o_nilCheck_box rfl) ?_;refine gd_p rfl rfl rfl (oFb fi_51_3 rfl) ?_;refine gd_p rfl rfl rfl (oLb 1 Try.isAgg43 rfl rfl rfl rfl) ?_;refine gd_p rfl rfl rfl (oLg 0 Try.isAgg47 Try.sizeOf47 rfl rfl rfl rfl (nB rfl)) ?_;refine gd_p rfl rfl rfl (o_lookupA (z0 := (false : Bool)) 5 Try.runUnderlying43 (keyStorePair Try.underlying47) Try.zeroValue4 (fun _ => conc_v.2 rfl) rfl rfl (key := (⟨a1, bv1⟩ : StorePair)) (keyStorePairv _) rfl) ?_;refine gd_p rfl rfl rfl (o_not rfl) ?_;refine gd_nil ?_;refine gNl ?_;refine gCd rfl (fun hc1 => ?_) (fun hc1 => ?_)
 ·replace hm := cond_t hc1 hm
  refine g_seq ?_;refine g_draw 5 Try_mixed (by decide +kernel) ?_;refine gd_p rfl rfl rfl (oMv rfl) ?_;refine gd_p rfl rfl rfl (o_nilCheck_box rfl) ?_;refine gd_p rfl rfl rfl (oFb fi_51_3 rfl) ?_;refine gd_p rfl rfl rfl (oLb 1 Try.isAgg43 rfl rfl rfl rfl) ?_;refine gd_p rfl rfl rfl (oLg 0 Try.isAgg47 Try.sizeOf47 rfl rfl rfl rfl (nB rfl)) ?_;refine gd_nil ?_;refine go_u rfl rfl (o_mapUpdateA (v := true) 5 Try.runUnderlying43 (keyStorePair Try.underlying47) rfl rfl (key := (⟨a1, bv1⟩ : StorePair)) (keyStorePairv _) rfl rfl) ?_;rintro _ _ rfl;refine gNl ?_;refine g_draw 6 Try_mixed (by decide +kernel) ?_;refine gd_p rfl rfl rfl (oMv rfl) ?_;refine gd_p rfl rfl rfl (o_nilCheck_box rfl) ?_;refine gd_p rfl rfl rfl (oFb fi_51_4 rfl) ?_;refine gd_p rfl rfl rfl (oLb 1 Try.isAgg44 rfl rfl rfl rfl) ?_;refine gd_p rfl rfl rfl (oLg 0 Try.isAgg47 Try.sizeOf47 rfl rfl rfl rfl (nB rfl)) ?_;refine gd_p rfl rfl rfl (o_buildSlice (xs := [_]) (f := StorePair.d) (l := [(⟨a1, bv1⟩ : StorePair)]) Try.runUnderlying68 Try.sizeOf47 Try.zeroValue47 rfl rfl rfl (fun _ => ⟨rfl, rfl, rfl⟩) rfl) ?_;refine gd_nil ?_;obtain ⟨s2, hx1, hm⟩ := bS hm;refine go_op rfl rfl rfl (o_call_own [6, 7, 8] Try.call27 rfl rfl (getL_c rfl (getL_c rfl (getL_c rfl getL_n))) (w_queue_Queue_store_pair_Push hx1) (by rintro _ _ ⟨_, _, _, rfl, rfl⟩; rfl)) ?_;rintro _ _ ⟨_, ⟨c_q0c4c0, a_q0c4c1, cap_q0c4c1, rfl, rfl⟩, rfl⟩;refine go_ms (ms' := [box b1 47 [_, _], box b_q0 51 [_, _, _, _, _, _], _, _, _, _, box b_q0c4 70 [_, _], _, _]) rfl ?_;refine gNl ?_;obtain rfl := some_eq hm;exact retKn (ret_none rfl (permA 1 rfl (permA 1 rfl (permA 1 rfl (permA 1 rfl (permA 1 rfl (permA 1 rfl (permA 1 rfl (permA 1 rfl permN))))))))) ⟨_, _, _, _, _, _, _, _, _, _, rfl, rfl⟩
 ·replace hm := cond_f hc1 hm
  refine gSp ?_;obtain rfl := some_eq hm;exact retKn (ret_none rfl (permA 1 rfl (permA 1 rfl (permA 1 rfl (permA 1 rfl (permA 1 rfl (permA 1 rfl (permA 1 rfl (permA 1 rfl permN))))))))) ⟨_, _, _, _, _, _, _, _, _, _, rfl, rfl⟩
theorem fi_56_0 : FieldIs Try.prog 56 0 0 1 false := ⟨⟨_, _, Try.runUnderlying56, rfl, rfl, Try.sizeOf3, by decide, Try.isAgg3⟩⟩
theorem fi_56_2 : FieldIs Try.prog 56 2 2 1 false := ⟨⟨_, _, Try.runUnderlying56, rfl, rfl, Try.sizeOf49, by decide, Try.isAgg49⟩⟩
theorem fi_56_1 : FieldIs Try.prog 56 1 1 1 false := ⟨⟨_, _, Try.runUnderlying56, rfl, rfl, Try.sizeOf49, by decide, Try.isAgg49⟩⟩
def m_store_Store_up_l1 (bv1 : Int) (x3 : StoreVariable) : Nat -> (Int × Bool × (List ANd) × (List StoreVariable) × (List Int) × (List (StorePair × Bool)) × (Nat × List StorePair) × (List StorePair)) -> Option (Bool × (List ANd) × (List StoreVariable) × (List Int) × (List (StorePair × Bool)) × (Nat × List StorePair) × (List StorePair))
 | 0, _ => none
 | n + 1, (x4, z2, l5, l6, l7, mm2, ch2, l8) =>
  bif (decide (x4 < (x3.below_.length : Int))) then
   (idx x3.below_ x4).bind fun x5 =>
   (m_store_Store_ask (⟨l5, l6, l7, mm2, (⟨ch2, l8⟩ : QueuePairs), z2⟩ : StoreStore) x5 bv1).bind fun s2 =>
   grd (InR (x4 + 1)) <|
   m_store_Store_up_l1 bv1 x3 n ((x4 + 1), s2.dead, s2.nodes, s2.vars, s2.levels, s2.seen, s2.wait.first, s2.wait.more)
  else
   some (z2, l5, l6, l7, mm2, ch2, l8)
def m_store_Store_up (s1 : StoreStore) (a1 : Int) (bv1 : Int)  : Option (Int × StoreStore) :=
 (idx s1.nodes a1).bind fun x1 =>
 grd (x1.kind = 11) <|
 (idx s1.vars x1.a).bind fun v1 =>
 (idx s1.levels bv1).bind fun x2 =>
 bif (decide (v1.level < x2)) then
  none
 else
  grd (v1.above = []) <|
  grd (([bv1] : List _).length * 8 <= 140737488355328) <|
  (idx (s1.vars.set (x1.a).toNat (⟨v1.level, v1.below_, [bv1]⟩ : StoreVariable)) x1.a).bind fun x3 =>
  (m_store_Store_up_l1 bv1 x3 FU (0, s1.dead, s1.nodes, (s1.vars.set (x1.a).toNat (⟨v1.level, v1.below_, [bv1]⟩ : StoreVariable)), s1.levels, s1.seen, s1.wait.first, s1.wait.more) : Option (Bool × (List ANd) × (List StoreVariable) × (List Int) × (List (StorePair × Bool)) × (Nat × List StorePair) × (List StorePair))).bind fun (z1, l1, l2, l3, mm1, ch1, l4) =>
  some (0, (⟨l1, l2, l3, mm1, (⟨ch1, l4⟩ : QueuePairs), z1⟩ : StoreStore))
theorem w_store_Store_up {s1 : StoreStore} {a1 : Int} {bv1 : Int}  {r_1 : Int} {s_1 : StoreStore} {b_q0 : Nat} {a_q0c0 : Option Addr} {cap_q0c0 : Nat} {a_q0c1 : Option Addr} {m_q0c1 : Nat} {cap_q0c1 : Nat} {a_q0c2 : Option Addr} {cap_q0c2 : Nat} {b_q0c3 : Nat} {b_q0c4 : Nat} {c_q0c4c0 : Nat} {a_q0c4c1 : Option Addr} {cap_q0c4c1 : Nat} (hm : m_store_Store_up s1 a1 bv1 = some (r_1, s_1)) : Go.V.Fn Try.prog 39 [.v (.pointer (some ⟨b_q0, 0, none⟩)), .i64 a1, .i64 bv1] [box b_q0 51 [.v (.slice a_q0c0 s1.nodes.length cap_q0c0), .v (.slice a_q0c1 m_q0c1 cap_q0c1), .v (.slice a_q0c2 s1.levels.length cap_q0c2), .v (.map (some b_q0c3)), .v (.pointer (some ⟨b_q0c4, 0, none⟩)), .bool s1.dead], row a_q0c0 cap_q0c0 54 4 ANd.d s1.nodes, arr a_q0c1 m_q0c1 cap_q0c1 56 3 StoreVariable.d s1.vars, row a_q0c2 cap_q0c2 3 1 D.i64 s1.levels, mp b_q0c3 kStorePair D.bool s1.seen, box b_q0c4 70 [.v (.chan (some c_q0c4c0)), .v (.slice a_q0c4c1 s1.wait.more.length cap_q0c4c1)], chn c_q0c4c0 s1.wait.first.1 StorePair.d s1.wait.first.2, que a_q0c4c1 cap_q0c4c1 47 2 StorePair.d s1.wait.more] (fun d ms' => ∃ a_s_1c0 cap_s_1c0 a_s_1c1 m_s_1c1 cap_s_1c1 a_s_1c2 cap_s_1c2 c_s_1c4c0 a_s_1c4c1 cap_s_1c4c1, d = .i64 r_1 /\ ms' = [box b_q0 51 [.v (.slice a_s_1c0 s_1.nodes.length cap_s_1c0), .v (.slice a_s_1c1 m_s_1c1 cap_s_1c1), .v (.slice a_s_1c2 s_1.levels.length cap_s_1c2), .v (.map (some b_q0c3)), .v (.pointer (some ⟨b_q0c4, 0, none⟩)), .bool s_1.dead], row a_s_1c0 cap_s_1c0 54 4 ANd.d s_1.nodes, arr a_s_1c1 m_s_1c1 cap_s_1c1 56 3 StoreVariable.d s_1.vars, row a_s_1c2 cap_s_1c2 3 1 D.i64 s_1.levels, mp b_q0c3 kStorePair D.bool s_1.seen, box b_q0c4 70 [.v (.chan (some c_s_1c4c0)), .v (.slice a_s_1c4c1 s_1.wait.more.length cap_s_1c4c1)], chn c_s_1c4c0 s_1.wait.first.1 StorePair.d s_1.wait.first.2, que a_s_1c4c1 cap_s_1c4c1 47 2 StorePair.d s_1.wait.more]) := by
 unfold m_store_Store_up at hm;refine fn_intro Try.func39 rfl Try.ntmps39 rfl fun H0 fr w0 => ?_;refine g_seq (gRg ?_);refine go_p rfl rfl rfl (oAs rfl) ?_;refine gNl (g_seq (gRg ?_));refine go_p rfl rfl rfl (oMv rfl) ?_;refine go_p rfl rfl rfl (oMv rfl) ?_;obtain ⟨x1, hx1, hm⟩ := bS hm;obtain ⟨hg2, hm⟩ := grd_some hm;obtain ⟨v1, hx3, hm⟩ := bS hm;refine go_p rfl rfl rfl (o_call_own_p [0, 1, 2, 3, 4, 5, 6, 7] Try.call46 rfl rfl (getL_c rfl (getL_c rfl (getL_c rfl (getL_c rfl (getL_c rfl (getL_c rfl (getL_c rfl (getL_c rfl getL_n)))))))) (w_variableOf hx1 hg2 hx3)) ?_;refine go_p rfl rfl rfl (oMv rfl) ?_;refine go_p rfl rfl rfl (o_extract rfl rfl) ?_;refine go_p rfl rfl rfl (o_extract rfl rfl) ?_;refine go_p rfl rfl rfl (oAs rfl) ?_;refine go_p rfl rfl rfl (oAs rfl) ?_;refine gNl (g_seq (g_seq ?_));obtain ⟨x2, hx4, hm⟩ := bS hm;refine g_draw 12 Try_mixed (by decide +kernel) ?_;refine gd_p rfl rfl rfl (oMv rfl) ?_;refine gd_p rfl rfl rfl (o_nilCheck_box rfl) ?_;refine gd_p rfl rfl rfl (oFb fi_51_2 rfl) ?_;refine gd_p rfl rfl rfl (oLb 0 Try.isAgg49 rfl rfl rfl rfl) ?_;refine gd_p rfl rfl rfl (oMv rfl) ?_;refine gd_p rfl rfl rfl (.view (peekE (i := 22) 3 rfl rfl rfl) (oIm Try.runUnderlying49 Try.sizeOf3 rfl rfl hx4)) ?_;refine gd_p rfl rfl rfl (o_load Try.isAgg3 rfl rfl) ?_;refine gd_p rfl rfl rfl (oMv rfl) ?_;refine gd_p rfl rfl rfl (o_nilCheck_apt 2 rfl rfl (idx_some hx3).2) ?_;refine gd_p rfl rfl rfl (o_fieldAddr_apt (b := 0) 2 fi_56_0 rfl rfl (idx_some hx3).2) ?_;refine gd_p rfl rfl rfl (o_load_arr (off := 0) 2 Try.isAgg3 rfl rfl (idx_some hx3).2 rfl (StoreVariable.ok _).2.2.1 rfl) ?_;refine gd_p rfl rfl rfl (o_cmp rfl rfl rfl) ?_;refine gd_nil ?_;refine gNl ?_;refine gCd rfl (fun hc1 => ?_) (fun hc1 => ?_)
 ·replace hm := cond_t hc1 hm
  refine g_seq (gRg ?_);refine go_p rfl rfl rfl (oMv rfl) ?_;refine go_p rfl rfl rfl (oMv rfl) ?_;refine go_p rfl rfl rfl (oMv rfl) ?_;refine go_p rfl rfl rfl (o_nilCheck_apt 2 rfl rfl (idx_some hx3).2) ?_;refine go_p rfl rfl rfl (o_fieldAddr_apt (b := 0) 2 fi_56_0 rfl rfl (idx_some hx3).2) ?_;refine go_p rfl rfl rfl (o_load_arr (off := 0) 2 Try.isAgg3 rfl rfl (idx_some hx3).2 rfl (StoreVariable.ok _).2.2.1 rfl) ?_
  cases hm
 ·replace hm := cond_f hc1 hm
  refine gSp (g_seq (gRg ?_));refine go_p rfl rfl rfl (oMv rfl) ?_;refine go_p rfl rfl rfl (oMv rfl) ?_;refine go_p rfl rfl rfl (o_nilCheck_apt 2 rfl rfl (idx_some hx3).2) ?_;refine go_p rfl rfl rfl (o_fieldAddr_apt (b := 0) 2 fi_56_2 rfl rfl (idx_some hx3).2) ?_;refine go_p rfl rfl rfl (o_load_arr (off := 2) 2 Try.isAgg49 rfl rfl (idx_some hx3).2 rfl (StoreVariable.ok _).2.2.1 rfl) ?_;refine go_p rfl rfl rfl (oMv rfl) ?_;refine go_p rfl rfl rfl (o_buildSlice (xs := [_]) (f := D.i64) (l := [_]) Try.runUnderlying49 Try.sizeOf3 Try.zeroValue3 rfl rfl rfl (fun _ => ⟨rfl, rfl, rfl⟩) rfl) ?_;obtain ⟨hg5, hm⟩ := grd_some hm;obtain ⟨hg6, hm⟩ := grd_some hm;refine go_op rfl rfl rfl (o_append_nz Try.underlying49 Try.type3 rfl rfl rfl rfl hg5 rfl (fun _ => rfl) (fun _ => rfl) hg6 (app_len0 hg6 rfl)) ?_;rintro _ _ ⟨a_r1, cap_r1, rfl, rfl⟩;refine go_ms (ms' := [_, box b_q0 51 [_, _, _, _, _, _], _, _, _, _, box b_q0c4 70 [_, _], _, _]) rfl ?_;refine go_p rfl rfl rfl (o_nilCheck_apt 3 rfl rfl (idx_some hx3).2) ?_;refine go_p rfl rfl rfl (o_fieldAddr_apt (b := 0) 3 fi_56_2 rfl rfl (idx_some hx3).2) ?_;refine go_u rfl rfl (.view (peekE (i := 55) 0 rfl rfl rfl) (o_store_arr (off := 2) (z' := (⟨v1.level, v1.below_, [bv1]⟩ : StoreVariable)) 3 Try.sizeOf49 rfl rfl (idx_some hx3).2 rfl rfl rfl rfl rfl rfl (nB rfl) (StoreVariable.ok _).2.2.1 rfl)) ?_;rintro _ _ rfl;refine go_ms (ms' := [_, box b_q0 51 [_, _, _, _, _, _], _, _, _, _, box b_q0c4 70 [_, _], _, _]) rfl ?_;refine gNl (g_seq (g_seq (gRg ?_)));refine go_p rfl rfl rfl (oMv rfl) ?_;obtain ⟨x3, hx7, hm⟩ := bS hm;refine go_p rfl rfl rfl (o_nilCheck_apt 3 rfl rfl (idx_some hx7).2) ?_;refine go_p rfl rfl rfl (o_fieldAddr_apt (b := 0) 3 fi_56_1 rfl rfl (idx_some hx7).2) ?_;refine go_p rfl rfl rfl (o_load_arr (off := 1) 3 Try.isAgg49 rfl rfl (idx_some hx7).2 rfl (StoreVariable.ok _).2.2.1 rfl) ?_;refine go_p rfl rfl rfl (o_len_nz Try.runUnderlying49 rfl) ?_;refine go_p rfl rfl rfl (oMv rfl) ?_;refine gNl ?_;obtain ⟨o_1, hj1, hm1⟩ := bS hm;refine g_cut_m [] [(0, _)] (fun (st : (Bool × (List ANd) × (List StoreVariable) × (List Int) × (List (StorePair × Bool)) × (Nat × List StorePair) × (List StorePair))) (hid : (Option Addr × Nat) × (Option Addr × Nat × Nat) × (Option Addr × Nat) × Nat × (Option Addr × Nat)) => match st, hid with | (z1, l1, l2, l3, mm1, ch1, l4), ((a_q0c0, cap_q0c0), (a_q0c1, m_q0c1, cap_q0c1), (a_q0c2, cap_q0c2), c_q0c4c0, (a_q0c4c1, cap_q0c4c1)) => []) (fun F (st : (Bool × (List ANd) × (List StoreVariable) × (List Int) × (List (StorePair × Bool)) × (Nat × List StorePair) × (List StorePair))) (hid : (Option Addr × Nat) × (Option Addr × Nat × Nat) × (Option Addr × Nat) × Nat × (Option Addr × Nat)) => match st, hid with | (z1, l1, l2, l3, mm1, ch1, l4), ((a_q0c0, cap_q0c0), (a_q0c1, m_q0c1, cap_q0c1), (a_q0c2, cap_q0c2), c_q0c4c0, (a_q0c4c1, cap_q0c4c1)) => [(nthF F 0), box b_q0 51 [.v (.slice a_q0c0 l1.length cap_q0c0), .v (.slice a_q0c1 m_q0c1 cap_q0c1), .v (.slice a_q0c2 l3.length cap_q0c2), .v (.map (some b_q0c3)), .v (.pointer (some ⟨b_q0c4, 0, none⟩)), .bool z1], row a_q0c0 cap_q0c0 54 4 ANd.d l1, arr a_q0c1 m_q0c1 cap_q0c1 56 3 StoreVariable.d l2, row a_q0c2 cap_q0c2 3 1 D.i64 l3, mp b_q0c3 kStorePair D.bool mm1, box b_q0c4 70 [.v (.chan (some c_q0c4c0)), .v (.slice a_q0c4c1 l4.length cap_q0c4c1)], chn c_q0c4c0 ch1.1 StorePair.d ch1.2, que a_q0c4c1 cap_q0c4c1 47 2 StorePair.d l4]) (fun st => st = o_1) trivial ⟨rfl, trivial⟩ ?_ ?_
  ·skip
   refine g_block ?_;refine g_loop_m [(0, _), (2, _), (61, _), (62, _)] [(0, _)] (fun (st : (Int × Bool × (List ANd) × (List StoreVariable) × (List Int) × (List (StorePair × Bool)) × (Nat × List StorePair) × (List StorePair))) (hid : (Option Addr × Nat) × (Option Addr × Nat × Nat) × (Option Addr × Nat) × Nat × (Option Addr × Nat)) => match st, hid with | (x4, z2, l5, l6, l7, mm2, ch2, l8), ((a_q0c0, cap_q0c0), (a_q0c1, m_q0c1, cap_q0c1), (a_q0c2, cap_q0c2), c_q0c4c0, (a_q0c4c1, cap_q0c4c1)) => [(63, .i64 x4)]) (fun F (st : (Int × Bool × (List ANd) × (List StoreVariable) × (List Int) × (List (StorePair × Bool)) × (Nat × List StorePair) × (List StorePair))) (hid : (Option Addr × Nat) × (Option Addr × Nat × Nat) × (Option Addr × Nat) × Nat × (Option Addr × Nat)) => match st, hid with | (x4, z2, l5, l6, l7, mm2, ch2, l8), ((a_q0c0, cap_q0c0), (a_q0c1, m_q0c1, cap_q0c1), (a_q0c2, cap_q0c2), c_q0c4c0, (a_q0c4c1, cap_q0c4c1)) => [(nthF F 0), box b_q0 51 [.v (.slice a_q0c0 l5.length cap_q0c0), .v (.slice a_q0c1 m_q0c1 cap_q0c1), .v (.slice a_q0c2 l7.length cap_q0c2), .v (.map (some b_q0c3)), .v (.pointer (some ⟨b_q0c4, 0, none⟩)), .bool z2], row a_q0c0 cap_q0c0 54 4 ANd.d l5, arr a_q0c1 m_q0c1 cap_q0c1 56 3 StoreVariable.d l6, row a_q0c2 cap_q0c2 3 1 D.i64 l7, mp b_q0c3 kStorePair D.bool mm2, box b_q0c4 70 [.v (.chan (some c_q0c4c0)), .v (.slice a_q0c4c1 l8.length cap_q0c4c1)], chn c_q0c4c0 ch2.1 StorePair.d ch2.2, que a_q0c4c1 cap_q0c4c1 47 2 StorePair.d l8]) ((_, _), (_, _, _), (_, _), _, (_, _)) hj1 (fun _ => rfl) ⟨rfl, rfl, rfl, rfl, trivial⟩ ⟨rfl, trivial⟩ ⟨rfl, trivial⟩ rfl ?_;rintro n ⟨x4, z2, l5, l6, l7, mm2, ch2, l8⟩ ⟨⟨a_q0c0, cap_q0c0⟩, ⟨a_q0c1, m_q0c1, cap_q0c1⟩, ⟨a_q0c2, cap_q0c2⟩, c_q0c4c0, ⟨a_q0c4c1, cap_q0c4c1⟩⟩ hj1;rw [m_store_Store_up_l1] at hj1;refine g_norm (L' := [(63, .i64 x4), (0, _), (2, _), (61, _), (62, _)]) (ms' := [_, box b_q0 51 [.v (.slice a_q0c0 l5.length cap_q0c0), .v (.slice a_q0c1 m_q0c1 cap_q0c1), .v (.slice a_q0c2 l7.length cap_q0c2), .v (.map (some b_q0c3)), .v (.pointer (some ⟨b_q0c4, 0, none⟩)), .bool z2], row a_q0c0 cap_q0c0 54 4 ANd.d l5, arr a_q0c1 m_q0c1 cap_q0c1 56 3 StoreVariable.d l6, row a_q0c2 cap_q0c2 3 1 D.i64 l7, mp b_q0c3 kStorePair D.bool mm2, box b_q0c4 70 [.v (.chan (some c_q0c4c0)), .v (.slice a_q0c4c1 l8.length cap_q0c4c1)], chn c_q0c4c0 ch2.1 StorePair.d ch2.2, que a_q0c4c1 cap_q0c4c1 47 2 StorePair.d l8]) rfl rfl ?_;refine g_seq (gRg ?_);refine go_p rfl rfl rfl (o_cmp rfl rfl rfl) ?_;refine gNl (g_seq ?_);refine gCd rfl (fun hc2 => ?_) (fun hc2 => ?_)
   ·replace hj1 := cond_t hc2 hj1
    refine gSp (g_seq (g_block (g_seq (gRg ?_))));obtain ⟨x5, hx8, hj1⟩ := bS hj1;refine go_p rfl rfl rfl (o_indexAddr_nz Try.runUnderlying49 Try.sizeOf3 rfl rfl hx8) ?_;refine go_p rfl rfl rfl (o_load Try.isAgg3 rfl rfl) ?_;refine go_p rfl rfl rfl (oAs rfl) ?_;refine gNl (gRg ?_);refine go_p rfl rfl rfl (oMv rfl) ?_;refine go_p rfl rfl rfl (oMv rfl) ?_;refine go_p rfl rfl rfl (oMv rfl) ?_;obtain ⟨s2, hx9, hj1⟩ := bS hj1;refine go_op rfl rfl rfl (o_call_own [1, 2, 3, 4, 5, 6, 7, 8] Try.call19 rfl rfl (getL_c rfl (getL_c rfl (getL_c rfl (getL_c rfl (getL_c rfl (getL_c rfl (getL_c rfl (getL_c rfl getL_n)))))))) (w_store_Store_ask hx9) (by rintro _ _ ⟨_, _, _, _, _, _, _, _, _, _, rfl, rfl⟩; rfl)) ?_;rintro _ _ ⟨_, ⟨a_q0c0, cap_q0c0, a_q0c1, m_q0c1, cap_q0c1, a_q0c2, cap_q0c2, c_q0c4c0, a_q0c4c1, cap_q0c4c1, rfl, rfl⟩, rfl⟩;refine go_ms (ms' := [_, box b_q0 51 [_, _, _, _, _, _], _, _, _, _, box b_q0c4 70 [_, _], _, _]) rfl ?_;refine gNl (gRg ?_);obtain ⟨hg10, hj1⟩ := grd_some hj1;refine go_p rfl rfl rfl (o_add rfl rfl (i64_id hg10)) ?_;refine go_p rfl rfl rfl (oMv rfl) ?_;refine gNl ?_;exact ⟨_, ((_, _), (_, _, _), (_, _), _, (_, _)), hj1, ⟨rfl, trivial⟩, ⟨rfl, rfl, rfl, rfl, trivial⟩, [], rfl⟩
   ·replace hj1 := cond_f hc2 hj1
    refine g_exit ?_;exact ⟨_, ((_, _), (_, _, _), (_, _), _, (_, _)), some_eq hj1, trivial, trivial, [], rfl⟩
  ·rintro ⟨z1, l1, l2, l3, mm1, ch1, l4⟩ ⟨⟨a_q0c0, cap_q0c0⟩, ⟨a_q0c1, m_q0c1, cap_q0c1⟩, ⟨a_q0c2, cap_q0c2⟩, c_q0c4c0, ⟨a_q0c4c1, cap_q0c4c1⟩⟩ hst
   subst hst;refine k_norm (L' := []) (ms' := [_, box b_q0 51 [.v (.slice a_q0c0 l1.length cap_q0c0), .v (.slice a_q0c1 m_q0c1 cap_q0c1), .v (.slice a_q0c2 l3.length cap_q0c2), .v (.map (some b_q0c3)), .v (.pointer (some ⟨b_q0c4, 0, none⟩)), .bool z1], row a_q0c0 cap_q0c0 54 4 ANd.d l1, arr a_q0c1 m_q0c1 cap_q0c1 56 3 StoreVariable.d l2, row a_q0c2 cap_q0c2 3 1 D.i64 l3, mp b_q0c3 kStorePair D.bool mm1, box b_q0c4 70 [.v (.chan (some c_q0c4c0)), .v (.slice a_q0c4c1 l4.length cap_q0c4c1)], chn c_q0c4c0 ch1.1 StorePair.d ch1.2, que a_q0c4c1 cap_q0c4c1 47 2 StorePair.d l4]) rfl rfl ?_;refine g_seq (gRg ?_);refine go_p rfl rfl rfl (oAs rfl) ?_;refine gNl (g_ret ?_)
   have hq1 := some_eq hm1
   obtain ⟨rfl, rfl⟩ := Prod.mk.inj hq1;exact retK (ret_one' rfl (ret_tmp rfl) (permA 1 rfl (permA 1 rfl (permA 1 rfl (permA 1 rfl (permA 1 rfl (permA 1 rfl (permA 1 rfl (permA 1 rfl permN))))))))) ⟨_, _, _, _, _, _, _, _, _, _, rfl, rfl⟩
def m_store_Store_down_l1 (a1 : Int) (x3 : StoreVariable) : Nat -> (Int × Bool × (List ANd) × (List StoreVariable) × (List Int) × (List (StorePair × Bool)) × (Nat × List StorePair) × (List StorePair)) -> Option (Bool × (List ANd) × (List StoreVariable) × (List Int) × (List (StorePair × Bool)) × (Nat × List StorePair) × (List StorePair))
 | 0, _ => none
 | n + 1, (x4, z2, l5, l6, l7, mm2, ch2, l8) =>
  bif (decide (x4 < (x3.above.length : Int))) then
   (idx x3.above x4).bind fun x5 =>
   (m_store_Store_ask (⟨l5, l6, l7, mm2, (⟨ch2, l8⟩ : QueuePairs), z2⟩ : StoreStore) a1 x5).bind fun s2 =>
   grd (InR (x4 + 1)) <|
   m_store_Store_down_l1 a1 x3 n ((x4 + 1), s2.dead, s2.nodes, s2.vars, s2.levels, s2.seen, s2.wait.first, s2.wait.more)
  else
   some (z2, l5, l6, l7, mm2, ch2, l8)
def m_store_Store_down (s1 : StoreStore) (a1 : Int) (bv1 : Int)  : Option (Int × StoreStore) :=
 (idx s1.nodes bv1).bind fun x1 =>
 grd (x1.kind = 11) <|
 (idx s1.vars x1.a).bind fun v1 =>
 (idx s1.levels a1).bind fun x2 =>
 bif (decide (v1.level < x2)) then
  none
 else
  grd (v1.below_ = []) <|
  grd (([a1] : List _).length * 8 <= 140737488355328) <|
  (idx (s1.vars.set (x1.a).toNat (⟨v1.level, [a1], v1.above⟩ : StoreVariable)) x1.a).bind fun x3 =>
  (m_store_Store_down_l1 a1 x3 FU (0, s1.dead, s1.nodes, (s1.vars.set (x1.a).toNat (⟨v1.level, [a1], v1.above⟩ : StoreVariable)), s1.levels, s1.seen, s1.wait.first, s1.wait.more) : Option (Bool × (List ANd) × (List StoreVariable) × (List Int) × (List (StorePair × Bool)) × (Nat × List StorePair) × (List StorePair))).bind fun (z1, l1, l2, l3, mm1, ch1, l4) =>
  some (0, (⟨l1, l2, l3, mm1, (⟨ch1, l4⟩ : QueuePairs), z1⟩ : StoreStore))
theorem w_store_Store_down {s1 : StoreStore} {a1 : Int} {bv1 : Int}  {r_1 : Int} {s_1 : StoreStore} {b_q0 : Nat} {a_q0c0 : Option Addr} {cap_q0c0 : Nat} {a_q0c1 : Option Addr} {m_q0c1 : Nat} {cap_q0c1 : Nat} {a_q0c2 : Option Addr} {cap_q0c2 : Nat} {b_q0c3 : Nat} {b_q0c4 : Nat} {c_q0c4c0 : Nat} {a_q0c4c1 : Option Addr} {cap_q0c4c1 : Nat} (hm : m_store_Store_down s1 a1 bv1 = some (r_1, s_1)) : Go.V.Fn Try.prog 40 [.v (.pointer (some ⟨b_q0, 0, none⟩)), .i64 a1, .i64 bv1] [box b_q0 51 [.v (.slice a_q0c0 s1.nodes.length cap_q0c0), .v (.slice a_q0c1 m_q0c1 cap_q0c1), .v (.slice a_q0c2 s1.levels.length cap_q0c2), .v (.map (some b_q0c3)), .v (.pointer (some ⟨b_q0c4, 0, none⟩)), .bool s1.dead], row a_q0c0 cap_q0c0 54 4 ANd.d s1.nodes, arr a_q0c1 m_q0c1 cap_q0c1 56 3 StoreVariable.d s1.vars, row a_q0c2 cap_q0c2 3 1 D.i64 s1.levels, mp b_q0c3 kStorePair D.bool s1.seen, box b_q0c4 70 [.v (.chan (some c_q0c4c0)), .v (.slice a_q0c4c1 s1.wait.more.length cap_q0c4c1)], chn c_q0c4c0 s1.wait.first.1 StorePair.d s1.wait.first.2, que a_q0c4c1 cap_q0c4c1 47 2 StorePair.d s1.wait.more] (fun d ms' => ∃ a_s_1c0 cap_s_1c0 a_s_1c1 m_s_1c1 cap_s_1c1 a_s_1c2 cap_s_1c2 c_s_1c4c0 a_s_1c4c1 cap_s_1c4c1, d = .i64 r_1 /\ ms' = [box b_q0 51 [.v (.slice a_s_1c0 s_1.nodes.length cap_s_1c0), .v (.slice a_s_1c1 m_s_1c1 cap_s_1c1), .v (.slice a_s_1c2 s_1.levels.length cap_s_1c2), .v (.map (some b_q0c3)), .v (.pointer (some ⟨b_q0c4, 0, none⟩)), .bool s_1.dead], row a_s_1c0 cap_s_1c0 54 4 ANd.d s_1.nodes, arr a_s_1c1 m_s_1c1 cap_s_1c1 56 3 StoreVariable.d s_1.vars, row a_s_1c2 cap_s_1c2 3 1 D.i64 s_1.levels, mp b_q0c3 kStorePair D.bool s_1.seen, box b_q0c4 70 [.v (.chan (some c_s_1c4c0)), .v (.slice a_s_1c4c1 s_1.wait.more.length cap_s_1c4c1)], chn c_s_1c4c0 s_1.wait.first.1 StorePair.d s_1.wait.first.2, que a_s_1c4c1 cap_s_1c4c1 47 2 StorePair.d s_1.wait.more]) := by
 unfold m_store_Store_down at hm;refine fn_intro Try.func40 rfl Try.ntmps40 rfl fun H0 fr w0 => ?_;refine g_seq (gRg ?_);refine go_p rfl rfl rfl (oAs rfl) ?_;refine gNl (g_seq (gRg ?_));refine go_p rfl rfl rfl (oMv rfl) ?_;refine go_p rfl rfl rfl (oMv rfl) ?_;obtain ⟨x1, hx1, hm⟩ := bS hm;obtain ⟨hg2, hm⟩ := grd_some hm;obtain ⟨v1, hx3, hm⟩ := bS hm;refine go_p rfl rfl rfl (o_call_own_p [0, 1, 2, 3, 4, 5, 6, 7] Try.call46 rfl rfl (getL_c rfl (getL_c rfl (getL_c rfl (getL_c rfl (getL_c rfl (getL_c rfl (getL_c rfl (getL_c rfl getL_n)))))))) (w_variableOf hx1 hg2 hx3)) ?_;refine go_p rfl rfl rfl (oMv rfl) ?_;refine go_p rfl rfl rfl (o_extract rfl rfl) ?_;refine go_p rfl rfl rfl (o_extract rfl rfl) ?_;refine go_p rfl rfl rfl (oAs rfl) ?_;refine go_p rfl rfl rfl (oAs rfl) ?_;refine gNl (g_seq (g_seq ?_));obtain ⟨x2, hx4, hm⟩ := bS hm;refine g_draw 12 Try_mixed (by decide +kernel) ?_;refine gd_p rfl rfl rfl (oMv rfl) ?_;refine gd_p rfl rfl rfl (o_nilCheck_box rfl) ?_;refine gd_p rfl rfl rfl (oFb fi_51_2 rfl) ?_;refine gd_p rfl rfl rfl (oLb 0 Try.isAgg49 rfl rfl rfl rfl) ?_;refine gd_p rfl rfl rfl (oMv rfl) ?_;refine gd_p rfl rfl rfl (.view (peekE (i := 22) 3 rfl rfl rfl) (oIm Try.runUnderlying49 Try.sizeOf3 rfl rfl hx4)) ?_;refine gd_p rfl rfl rfl (o_load Try.isAgg3 rfl rfl) ?_;refine gd_p rfl rfl rfl (oMv rfl) ?_;refine gd_p rfl rfl rfl (o_nilCheck_apt 2 rfl rfl (idx_some hx3).2) ?_;refine gd_p rfl rfl rfl (o_fieldAddr_apt (b := 0) 2 fi_56_0 rfl rfl (idx_some hx3).2) ?_;refine gd_p rfl rfl rfl (o_load_arr (off := 0) 2 Try.isAgg3 rfl rfl (idx_some hx3).2 rfl (StoreVariable.ok _).2.2.1 rfl) ?_;refine gd_p rfl rfl rfl (o_cmp rfl rfl rfl) ?_;refine gd_nil ?_;refine gNl ?_;refine gCd rfl (fun hc1 => ?_) (fun hc1 => ?_)
 ·replace hm := cond_t hc1 hm
  refine g_seq (gRg ?_);refine go_p rfl rfl rfl (oMv rfl) ?_;refine go_p rfl rfl rfl (oMv rfl) ?_;refine go_p rfl rfl rfl (oMv rfl) ?_;refine go_p rfl rfl rfl (o_nilCheck_apt 2 rfl rfl (idx_some hx3).2) ?_;refine go_p rfl rfl rfl (o_fieldAddr_apt (b := 0) 2 fi_56_0 rfl rfl (idx_some hx3).2) ?_;refine go_p rfl rfl rfl (o_load_arr (off := 0) 2 Try.isAgg3 rfl rfl (idx_some hx3).2 rfl (StoreVariable.ok _).2.2.1 rfl) ?_
  cases hm
 ·replace hm := cond_f hc1 hm
  refine gSp (g_seq (gRg ?_));refine go_p rfl rfl rfl (oMv rfl) ?_;refine go_p rfl rfl rfl (oMv rfl) ?_;refine go_p rfl rfl rfl (o_nilCheck_apt 2 rfl rfl (idx_some hx3).2) ?_;refine go_p rfl rfl rfl (o_fieldAddr_apt (b := 0) 2 fi_56_1 rfl rfl (idx_some hx3).2) ?_;refine go_p rfl rfl rfl (o_load_arr (off := 1) 2 Try.isAgg49 rfl rfl (idx_some hx3).2 rfl (StoreVariable.ok _).2.2.1 rfl) ?_;refine go_p rfl rfl rfl (oMv rfl) ?_;refine go_p rfl rfl rfl (o_buildSlice (xs := [_]) (f := D.i64) (l := [_]) Try.runUnderlying49 Try.sizeOf3 Try.zeroValue3 rfl rfl rfl (fun _ => ⟨rfl, rfl, rfl⟩) rfl) ?_;obtain ⟨hg5, hm⟩ := grd_some hm;obtain ⟨hg6, hm⟩ := grd_some hm;refine go_op rfl rfl rfl (o_append_nz Try.underlying49 Try.type3 rfl rfl rfl rfl hg5 rfl (fun _ => rfl) (fun _ => rfl) hg6 (app_len0 hg6 rfl)) ?_;rintro _ _ ⟨a_r1, cap_r1, rfl, rfl⟩;refine go_ms (ms' := [_, box b_q0 51 [_, _, _, _, _, _], _, _, _, _, box b_q0c4 70 [_, _], _, _]) rfl ?_;refine go_p rfl rfl rfl (o_nilCheck_apt 3 rfl rfl (idx_some hx3).2) ?_;refine go_p rfl rfl rfl (o_fieldAddr_apt (b := 0) 3 fi_56_1 rfl rfl (idx_some hx3).2) ?_;refine go_u rfl rfl (.view (peekE (i := 55) 0 rfl rfl rfl) (o_store_arr (off := 1) (z' := (⟨v1.level, [a1], v1.above⟩ : StoreVariable)) 3 Try.sizeOf49 rfl rfl (idx_some hx3).2 rfl rfl rfl rfl rfl rfl (nB rfl) (StoreVariable.ok _).2.2.1 rfl)) ?_;rintro _ _ rfl;refine go_ms (ms' := [_, box b_q0 51 [_, _, _, _, _, _], _, _, _, _, box b_q0c4 70 [_, _], _, _]) rfl ?_;refine gNl (g_seq (g_seq (gRg ?_)));refine go_p rfl rfl rfl (oMv rfl) ?_;obtain ⟨x3, hx7, hm⟩ := bS hm;refine go_p rfl rfl rfl (o_nilCheck_apt 3 rfl rfl (idx_some hx7).2) ?_;refine go_p rfl rfl rfl (o_fieldAddr_apt (b := 0) 3 fi_56_2 rfl rfl (idx_some hx7).2) ?_;refine go_p rfl rfl rfl (o_load_arr (off := 2) 3 Try.isAgg49 rfl rfl (idx_some hx7).2 rfl (StoreVariable.ok _).2.2.1 rfl) ?_;refine go_p rfl rfl rfl (o_len_nz Try.runUnderlying49 rfl) ?_;refine go_p rfl rfl rfl (oMv rfl) ?_;refine gNl ?_;obtain ⟨o_1, hj1, hm1⟩ := bS hm;refine g_cut_m [] [(0, _)] (fun (st : (Bool × (List ANd) × (List StoreVariable) × (List Int) × (List (StorePair × Bool)) × (Nat × List StorePair) × (List StorePair))) (hid : (Option Addr × Nat) × (Option Addr × Nat × Nat) × (Option Addr × Nat) × Nat × (Option Addr × Nat)) => match st, hid with | (z1, l1, l2, l3, mm1, ch1, l4), ((a_q0c0, cap_q0c0), (a_q0c1, m_q0c1, cap_q0c1), (a_q0c2, cap_q0c2), c_q0c4c0, (a_q0c4c1, cap_q0c4c1)) => []) (fun F (st : (Bool × (List ANd) × (List StoreVariable) × (List Int) × (List (StorePair × Bool)) × (Nat × List StorePair) × (List StorePair))) (hid : (Option Addr × Nat) × (Option Addr × Nat × Nat) × (Option Addr × Nat) × Nat × (Option Addr × Nat)) => match st, hid with | (z1, l1, l2, l3, mm1, ch1, l4), ((a_q0c0, cap_q0c0), (a_q0c1, m_q0c1, cap_q0c1), (a_q0c2, cap_q0c2), c_q0c4c0, (a_q0c4c1, cap_q0c4c1)) => [(nthF F 0), box b_q0 51 [.v (.slice a_q0c0 l1.length cap_q0c0), .v (.slice a_q0c1 m_q0c1 cap_q0c1), .v (.slice a_q0c2 l3.length cap_q0c2), .v (.map (some b_q0c3)), .v (.pointer (some ⟨b_q0c4, 0, none⟩)), .bool z1], row a_q0c0 cap_q0c0 54 4 ANd.d l1, arr a_q0c1 m_q0c1 cap_q0c1 56 3 StoreVariable.d l2, row a_q0c2 cap_q0c2 3 1 D.i64 l3, mp b_q0c3 kStorePair D.bool mm1, box b_q0c4 70 [.v (.chan (some c_q0c4c0)), .v (.slice a_q0c4c1 l4.length cap_q0c4c1)], chn c_q0c4c0 ch1.1 StorePair.d ch1.2, que a_q0c4c1 cap_q0c4c1 47 2 StorePair.d l4]) (fun st => st = o_1) trivial ⟨rfl, trivial⟩ ?_ ?_
  ·skip
   refine g_block ?_;refine g_loop_m [(0, _), (1, _), (61, _), (62, _)] [(0, _)] (fun (st : (Int × Bool × (List ANd) × (List StoreVariable) × (List Int) × (List (StorePair × Bool)) × (Nat × List StorePair) × (List StorePair))) (hid : (Option Addr × Nat) × (Option Addr × Nat × Nat) × (Option Addr × Nat) × Nat × (Option Addr × Nat)) => match st, hid with | (x4, z2, l5, l6, l7, mm2, ch2, l8), ((a_q0c0, cap_q0c0), (a_q0c1, m_q0c1, cap_q0c1), (a_q0c2, cap_q0c2), c_q0c4c0, (a_q0c4c1, cap_q0c4c1)) => [(63, .i64 x4)]) (fun F (st : (Int × Bool × (List ANd) × (List StoreVariable) × (List Int) × (List (StorePair × Bool)) × (Nat × List StorePair) × (List StorePair))) (hid : (Option Addr × Nat) × (Option Addr × Nat × Nat) × (Option Addr × Nat) × Nat × (Option Addr × Nat)) => match st, hid with | (x4, z2, l5, l6, l7, mm2, ch2, l8), ((a_q0c0, cap_q0c0), (a_q0c1, m_q0c1, cap_q0c1), (a_q0c2, cap_q0c2), c_q0c4c0, (a_q0c4c1, cap_q0c4c1)) => [(nthF F 0), box b_q0 51 [.v (.slice a_q0c0 l5.length cap_q0c0), .v (.slice a_q0c1 m_q0c1 cap_q0c1), .v (.slice a_q0c2 l7.length cap_q0c2), .v (.map (some b_q0c3)), .v (.pointer (some ⟨b_q0c4, 0, none⟩)), .bool z2], row a_q0c0 cap_q0c0 54 4 ANd.d l5, arr a_q0c1 m_q0c1 cap_q0c1 56 3 StoreVariable.d l6, row a_q0c2 cap_q0c2 3 1 D.i64 l7, mp b_q0c3 kStorePair D.bool mm2, box b_q0c4 70 [.v (.chan (some c_q0c4c0)), .v (.slice a_q0c4c1 l8.length cap_q0c4c1)], chn c_q0c4c0 ch2.1 StorePair.d ch2.2, que a_q0c4c1 cap_q0c4c1 47 2 StorePair.d l8]) ((_, _), (_, _, _), (_, _), _, (_, _)) hj1 (fun _ => rfl) ⟨rfl, rfl, rfl, rfl, trivial⟩ ⟨rfl, trivial⟩ ⟨rfl, trivial⟩ rfl ?_;rintro n ⟨x4, z2, l5, l6, l7, mm2, ch2, l8⟩ ⟨⟨a_q0c0, cap_q0c0⟩, ⟨a_q0c1, m_q0c1, cap_q0c1⟩, ⟨a_q0c2, cap_q0c2⟩, c_q0c4c0, ⟨a_q0c4c1, cap_q0c4c1⟩⟩ hj1;rw [m_store_Store_down_l1] at hj1;refine g_norm (L' := [(63, .i64 x4), (0, _), (1, _), (61, _), (62, _)]) (ms' := [_, box b_q0 51 [.v (.slice a_q0c0 l5.length cap_q0c0), .v (.slice a_q0c1 m_q0c1 cap_q0c1), .v (.slice a_q0c2 l7.length cap_q0c2), .v (.map (some b_q0c3)), .v (.pointer (some ⟨b_q0c4, 0, none⟩)), .bool z2], row a_q0c0 cap_q0c0 54 4 ANd.d l5, arr a_q0c1 m_q0c1 cap_q0c1 56 3 StoreVariable.d l6, row a_q0c2 cap_q0c2 3 1 D.i64 l7, mp b_q0c3 kStorePair D.bool mm2, box b_q0c4 70 [.v (.chan (some c_q0c4c0)), .v (.slice a_q0c4c1 l8.length cap_q0c4c1)], chn c_q0c4c0 ch2.1 StorePair.d ch2.2, que a_q0c4c1 cap_q0c4c1 47 2 StorePair.d l8]) rfl rfl ?_;refine g_seq (gRg ?_);refine go_p rfl rfl rfl (o_cmp rfl rfl rfl) ?_;refine gNl (g_seq ?_);refine gCd rfl (fun hc2 => ?_) (fun hc2 => ?_)
   ·replace hj1 := cond_t hc2 hj1
    refine gSp (g_seq (g_block (g_seq (gRg ?_))));obtain ⟨x5, hx8, hj1⟩ := bS hj1;refine go_p rfl rfl rfl (o_indexAddr_nz Try.runUnderlying49 Try.sizeOf3 rfl rfl hx8) ?_;refine go_p rfl rfl rfl (o_load Try.isAgg3 rfl rfl) ?_;refine go_p rfl rfl rfl (oAs rfl) ?_;refine gNl (gRg ?_);refine go_p rfl rfl rfl (oMv rfl) ?_;refine go_p rfl rfl rfl (oMv rfl) ?_;refine go_p rfl rfl rfl (oMv rfl) ?_;obtain ⟨s2, hx9, hj1⟩ := bS hj1;refine go_op rfl rfl rfl (o_call_own [1, 2, 3, 4, 5, 6, 7, 8] Try.call19 rfl rfl (getL_c rfl (getL_c rfl (getL_c rfl (getL_c rfl (getL_c rfl (getL_c rfl (getL_c rfl (getL_c rfl getL_n)))))))) (w_store_Store_ask hx9) (by rintro _ _ ⟨_, _, _, _, _, _, _, _, _, _, rfl, rfl⟩; rfl)) ?_;rintro _ _ ⟨_, ⟨a_q0c0, cap_q0c0, a_q0c1, m_q0c1, cap_q0c1, a_q0c2, cap_q0c2, c_q0c4c0, a_q0c4c1, cap_q0c4c1, rfl, rfl⟩, rfl⟩;refine go_ms (ms' := [_, box b_q0 51 [_, _, _, _, _, _], _, _, _, _, box b_q0c4 70 [_, _], _, _]) rfl ?_;refine gNl (gRg ?_);obtain ⟨hg10, hj1⟩ := grd_some hj1;refine go_p rfl rfl rfl (o_add rfl rfl (i64_id hg10)) ?_;refine go_p rfl rfl rfl (oMv rfl) ?_;refine gNl ?_;exact ⟨_, ((_, _), (_, _, _), (_, _), _, (_, _)), hj1, ⟨rfl, trivial⟩, ⟨rfl, rfl, rfl, rfl, trivial⟩, [], rfl⟩
   ·replace hj1 := cond_f hc2 hj1
    refine g_exit ?_;exact ⟨_, ((_, _), (_, _, _), (_, _), _, (_, _)), some_eq hj1, trivial, trivial, [], rfl⟩
  ·rintro ⟨z1, l1, l2, l3, mm1, ch1, l4⟩ ⟨⟨a_q0c0, cap_q0c0⟩, ⟨a_q0c1, m_q0c1, cap_q0c1⟩, ⟨a_q0c2, cap_q0c2⟩, c_q0c4c0, ⟨a_q0c4c1, cap_q0c4c1⟩⟩ hst
   subst hst;refine k_norm (L' := []) (ms' := [_, box b_q0 51 [.v (.slice a_q0c0 l1.length cap_q0c0), .v (.slice a_q0c1 m_q0c1 cap_q0c1), .v (.slice a_q0c2 l3.length cap_q0c2), .v (.map (some b_q0c3)), .v (.pointer (some ⟨b_q0c4, 0, none⟩)), .bool z1], row a_q0c0 cap_q0c0 54 4 ANd.d l1, arr a_q0c1 m_q0c1 cap_q0c1 56 3 StoreVariable.d l2, row a_q0c2 cap_q0c2 3 1 D.i64 l3, mp b_q0c3 kStorePair D.bool mm1, box b_q0c4 70 [.v (.chan (some c_q0c4c0)), .v (.slice a_q0c4c1 l4.length cap_q0c4c1)], chn c_q0c4c0 ch1.1 StorePair.d ch1.2, que a_q0c4c1 cap_q0c4c1 47 2 StorePair.d l4]) rfl rfl ?_;refine g_seq (gRg ?_);refine go_p rfl rfl rfl (oAs rfl) ?_;refine gNl (g_ret ?_)
   have hq1 := some_eq hm1
   obtain ⟨rfl, rfl⟩ := Prod.mk.inj hq1;exact retK (ret_one' rfl (ret_tmp rfl) (permA 1 rfl (permA 1 rfl (permA 1 rfl (permA 1 rfl (permA 1 rfl (permA 1 rfl (permA 1 rfl (permA 1 rfl permN))))))))) ⟨_, _, _, _, _, _, _, _, _, _, rfl, rfl⟩
theorem fi_54_0 : FieldIs Try.prog 54 0 0 1 false := ⟨⟨_, _, Try.runUnderlying54, rfl, rfl, Try.sizeOf3, by decide, Try.isAgg3⟩⟩
theorem fi_54_3 : FieldIs Try.prog 54 3 3 1 false := ⟨⟨_, _, Try.runUnderlying54, rfl, rfl, Try.sizeOf22, by decide, Try.isAgg22⟩⟩
theorem fi_54_1 : FieldIs Try.prog 54 1 1 1 false := ⟨⟨_, _, Try.runUnderlying54, rfl, rfl, Try.sizeOf3, by decide, Try.isAgg3⟩⟩
theorem fi_54_2 : FieldIs Try.prog 54 2 2 1 false := ⟨⟨_, _, Try.runUnderlying54, rfl, rfl, Try.sizeOf3, by decide, Try.isAgg3⟩⟩
def m_store_Store_heads_l1 (bv1 : ANd) : Nat -> Int -> Option Unit
 | 0, _ => none
 | n + 1, x1 =>
  bif (decide (x1 < (bv1.l.length : Int))) then
   (idx bv1.l x1).bind fun x2 =>
   none
  else
   some ()
def m_store_Store_heads_l2 (a1 : ANd) : Nat -> Int -> Option Unit
 | 0, _ => none
 | n + 1, x3 =>
  bif (decide (x3 < (a1.l.length : Int))) then
   (idx a1.l x3).bind fun x4 =>
   none
  else
   some ()
def m_store_Store_heads (s1 : StoreStore) (a1 : ANd) (bv1 : ANd)  : Option (Int × StoreStore) :=
 bif ((decide (a1.kind = 2)) || (decide (bv1.kind = 1))) then
  some (0, (⟨s1.nodes, s1.vars, s1.levels, s1.seen, (⟨s1.wait.first, s1.wait.more⟩ : QueuePairs), s1.dead⟩ : StoreStore))
 else
  bif ((!decide (a1.kind = bv1.kind)) && ((!decide (a1.kind = 8)) || (decide (0 < (a1.l.length : Int))))) then
   some (11, (⟨s1.nodes, s1.vars, s1.levels, s1.seen, (⟨s1.wait.first, s1.wait.more⟩ : QueuePairs), s1.dead⟩ : StoreStore))
  else
   bif (decide (a1.kind = 6)) then
    (m_store_Store_ask (⟨s1.nodes, s1.vars, s1.levels, s1.seen, (⟨s1.wait.first, s1.wait.more⟩ : QueuePairs), s1.dead⟩ : StoreStore) bv1.a a1.a).bind fun s2 =>
    (m_store_Store_ask (⟨s2.nodes, s2.vars, s2.levels, s2.seen, (⟨s2.wait.first, s2.wait.more⟩ : QueuePairs), s2.dead⟩ : StoreStore) a1.b bv1.b).bind fun s3 =>
    some (0, (⟨s3.nodes, s3.vars, s3.levels, s3.seen, (⟨s3.wait.first, s3.wait.more⟩ : QueuePairs), s3.dead⟩ : StoreStore))
   else
    bif (decide (a1.kind = 7)) then
     (m_store_Store_heads_l1 bv1 FU 0 : Option Unit).bind fun _ =>
     some (0, (⟨s1.nodes, s1.vars, s1.levels, s1.seen, (⟨s1.wait.first, s1.wait.more⟩ : QueuePairs), s1.dead⟩ : StoreStore))
    else
     bif (decide (a1.kind = 8)) then
      (m_store_Store_heads_l2 a1 FU 0 : Option Unit).bind fun _ =>
      some (0, (⟨s1.nodes, s1.vars, s1.levels, s1.seen, (⟨s1.wait.first, s1.wait.more⟩ : QueuePairs), s1.dead⟩ : StoreStore))
     else
      some (0, (⟨s1.nodes, s1.vars, s1.levels, s1.seen, (⟨s1.wait.first, s1.wait.more⟩ : QueuePairs), s1.dead⟩ : StoreStore))
theorem w_store_Store_heads {s1 : StoreStore} {a1 : ANd} {bv1 : ANd}  {r_1 : Int} {s_1 : StoreStore} {b_q0 : Nat} {a_q0c0 : Option Addr} {cap_q0c0 : Nat} {a_q0c1 : Option Addr} {m_q0c1 : Nat} {cap_q0c1 : Nat} {a_q0c2 : Option Addr} {cap_q0c2 : Nat} {b_q0c3 : Nat} {b_q0c4 : Nat} {c_q0c4c0 : Nat} {a_q0c4c1 : Option Addr} {cap_q0c4c1 : Nat} (hm : m_store_Store_heads s1 a1 bv1 = some (r_1, s_1)) : Go.V.Fn Try.prog 41 [.v (.pointer (some ⟨b_q0, 0, none⟩)), ANd.d a1, ANd.d bv1] [box b_q0 51 [.v (.slice a_q0c0 s1.nodes.length cap_q0c0), .v (.slice a_q0c1 m_q0c1 cap_q0c1), .v (.slice a_q0c2 s1.levels.length cap_q0c2), .v (.map (some b_q0c3)), .v (.pointer (some ⟨b_q0c4, 0, none⟩)), .bool s1.dead], row a_q0c0 cap_q0c0 54 4 ANd.d s1.nodes, arr a_q0c1 m_q0c1 cap_q0c1 56 3 StoreVariable.d s1.vars, row a_q0c2 cap_q0c2 3 1 D.i64 s1.levels, mp b_q0c3 kStorePair D.bool s1.seen, box b_q0c4 70 [.v (.chan (some c_q0c4c0)), .v (.slice a_q0c4c1 s1.wait.more.length cap_q0c4c1)], chn c_q0c4c0 s1.wait.first.1 StorePair.d s1.wait.first.2, que a_q0c4c1 cap_q0c4c1 47 2 StorePair.d s1.wait.more] (fun d ms' => ∃ a_s_1c0 cap_s_1c0 a_s_1c1 m_s_1c1 cap_s_1c1 a_s_1c2 cap_s_1c2 c_s_1c4c0 a_s_1c4c1 cap_s_1c4c1, d = .i64 r_1 /\ ms' = [box b_q0 51 [.v (.slice a_s_1c0 s_1.nodes.length cap_s_1c0), .v (.slice a_s_1c1 m_s_1c1 cap_s_1c1), .v (.slice a_s_1c2 s_1.levels.length cap_s_1c2), .v (.map (some b_q0c3)), .v (.pointer (some ⟨b_q0c4, 0, none⟩)), .bool s_1.dead], row a_s_1c0 cap_s_1c0 54 4 ANd.d s_1.nodes, arr a_s_1c1 m_s_1c1 cap_s_1c1 56 3 StoreVariable.d s_1.vars, row a_s_1c2 cap_s_1c2 3 1 D.i64 s_1.levels, mp b_q0c3 kStorePair D.bool s_1.seen, box b_q0c4 70 [.v (.chan (some c_s_1c4c0)), .v (.slice a_s_1c4c1 s_1.wait.more.length cap_s_1c4c1)], chn c_s_1c4c0 s_1.wait.first.1 StorePair.d s_1.wait.first.2, que a_s_1c4c1 cap_s_1c4c1 47 2 StorePair.d s_1.wait.more]) := by
 unfold m_store_Store_heads at hm;refine fn_intro Try.func41 rfl Try.ntmps41 rfl fun H0 fr w0 => ?_;refine g_seq (gRg ?_);refine go_p rfl rfl rfl (o_box rfl rfl) ?_;refine go_p rfl rfl rfl (o_box rfl rfl) ?_;refine go_p rfl rfl rfl (oAs rfl) ?_;refine gNl (g_seq (g_block (g_seq (gRg ?_))));refine go_p rfl rfl rfl (oFa fi_54_0 rfl rfl rfl) ?_;refine go_p rfl rfl rfl (o_load Try.isAgg3 rfl rfl) ?_;refine go_p rfl rfl rfl (o_cmp rfl rfl rfl) ?_;refine go_p rfl rfl rfl (oMv rfl) ?_
 apply go_or [(0, _), (4, _), (5, _)] 4 23 (t := 19) ⟨rfl, rfl, rfl, trivial⟩ rfl
 ·intro hg_1 hk1
  refine gWp rfl rfl rfl hg_1 rfl rfl (oFa fi_54_0 rfl rfl rfl) ?_;refine gWp rfl rfl rfl hg_1 rfl rfl (o_load Try.isAgg3 rfl rfl) ?_;refine gWp rfl rfl rfl hg_1 rfl rfl (o_cmp rfl rfl rfl) ?_;refine go_p rfl rfl rfl (o_pickF rfl hg_1 rfl) ?_;exact gMt hk1 (rfl) ⟨rfl, rfl, rfl, trivial⟩
 ·intro hg_1 hk1
  refine gKp rfl rfl rfl hg_1 rfl rfl ?_;refine gKp rfl rfl rfl hg_1 rfl rfl ?_;refine gKp rfl rfl rfl hg_1 rfl rfl ?_;refine go_p rfl rfl rfl (o_pickT rfl hg_1 rfl) ?_;exact gMt hk1 (rfl) ⟨rfl, rfl, rfl, trivial⟩
 refine go_p rfl rfl rfl (oAs rfl) ?_;refine gNl ?_;refine gCd rfl (fun hc1 => ?_) (fun hc1 => ?_)
 ·replace hm := cond_t hc1 hm
  refine g_seq (gRg ?_);refine go_p rfl rfl rfl (oAs rfl) ?_;refine gNl (g_ret ?_)
  have hq1 := some_eq hm
  obtain ⟨rfl, rfl⟩ := Prod.mk.inj hq1;exact retK (ret_one' rfl (ret_tmp rfl) (permA 0 rfl (permA 0 rfl (permA 0 rfl (permA 0 rfl (permA 0 rfl (permA 0 rfl (permA 0 rfl (permA 0 rfl permN))))))))) ⟨_, _, _, _, _, _, _, _, _, _, rfl, rfl⟩
 ·replace hm := cond_f hc1 hm
  refine g_seq (gRg ?_);refine go_p rfl rfl rfl (oFa fi_54_0 rfl rfl rfl) ?_;refine go_p rfl rfl rfl (o_load Try.isAgg3 rfl rfl) ?_;refine go_p rfl rfl rfl (oFa fi_54_0 rfl rfl rfl) ?_;refine go_p rfl rfl rfl (o_load Try.isAgg3 rfl rfl) ?_;refine go_p rfl rfl rfl (o_cmp rfl rfl rfl) ?_;refine go_p rfl rfl rfl (oMv rfl) ?_
  apply go_and [(0, _), (4, _), (5, _)] 10 40 (t := 30) ⟨rfl, rfl, rfl, trivial⟩ rfl
  ·intro hg_2 hk2
   refine gWp rfl rfl rfl hg_2 rfl rfl (oFa fi_54_0 rfl rfl rfl) ?_;refine gWp rfl rfl rfl hg_2 rfl rfl (o_load Try.isAgg3 rfl rfl) ?_;refine gWp rfl rfl rfl hg_2 rfl rfl (o_cmp rfl rfl rfl) ?_;refine gWp rfl rfl rfl hg_2 rfl rfl (oMv rfl) ?_
   apply go_or [(0, _), (4, _), (5, _), (30, _)] 5 39 (t := 34) ⟨rfl, rfl, rfl, rfl, trivial⟩ rfl
   ·intro hg_3 hk3
    refine gWp rfl rfl rfl hg_3 rfl rfl (oFa fi_54_3 rfl rfl rfl) ?_;refine gWp rfl rfl rfl hg_3 rfl rfl (o_load Try.isAgg22 rfl rfl) ?_;refine gWp rfl rfl rfl hg_3 rfl rfl (o_len Try.runUnderlying22 rfl) ?_;refine gWp rfl rfl rfl hg_3 rfl rfl (o_cmp rfl rfl rfl) ?_;refine gWp rfl rfl rfl hg_2 rfl rfl (o_pickF rfl hg_3 rfl) ?_;exact gMt hk3 (rfl) ⟨rfl, rfl, rfl, rfl, trivial⟩
   ·intro hg_3 hk3
    refine gKp rfl rfl rfl hg_3 rfl rfl ?_;refine gKp rfl rfl rfl hg_3 rfl rfl ?_;refine gKp rfl rfl rfl hg_3 rfl rfl ?_;refine gKp rfl rfl rfl hg_3 rfl rfl ?_;refine gWp rfl rfl rfl hg_2 rfl rfl (o_pickT rfl hg_3 rfl) ?_;exact gMt hk3 (rfl) ⟨rfl, rfl, rfl, rfl, trivial⟩
   refine go_p rfl rfl rfl (o_pickT rfl hg_2 rfl) ?_;exact gMt hk2 (rfl) ⟨rfl, rfl, rfl, trivial⟩
  ·intro hg_2 hk2
   refine gKp rfl rfl rfl hg_2 rfl rfl ?_;refine gKp rfl rfl rfl hg_2 rfl rfl ?_;refine gKp rfl rfl rfl hg_2 rfl rfl ?_;refine gKp rfl rfl rfl hg_2 rfl rfl ?_;refine gKu rfl rfl rfl rfl rfl ?_;refine gKu rfl rfl rfl rfl rfl ?_;refine gKu rfl rfl rfl rfl rfl ?_;refine gKu rfl rfl rfl rfl rfl ?_;refine gKp rfl rfl rfl hg_2 rfl rfl ?_;refine go_p rfl rfl rfl (o_pickF rfl hg_2 rfl) ?_;exact gMt hk2 (rfl) ⟨rfl, rfl, rfl, trivial⟩
  refine go_p rfl rfl rfl (oAs rfl) ?_;refine gNl ?_;refine gCd rfl (fun hc2 => ?_) (fun hc2 => ?_)
  ·replace hm := cond_t hc2 hm
   refine g_seq (gRg ?_);refine go_p rfl rfl rfl (oAs rfl) ?_;refine gNl (g_ret ?_)
   have hq1 := some_eq hm
   obtain ⟨rfl, rfl⟩ := Prod.mk.inj hq1;exact retK (ret_one' rfl (ret_tmp rfl) (permA 0 rfl (permA 0 rfl (permA 0 rfl (permA 0 rfl (permA 0 rfl (permA 0 rfl (permA 0 rfl (permA 0 rfl permN))))))))) ⟨_, _, _, _, _, _, _, _, _, _, rfl, rfl⟩
  ·replace hm := cond_f hc2 hm
   refine gSp (g_seq (g_seq (gRg ?_)));refine go_p rfl rfl rfl (oFa fi_54_0 rfl rfl rfl) ?_;refine go_p rfl rfl rfl (o_load Try.isAgg3 rfl rfl) ?_;refine gNl (g_block (g_seq (gRg ?_)));refine go_p rfl rfl rfl (o_cmp rfl rfl rfl) ?_;refine go_p rfl rfl rfl (oAs rfl) ?_;refine gNl ?_;refine gCd rfl (fun hc3 => ?_) (fun hc3 => ?_)
   ·replace hm := cond_t hc3 hm
    refine g_seq (gRg ?_);refine go_p rfl rfl rfl (oMv rfl) ?_;refine go_p rfl rfl rfl (oFa fi_54_1 rfl rfl rfl) ?_;refine go_p rfl rfl rfl (o_load Try.isAgg3 rfl rfl) ?_;refine go_p rfl rfl rfl (oFa fi_54_1 rfl rfl rfl) ?_;refine go_p rfl rfl rfl (o_load Try.isAgg3 rfl rfl) ?_;obtain ⟨s2, hx1, hm⟩ := bS hm;refine go_op rfl rfl rfl (o_call_own [0, 1, 2, 3, 4, 5, 6, 7] Try.call19 rfl rfl (getL_c rfl (getL_c rfl (getL_c rfl (getL_c rfl (getL_c rfl (getL_c rfl (getL_c rfl (getL_c rfl getL_n)))))))) (w_store_Store_ask hx1) (by rintro _ _ ⟨_, _, _, _, _, _, _, _, _, _, rfl, rfl⟩; rfl)) ?_;rintro _ _ ⟨_, ⟨a_q0c0, cap_q0c0, a_q0c1, m_q0c1, cap_q0c1, a_q0c2, cap_q0c2, c_q0c4c0, a_q0c4c1, cap_q0c4c1, rfl, rfl⟩, rfl⟩;refine go_ms (ms' := [box b_q0 51 [_, _, _, _, _, _], _, _, _, _, box b_q0c4 70 [_, _], _, _]) rfl ?_;refine gNl (gRg ?_);refine go_p rfl rfl rfl (oMv rfl) ?_;refine go_p rfl rfl rfl (oFa fi_54_2 rfl rfl rfl) ?_;refine go_p rfl rfl rfl (o_load Try.isAgg3 rfl rfl) ?_;refine go_p rfl rfl rfl (oFa fi_54_2 rfl rfl rfl) ?_;refine go_p rfl rfl rfl (o_load Try.isAgg3 rfl rfl) ?_;obtain ⟨s3, hx2, hm⟩ := bS hm;refine go_op rfl rfl rfl (o_call_own [0, 1, 2, 3, 4, 5, 6, 7] Try.call19 rfl rfl (getL_c rfl (getL_c rfl (getL_c rfl (getL_c rfl (getL_c rfl (getL_c rfl (getL_c rfl (getL_c rfl getL_n)))))))) (w_store_Store_ask hx2) (by rintro _ _ ⟨_, _, _, _, _, _, _, _, _, _, rfl, rfl⟩; rfl)) ?_;rintro _ _ ⟨_, ⟨a_q0c0, cap_q0c0, a_q0c1, m_q0c1, cap_q0c1, a_q0c2, cap_q0c2, c_q0c4c0, a_q0c4c1, cap_q0c4c1, rfl, rfl⟩, rfl⟩;refine go_ms (ms' := [box b_q0 51 [_, _, _, _, _, _], _, _, _, _, box b_q0c4 70 [_, _], _, _]) rfl ?_;refine gNl (g_seq (gRg ?_));refine go_p rfl rfl rfl (oAs rfl) ?_;refine gNl (g_ret ?_)
    have hq1 := some_eq hm
    obtain ⟨rfl, rfl⟩ := Prod.mk.inj hq1;exact retK (ret_one' rfl (ret_tmp rfl) (permA 0 rfl (permA 0 rfl (permA 0 rfl (permA 0 rfl (permA 0 rfl (permA 0 rfl (permA 0 rfl (permA 0 rfl permN))))))))) ⟨_, _, _, _, _, _, _, _, _, _, rfl, rfl⟩
   ·replace hm := cond_f hc3 hm
    refine g_seq (gRg ?_);refine go_p rfl rfl rfl (o_cmp rfl rfl rfl) ?_;refine go_p rfl rfl rfl (oAs rfl) ?_;refine gNl ?_;refine gCd rfl (fun hc4 => ?_) (fun hc4 => ?_)
    ·replace hm := cond_t hc4 hm
     refine g_seq (gRg ?_);refine go_p rfl rfl rfl (oFa fi_54_3 rfl rfl rfl) ?_;refine go_p rfl rfl rfl (o_load Try.isAgg22 rfl rfl) ?_;refine go_p rfl rfl rfl (o_len Try.runUnderlying22 rfl) ?_;refine go_p rfl rfl rfl (oMv rfl) ?_;refine gNl ?_;obtain ⟨o_1, hj1, hm1⟩ := bS hm;refine g_cut_m [] [(0, _), (1, _), (2, _), (3, _), (4, _), (5, _), (6, _), (7, _)] (fun (st : Unit) (hid : Unit) => match st, hid with | _, _ => []) (fun F (st : Unit) (hid : Unit) => match st, hid with | _, _ => [(nthF F 0), (nthF F 1), (nthF F 2), (nthF F 3), (nthF F 4), (nthF F 5), (nthF F 6), (nthF F 7)]) (fun st => st = o_1) trivial ⟨rfl, rfl, rfl, rfl, rfl, rfl, rfl, rfl, trivial⟩ ?_ ?_
     ·skip
      refine g_block ?_;refine g_loop_m [(0, _), (4, _), (60, _), (61, _)] [(0, _), (1, _), (2, _), (3, _), (4, _), (5, _), (6, _), (7, _)] (fun (st : Int) (hid : Unit) => match st, hid with | x1, _ => [(62, .i64 x1)]) (fun F (st : Int) (hid : Unit) => match st, hid with | x1, _ => [(nthF F 0), (nthF F 1), (nthF F 2), (nthF F 3), (nthF F 4), (nthF F 5), (nthF F 6), (nthF F 7)]) () hj1 (fun _ => rfl) ⟨rfl, rfl, rfl, rfl, trivial⟩ ⟨rfl, rfl, rfl, rfl, rfl, rfl, rfl, rfl, trivial⟩ ⟨rfl, trivial⟩ rfl ?_;rintro n x1 _ hj1;rw [m_store_Store_heads_l1] at hj1;refine g_norm (L' := [(62, .i64 x1), (0, _), (4, _), (60, _), (61, _)]) (ms' := [_, _, _, _, _, _, _, _]) rfl rfl ?_;refine g_seq (gRg ?_);refine go_p rfl rfl rfl (o_cmp rfl rfl rfl) ?_;refine gNl (g_seq ?_);refine gCd rfl (fun hc5 => ?_) (fun hc5 => ?_)
      ·replace hj1 := cond_t hc5 hj1
       refine gSp (g_seq (g_block (g_seq (gRg ?_))));obtain ⟨x2, hx3, hj1⟩ := bS hj1;refine go_p rfl rfl rfl (oIm Try.runUnderlying22 Try.sizeOf31 rfl rfl hx3) ?_;refine go_p rfl rfl rfl (o_load_agg Try.isAgg31 Try.sizeOf31 rfl rfl) ?_;refine go_op rfl rfl rfl (o_alloc_own Try.zeroValue31 (cs := [.str ([] : List UInt8), .i64 0]) rfl) ?_;rintro _ _ ⟨b1, rfl, rfl⟩;refine go_u rfl rfl (oSb 0 Try.sizeOf31 rfl rfl rfl rfl rfl rfl rfl rfl (nB rfl)) ?_;rintro _ _ rfl;refine go_ms (ms' := [box b1 31 [_, _], box b_q0 51 [_, _, _, _, _, _], _, _, _, _, box b_q0c4 70 [_, _], _, _]) rfl ?_;refine gNl (g_seq (gRg ?_));refine go_p rfl rfl rfl (o_load_agg Try.isAgg54 Try.sizeOf54 rfl rfl) ?_;refine go_p rfl rfl rfl (oFb fi_31_0 rfl) ?_;refine go_p rfl rfl rfl (oLb 0 Try.isAgg9 rfl rfl rfl rfl) ?_
       cases hj1
      ·replace hj1 := cond_f hc5 hj1
       refine g_exit ?_;exact ⟨_, (), some_eq hj1, trivial, trivial, [], rfl⟩
     ·rintro _ _ hst
      subst hst;refine k_norm (L' := []) (ms' := [_, _, _, _, _, _, _, _]) rfl rfl ?_;refine g_seq (gRg ?_);refine go_p rfl rfl rfl (oAs rfl) ?_;refine gNl (g_ret ?_)
      have hq1 := some_eq hm1
      obtain ⟨rfl, rfl⟩ := Prod.mk.inj hq1;exact retK (ret_one' rfl (ret_tmp rfl) (permA 0 rfl (permA 0 rfl (permA 0 rfl (permA 0 rfl (permA 0 rfl (permA 0 rfl (permA 0 rfl (permA 0 rfl permN))))))))) ⟨_, _, _, _, _, _, _, _, _, _, rfl, rfl⟩
    ·replace hm := cond_f hc4 hm
     refine g_seq (gRg ?_);refine go_p rfl rfl rfl (o_cmp rfl rfl rfl) ?_;refine go_p rfl rfl rfl (oAs rfl) ?_;refine gNl ?_;refine gCd rfl (fun hc6 => ?_) (fun hc6 => ?_)
     ·replace hm := cond_t hc6 hm
      refine g_seq (gRg ?_);refine go_p rfl rfl rfl (oFa fi_54_3 rfl rfl rfl) ?_;refine go_p rfl rfl rfl (o_load Try.isAgg22 rfl rfl) ?_;refine go_p rfl rfl rfl (o_len Try.runUnderlying22 rfl) ?_;refine go_p rfl rfl rfl (oMv rfl) ?_;refine gNl ?_;obtain ⟨o_2, hj2, hm2⟩ := bS hm;refine g_cut_m [] [(0, _), (1, _), (2, _), (3, _), (4, _), (5, _), (6, _), (7, _)] (fun (st : Unit) (hid : Unit) => match st, hid with | _, _ => []) (fun F (st : Unit) (hid : Unit) => match st, hid with | _, _ => [(nthF F 0), (nthF F 1), (nthF F 2), (nthF F 3), (nthF F 4), (nthF F 5), (nthF F 6), (nthF F 7)]) (fun st => st = o_2) trivial ⟨rfl, rfl, rfl, rfl, rfl, rfl, rfl, rfl, trivial⟩ ?_ ?_
      ·skip
       refine g_block ?_;refine g_loop_m [(0, _), (5, _), (84, _), (85, _)] [(0, _), (1, _), (2, _), (3, _), (4, _), (5, _), (6, _), (7, _)] (fun (st : Int) (hid : Unit) => match st, hid with | x3, _ => [(86, .i64 x3)]) (fun F (st : Int) (hid : Unit) => match st, hid with | x3, _ => [(nthF F 0), (nthF F 1), (nthF F 2), (nthF F 3), (nthF F 4), (nthF F 5), (nthF F 6), (nthF F 7)]) () hj2 (fun _ => rfl) ⟨rfl, rfl, rfl, rfl, trivial⟩ ⟨rfl, rfl, rfl, rfl, rfl, rfl, rfl, rfl, trivial⟩ ⟨rfl, trivial⟩ rfl ?_;rintro n x3 _ hj2;rw [m_store_Store_heads_l2] at hj2;refine g_norm (L' := [(86, .i64 x3), (0, _), (5, _), (84, _), (85, _)]) (ms' := [_, _, _, _, _, _, _, _]) rfl rfl ?_;refine g_seq (gRg ?_);refine go_p rfl rfl rfl (o_cmp rfl rfl rfl) ?_;refine gNl (g_seq ?_);refine gCd rfl (fun hc7 => ?_) (fun hc7 => ?_)
       ·replace hj2 := cond_t hc7 hj2
        refine gSp (g_seq (g_block (g_seq (gRg ?_))));obtain ⟨x4, hx4, hj2⟩ := bS hj2;refine go_p rfl rfl rfl (oIm Try.runUnderlying22 Try.sizeOf31 rfl rfl hx4) ?_;refine go_p rfl rfl rfl (o_load_agg Try.isAgg31 Try.sizeOf31 rfl rfl) ?_;refine go_op rfl rfl rfl (o_alloc_own Try.zeroValue31 (cs := [.str ([] : List UInt8), .i64 0]) rfl) ?_;rintro _ _ ⟨b2, rfl, rfl⟩;refine go_u rfl rfl (oSb 0 Try.sizeOf31 rfl rfl rfl rfl rfl rfl rfl rfl (nB rfl)) ?_;rintro _ _ rfl;refine go_ms (ms' := [box b2 31 [_, _], box b_q0 51 [_, _, _, _, _, _], _, _, _, _, box b_q0c4 70 [_, _], _, _]) rfl ?_;refine gNl (g_seq (gRg ?_));refine go_p rfl rfl rfl (o_load_agg Try.isAgg54 Try.sizeOf54 rfl rfl) ?_;refine go_p rfl rfl rfl (oFb fi_31_0 rfl) ?_;refine go_p rfl rfl rfl (oLb 0 Try.isAgg9 rfl rfl rfl rfl) ?_
        cases hj2
       ·replace hj2 := cond_f hc7 hj2
        refine g_exit ?_;exact ⟨_, (), some_eq hj2, trivial, trivial, [], rfl⟩
      ·rintro _ _ hst
       subst hst;refine k_norm (L' := []) (ms' := [_, _, _, _, _, _, _, _]) rfl rfl ?_;refine g_seq (gRg ?_);refine go_p rfl rfl rfl (oAs rfl) ?_;refine gNl (g_ret ?_)
       have hq1 := some_eq hm2
       obtain ⟨rfl, rfl⟩ := Prod.mk.inj hq1;exact retK (ret_one' rfl (ret_tmp rfl) (permA 0 rfl (permA 0 rfl (permA 0 rfl (permA 0 rfl (permA 0 rfl (permA 0 rfl (permA 0 rfl (permA 0 rfl permN))))))))) ⟨_, _, _, _, _, _, _, _, _, _, rfl, rfl⟩
     ·replace hm := cond_f hc6 hm
      refine gSp (g_seq (gRg ?_));refine go_p rfl rfl rfl (oAs rfl) ?_;refine gNl (g_ret ?_)
      have hq1 := some_eq hm
      obtain ⟨rfl, rfl⟩ := Prod.mk.inj hq1;exact retK (ret_one' rfl (ret_tmp rfl) (permA 0 rfl (permA 0 rfl (permA 0 rfl (permA 0 rfl (permA 0 rfl (permA 0 rfl (permA 0 rfl (permA 0 rfl permN))))))))) ⟨_, _, _, _, _, _, _, _, _, _, rfl, rfl⟩
def m_store_Store_one (s1 : StoreStore) (a1 : Int) (bv1 : Int)  : Option (Int × StoreStore) :=
 (idx s1.nodes a1).bind fun x1 =>
 (idx s1.nodes bv1).bind fun x2 =>
 bif (((decide (a1 = bv1)) || (decide (x1.kind = 2))) || (decide (x2.kind = 1))) then
  some (0, (⟨s1.nodes, s1.vars, s1.levels, s1.seen, (⟨s1.wait.first, s1.wait.more⟩ : QueuePairs), s1.dead⟩ : StoreStore))
 else
  bif ((decide (x1.kind = 11)) && (decide (x2.kind = 11))) then
   none
  else
   bif (decide (x1.kind = 11)) then
    (m_store_Store_up (⟨s1.nodes, s1.vars, s1.levels, s1.seen, (⟨s1.wait.first, s1.wait.more⟩ : QueuePairs), s1.dead⟩ : StoreStore) a1 bv1).bind fun (x3, s2) =>
    some (x3, (⟨s2.nodes, s2.vars, s2.levels, s2.seen, (⟨s2.wait.first, s2.wait.more⟩ : QueuePairs), s2.dead⟩ : StoreStore))
   else
    bif (decide (x2.kind = 11)) then
     (m_store_Store_down (⟨s1.nodes, s1.vars, s1.levels, s1.seen, (⟨s1.wait.first, s1.wait.more⟩ : QueuePairs), s1.dead⟩ : StoreStore) a1 bv1).bind fun (x4, s3) =>
     some (x4, (⟨s3.nodes, s3.vars, s3.levels, s3.seen, (⟨s3.wait.first, s3.wait.more⟩ : QueuePairs), s3.dead⟩ : StoreStore))
    else
     (m_store_Store_heads (⟨s1.nodes, s1.vars, s1.levels, s1.seen, (⟨s1.wait.first, s1.wait.more⟩ : QueuePairs), s1.dead⟩ : StoreStore) (⟨x1.kind, x1.a, x1.b, x1.l⟩ : ANd) (⟨x2.kind, x2.a, x2.b, x2.l⟩ : ANd)).bind fun (x5, s4) =>
     some (x5, (⟨s4.nodes, s4.vars, s4.levels, s4.seen, (⟨s4.wait.first, s4.wait.more⟩ : QueuePairs), s4.dead⟩ : StoreStore))
theorem w_store_Store_one {s1 : StoreStore} {a1 : Int} {bv1 : Int}  {r_1 : Int} {s_1 : StoreStore} {b_q0 : Nat} {a_q0c0 : Option Addr} {cap_q0c0 : Nat} {a_q0c1 : Option Addr} {m_q0c1 : Nat} {cap_q0c1 : Nat} {a_q0c2 : Option Addr} {cap_q0c2 : Nat} {b_q0c3 : Nat} {b_q0c4 : Nat} {c_q0c4c0 : Nat} {a_q0c4c1 : Option Addr} {cap_q0c4c1 : Nat} (hm : m_store_Store_one s1 a1 bv1 = some (r_1, s_1)) : Go.V.Fn Try.prog 29 [.v (.pointer (some ⟨b_q0, 0, none⟩)), .i64 a1, .i64 bv1] [box b_q0 51 [.v (.slice a_q0c0 s1.nodes.length cap_q0c0), .v (.slice a_q0c1 m_q0c1 cap_q0c1), .v (.slice a_q0c2 s1.levels.length cap_q0c2), .v (.map (some b_q0c3)), .v (.pointer (some ⟨b_q0c4, 0, none⟩)), .bool s1.dead], row a_q0c0 cap_q0c0 54 4 ANd.d s1.nodes, arr a_q0c1 m_q0c1 cap_q0c1 56 3 StoreVariable.d s1.vars, row a_q0c2 cap_q0c2 3 1 D.i64 s1.levels, mp b_q0c3 kStorePair D.bool s1.seen, box b_q0c4 70 [.v (.chan (some c_q0c4c0)), .v (.slice a_q0c4c1 s1.wait.more.length cap_q0c4c1)], chn c_q0c4c0 s1.wait.first.1 StorePair.d s1.wait.first.2, que a_q0c4c1 cap_q0c4c1 47 2 StorePair.d s1.wait.more] (fun d ms' => ∃ a_s_1c0 cap_s_1c0 a_s_1c1 m_s_1c1 cap_s_1c1 a_s_1c2 cap_s_1c2 c_s_1c4c0 a_s_1c4c1 cap_s_1c4c1, d = .i64 r_1 /\ ms' = [box b_q0 51 [.v (.slice a_s_1c0 s_1.nodes.length cap_s_1c0), .v (.slice a_s_1c1 m_s_1c1 cap_s_1c1), .v (.slice a_s_1c2 s_1.levels.length cap_s_1c2), .v (.map (some b_q0c3)), .v (.pointer (some ⟨b_q0c4, 0, none⟩)), .bool s_1.dead], row a_s_1c0 cap_s_1c0 54 4 ANd.d s_1.nodes, arr a_s_1c1 m_s_1c1 cap_s_1c1 56 3 StoreVariable.d s_1.vars, row a_s_1c2 cap_s_1c2 3 1 D.i64 s_1.levels, mp b_q0c3 kStorePair D.bool s_1.seen, box b_q0c4 70 [.v (.chan (some c_s_1c4c0)), .v (.slice a_s_1c4c1 s_1.wait.more.length cap_s_1c4c1)], chn c_s_1c4c0 s_1.wait.first.1 StorePair.d s_1.wait.first.2, que a_s_1c4c1 cap_s_1c4c1 47 2 StorePair.d s_1.wait.more]) := by
 unfold m_store_Store_one at hm;refine fn_intro Try.func29 rfl Try.ntmps29 rfl fun H0 fr w0 => ?_;refine g_seq (gRg ?_);refine go_p rfl rfl rfl (oAs rfl) ?_;refine gNl (g_seq ?_);obtain ⟨x1, hx1, hm⟩ := bS hm;obtain ⟨x2, hx2, hm⟩ := bS hm;refine g_draw_x [] [16, 17] [7, 8, 9, 10, 11, 12, 13] [14, 15] [10, 12] Try_mixed (by decide +kernel) (by decide +kernel) rfl ?_;refine gdx_p rfl rfl rfl rfl rfl rfl (oMv rfl) ?_;refine gdx_p rfl rfl rfl rfl rfl rfl (o_nilCheck_box rfl) ?_;refine gdx_p rfl rfl rfl rfl rfl rfl (oFb fi_51_0 rfl) ?_;refine gdx_p rfl rfl rfl rfl rfl rfl (oLb 0 Try.isAgg33 rfl rfl rfl rfl) ?_;refine gdx_p rfl rfl rfl rfl rfl rfl (oMv rfl) ?_;refine gdx_p rfl rfl rfl rfl rfl rfl (.view (peekE (i := 12) 1 rfl rfl rfl) (oIm Try.runUnderlying33 Try.sizeOf54 rfl rfl hx1)) ?_;refine gdx_p rfl rfl rfl rfl rfl rfl (o_load_agg Try.isAgg54 Try.sizeOf54 rfl rfl) ?_;refine gdx_p rfl rfl rfl rfl rfl rfl (oMv rfl) ?_;refine gdx_p rfl rfl rfl rfl rfl rfl (o_nilCheck_box rfl) ?_;refine gdx_p rfl rfl rfl rfl rfl rfl (oFb fi_51_0 rfl) ?_;refine gdx_f rfl rfl rfl rfl rfl (oLb 0 Try.isAgg33 rfl rfl rfl rfl) ?_;refine gdx_p rfl rfl rfl rfl rfl rfl (oMv rfl) ?_;refine gdx_f rfl rfl rfl rfl rfl (.view (peekE (i := 19) 1 rfl rfl rfl) (oIm Try.runUnderlying33 Try.sizeOf54 rfl rfl hx2)) ?_;refine gdx_p rfl rfl rfl rfl rfl rfl (o_load_agg Try.isAgg54 Try.sizeOf54 rfl rfl) ?_;refine gdx_fresh (R0 := fun d A => ∃ b, d = .v (.pointer (some ⟨b, 0, none⟩)) /\ A = box b 54 [.i64 0, .i64 0, .i64 0, .list 2 AFd.d []]) rfl rfl rfl rfl (OpT.mono (o_alloc_own Try.zeroValue54 (cs := [.i64 0, .i64 0, .i64 0, .list 2 AFd.d []]) rfl) (by rintro d ms' ⟨b, rfl, rfl⟩; exact ⟨_, ⟨b, rfl, rfl⟩, rfl⟩)) ?_;refine gdx_fresh (R0 := fun d A => ∃ b, d = .v (.pointer (some ⟨b, 0, none⟩)) /\ A = box b 54 [.i64 0, .i64 0, .i64 0, .list 2 AFd.d []]) rfl rfl rfl rfl (OpT.mono (o_alloc_own Try.zeroValue54 (cs := [.i64 0, .i64 0, .i64 0, .list 2 AFd.d []]) rfl) (by rintro d ms' ⟨b, rfl, rfl⟩; exact ⟨_, ⟨b, rfl, rfl⟩, rfl⟩)) ?_;refine gdx_e rfl ?_;refine gdx_e rfl ?_;refine gdx_nil ?_;refine gf_nil [(14, 7), (15, 8)] rfl ?_;rintro _ _ ⟨b1, rfl, rfl⟩;rintro _ _ ⟨b2, rfl, rfl⟩
 show _ /\ _
 refine ⟨⟨⟨trivial, oLb 2 Try.isAgg33 rfl rfl rfl rfl⟩, .view (peekE (i := 19) 3 rfl rfl rfl) (oIm Try.runUnderlying33 Try.sizeOf54 rfl rfl hx2)⟩, ?_⟩;refine gde2_u rfl rfl rfl (oSb 0 Try.sizeOf54 rfl rfl rfl rfl rfl rfl rfl rfl (nB rfl)) ?_;rintro _ _ rfl;refine ⟨⟨⟨trivial, oLb 2 Try.isAgg33 rfl rfl rfl rfl⟩, .view (peekE (i := 19) 3 rfl rfl rfl) (oIm Try.runUnderlying33 Try.sizeOf54 rfl rfl hx2)⟩, ?_⟩;refine gde2_u rfl rfl rfl (oSb 1 Try.sizeOf54 rfl rfl rfl rfl rfl rfl rfl rfl (nB rfl)) ?_;rintro _ _ rfl;refine ⟨⟨⟨trivial, oLb 2 Try.isAgg33 rfl rfl rfl rfl⟩, .view (peekE (i := 19) 3 rfl rfl rfl) (oIm Try.runUnderlying33 Try.sizeOf54 rfl rfl hx2)⟩, ?_⟩;refine gde2_nil ?_;refine g_seq (g_block (g_seq (gRg ?_)));refine go_p rfl rfl rfl (oMv rfl) ?_;refine go_p rfl rfl rfl (oMv rfl) ?_;refine go_p rfl rfl rfl (o_cmp rfl rfl rfl) ?_;refine go_p rfl rfl rfl (oMv rfl) ?_
 apply go_or [(0, _), (1, _), (2, _), (7, _), (8, _)] 4 31 (t := 27) ⟨rfl, rfl, rfl, rfl, rfl, trivial⟩ rfl
 ·intro hg_1 hk1
  refine gWp rfl rfl rfl hg_1 rfl rfl (oFb fi_54_0 rfl) ?_;refine gWp rfl rfl rfl hg_1 rfl rfl (oLb 0 Try.isAgg3 rfl rfl rfl rfl) ?_;refine gWp rfl rfl rfl hg_1 rfl rfl (o_cmp rfl rfl rfl) ?_;refine go_p rfl rfl rfl (o_pickF rfl hg_1 rfl) ?_;exact gMt hk1 (rfl) ⟨rfl, rfl, rfl, rfl, rfl, trivial⟩
 ·intro hg_1 hk1
  refine gKp rfl rfl rfl hg_1 rfl rfl ?_;refine gKp rfl rfl rfl hg_1 rfl rfl ?_;refine gKp rfl rfl rfl hg_1 rfl rfl ?_;refine go_p rfl rfl rfl (o_pickT rfl hg_1 rfl) ?_;exact gMt hk1 (rfl) ⟨rfl, rfl, rfl, rfl, rfl, trivial⟩
 refine go_p rfl rfl rfl (oMv rfl) ?_
 apply go_or [(0, _), (1, _), (2, _), (7, _), (8, _)] 4 36 (t := 32) ⟨rfl, rfl, rfl, rfl, rfl, trivial⟩ rfl
 ·intro hg_2 hk2
  refine gWp rfl rfl rfl hg_2 rfl rfl (oFb fi_54_0 rfl) ?_;refine gWp rfl rfl rfl hg_2 rfl rfl (oLb 1 Try.isAgg3 rfl rfl rfl rfl) ?_;refine gWp rfl rfl rfl hg_2 rfl rfl (o_cmp rfl rfl rfl) ?_;refine go_p rfl rfl rfl (o_pickF rfl hg_2 rfl) ?_;exact gMt hk2 (rfl) ⟨rfl, rfl, rfl, rfl, rfl, trivial⟩
 ·intro hg_2 hk2
  refine gKp rfl rfl rfl hg_2 rfl rfl ?_;refine gKp rfl rfl rfl hg_2 rfl rfl ?_;refine gKp rfl rfl rfl hg_2 rfl rfl ?_;refine go_p rfl rfl rfl (o_pickT rfl hg_2 rfl) ?_;exact gMt hk2 (rfl) ⟨rfl, rfl, rfl, rfl, rfl, trivial⟩
 refine go_p rfl rfl rfl (oAs rfl) ?_;refine gNl ?_;refine gCd rfl (fun hc1 => ?_) (fun hc1 => ?_)
 ·replace hm := cond_t hc1 hm
  refine g_seq (gRg ?_);refine go_p rfl rfl rfl (oAs rfl) ?_;refine gNl (g_ret ?_)
  have hq1 := some_eq hm
  obtain ⟨rfl, rfl⟩ := Prod.mk.inj hq1;exact retK (ret_one' rfl (ret_tmp rfl) (permA 2 rfl (permA 2 rfl (permA 2 rfl (permA 2 rfl (permA 2 rfl (permA 2 rfl (permA 2 rfl (permA 2 rfl permN))))))))) ⟨_, _, _, _, _, _, _, _, _, _, rfl, rfl⟩
 ·replace hm := cond_f hc1 hm
  refine g_seq (gRg ?_);refine go_p rfl rfl rfl (oFb fi_54_0 rfl) ?_;refine go_p rfl rfl rfl (oLb 0 Try.isAgg3 rfl rfl rfl rfl) ?_;refine go_p rfl rfl rfl (o_cmp rfl rfl rfl) ?_;refine go_p rfl rfl rfl (oMv rfl) ?_
  apply go_and [(0, _), (1, _), (2, _), (7, _), (8, _)] 4 45 (t := 41) ⟨rfl, rfl, rfl, rfl, rfl, trivial⟩ rfl
  ·intro hg_3 hk3
   refine gWp rfl rfl rfl hg_3 rfl rfl (oFb fi_54_0 rfl) ?_;refine gWp rfl rfl rfl hg_3 rfl rfl (oLb 1 Try.isAgg3 rfl rfl rfl rfl) ?_;refine gWp rfl rfl rfl hg_3 rfl rfl (o_cmp rfl rfl rfl) ?_;refine go_p rfl rfl rfl (o_pickT rfl hg_3 rfl) ?_;exact gMt hk3 (rfl) ⟨rfl, rfl, rfl, rfl, rfl, trivial⟩
  ·intro hg_3 hk3
   refine gKp rfl rfl rfl hg_3 rfl rfl ?_;refine gKp rfl rfl rfl hg_3 rfl rfl ?_;refine gKp rfl rfl rfl hg_3 rfl rfl ?_;refine go_p rfl rfl rfl (o_pickF rfl hg_3 rfl) ?_;exact gMt hk3 (rfl) ⟨rfl, rfl, rfl, rfl, rfl, trivial⟩
  refine go_p rfl rfl rfl (oAs rfl) ?_;refine gNl ?_;refine gCd rfl (fun hc2 => ?_) (fun hc2 => ?_)
  ·replace hm := cond_t hc2 hm
   refine g_seq (gRg ?_);refine go_p rfl rfl rfl (oMv rfl) ?_;refine go_p rfl rfl rfl (oMv rfl) ?_;refine go_p rfl rfl rfl (oMv rfl) ?_
   cases hm
  ·replace hm := cond_f hc2 hm
   refine g_seq (gRg ?_);refine go_p rfl rfl rfl (oFb fi_54_0 rfl) ?_;refine go_p rfl rfl rfl (oLb 0 Try.isAgg3 rfl rfl rfl rfl) ?_;refine go_p rfl rfl rfl (o_cmp rfl rfl rfl) ?_;refine go_p rfl rfl rfl (oAs rfl) ?_;refine gNl ?_;refine gCd rfl (fun hc3 => ?_) (fun hc3 => ?_)
   ·replace hm := cond_t hc3 hm
    refine g_seq (gRg ?_);refine go_p rfl rfl rfl (oMv rfl) ?_;refine go_p rfl rfl rfl (oMv rfl) ?_;refine go_p rfl rfl rfl (oMv rfl) ?_;obtain ⟨⟨x3, s2⟩, hx3, hm⟩ := bS hm;refine go_op rfl rfl rfl (o_call_own [2, 3, 4, 5, 6, 7, 8, 9] Try.call39 rfl rfl (getL_c rfl (getL_c rfl (getL_c rfl (getL_c rfl (getL_c rfl (getL_c rfl (getL_c rfl (getL_c rfl getL_n)))))))) (w_store_Store_up hx3) (by rintro _ _ ⟨_, _, _, _, _, _, _, _, _, _, rfl, rfl⟩; rfl)) ?_;rintro _ _ ⟨_, ⟨a_q0c0, cap_q0c0, a_q0c1, m_q0c1, cap_q0c1, a_q0c2, cap_q0c2, c_q0c4c0, a_q0c4c1, cap_q0c4c1, rfl, rfl⟩, rfl⟩;refine go_ms (ms' := [box b1 54 [_, _, _, _], box b2 54 [_, _, _, _], box b_q0 51 [_, _, _, _, _, _], _, _, _, _, box b_q0c4 70 [_, _], _, _]) rfl ?_;refine go_p rfl rfl rfl (oAs rfl) ?_;refine gNl (g_ret ?_)
    have hq1 := some_eq hm
    obtain ⟨rfl, rfl⟩ := Prod.mk.inj hq1;exact retK (ret_one' rfl (ret_tmp rfl) (permA 2 rfl (permA 2 rfl (permA 2 rfl (permA 2 rfl (permA 2 rfl (permA 2 rfl (permA 2 rfl (permA 2 rfl permN))))))))) ⟨_, _, _, _, _, _, _, _, _, _, rfl, rfl⟩
   ·replace hm := cond_f hc3 hm
    refine g_seq (gRg ?_);refine go_p rfl rfl rfl (oFb fi_54_0 rfl) ?_;refine go_p rfl rfl rfl (oLb 1 Try.isAgg3 rfl rfl rfl rfl) ?_;refine go_p rfl rfl rfl (o_cmp rfl rfl rfl) ?_;refine go_p rfl rfl rfl (oAs rfl) ?_;refine gNl ?_;refine gCd rfl (fun hc4 => ?_) (fun hc4 => ?_)
    ·replace hm := cond_t hc4 hm
     refine g_seq (gRg ?_);refine go_p rfl rfl rfl (oMv rfl) ?_;refine go_p rfl rfl rfl (oMv rfl) ?_;refine go_p rfl rfl rfl (oMv rfl) ?_;obtain ⟨⟨x4, s3⟩, hx4, hm⟩ := bS hm;refine go_op rfl rfl rfl (o_call_own [2, 3, 4, 5, 6, 7, 8, 9] Try.call40 rfl rfl (getL_c rfl (getL_c rfl (getL_c rfl (getL_c rfl (getL_c rfl (getL_c rfl (getL_c rfl (getL_c rfl getL_n)))))))) (w_store_Store_down hx4) (by rintro _ _ ⟨_, _, _, _, _, _, _, _, _, _, rfl, rfl⟩; rfl)) ?_;rintro _ _ ⟨_, ⟨a_q0c0, cap_q0c0, a_q0c1, m_q0c1, cap_q0c1, a_q0c2, cap_q0c2, c_q0c4c0, a_q0c4c1, cap_q0c4c1, rfl, rfl⟩, rfl⟩;refine go_ms (ms' := [box b1 54 [_, _, _, _], box b2 54 [_, _, _, _], box b_q0 51 [_, _, _, _, _, _], _, _, _, _, box b_q0c4 70 [_, _], _, _]) rfl ?_;refine go_p rfl rfl rfl (oAs rfl) ?_;refine gNl (g_ret ?_)
     have hq1 := some_eq hm
     obtain ⟨rfl, rfl⟩ := Prod.mk.inj hq1;exact retK (ret_one' rfl (ret_tmp rfl) (permA 2 rfl (permA 2 rfl (permA 2 rfl (permA 2 rfl (permA 2 rfl (permA 2 rfl (permA 2 rfl (permA 2 rfl permN))))))))) ⟨_, _, _, _, _, _, _, _, _, _, rfl, rfl⟩
    ·replace hm := cond_f hc4 hm
     refine gSp (g_seq (gRg ?_));refine go_p rfl rfl rfl (oMv rfl) ?_;refine go_p rfl rfl rfl (oLg 0 Try.isAgg54 Try.sizeOf54 rfl rfl rfl rfl (nB rfl)) ?_;refine go_p rfl rfl rfl (oLg 1 Try.isAgg54 Try.sizeOf54 rfl rfl rfl rfl (nB rfl)) ?_;obtain ⟨⟨x5, s4⟩, hx5, hm⟩ := bS hm;refine go_op rfl rfl rfl (o_call_own [2, 3, 4, 5, 6, 7, 8, 9] Try.call41 rfl rfl (getL_c rfl (getL_c rfl (getL_c rfl (getL_c rfl (getL_c rfl (getL_c rfl (getL_c rfl (getL_c rfl getL_n)))))))) (w_store_Store_heads hx5) (by rintro _ _ ⟨_, _, _, _, _, _, _, _, _, _, rfl, rfl⟩; rfl)) ?_;rintro _ _ ⟨_, ⟨a_q0c0, cap_q0c0, a_q0c1, m_q0c1, cap_q0c1, a_q0c2, cap_q0c2, c_q0c4c0, a_q0c4c1, cap_q0c4c1, rfl, rfl⟩, rfl⟩;refine go_ms (ms' := [box b1 54 [_, _, _, _], box b2 54 [_, _, _, _], box b_q0 51 [_, _, _, _, _, _], _, _, _, _, box b_q0c4 70 [_, _], _, _]) rfl ?_;refine go_p rfl rfl rfl (oAs rfl) ?_;refine gNl (g_ret ?_)
     have hq1 := some_eq hm
     obtain ⟨rfl, rfl⟩ := Prod.mk.inj hq1;exact retK (ret_one' rfl (ret_tmp rfl) (permA 2 rfl (permA 2 rfl (permA 2 rfl (permA 2 rfl (permA 2 rfl (permA 2 rfl (permA 2 rfl (permA 2 rfl permN))))))))) ⟨_, _, _, _, _, _, _, _, _, _, rfl, rfl⟩
def m_store_Store_run_l1  : Nat -> (Bool × (List ANd) × (List StoreVariable) × (List Int) × (List (StorePair × Bool)) × (Nat × List StorePair) × (List StorePair)) -> Option (Int × StoreStore)
 | 0, _ => none
 | n + 1, (z1, l1, l2, l3, mm1, ch1, l4) =>
  (m_queue_Queue_store_pair_Pop (⟨ch1, l4⟩ : QueuePairs)).bind fun (x1, x2, s2) =>
  bif (!x2) then
   some (0, (⟨l1, l2, l3, mm1, (⟨s2.first, s2.more⟩ : QueuePairs), z1⟩ : StoreStore))
  else
   (m_store_Store_one (⟨l1, l2, l3, mm1, (⟨s2.first, s2.more⟩ : QueuePairs), z1⟩ : StoreStore) x1.p x1.q).bind fun (x3, s3) =>
   bif (!decide (x3 = 0)) then
    some (x3, (⟨s3.nodes, s3.vars, s3.levels, s3.seen, (⟨s3.wait.first, s3.wait.more⟩ : QueuePairs), s3.dead⟩ : StoreStore))
   else
    m_store_Store_run_l1 n (s3.dead, s3.nodes, s3.vars, s3.levels, s3.seen, s3.wait.first, s3.wait.more)
def m_store_Store_run (s1 : StoreStore)  : Option (Int × StoreStore) :=
 m_store_Store_run_l1 FU (s1.dead, s1.nodes, s1.vars, s1.levels, s1.seen, s1.wait.first, s1.wait.more)
theorem w_store_Store_run {s1 : StoreStore}  {r_1 : Int} {s_1 : StoreStore} {b_q0 : Nat} {a_q0c0 : Option Addr} {cap_q0c0 : Nat} {a_q0c1 : Option Addr} {m_q0c1 : Nat} {cap_q0c1 : Nat} {a_q0c2 : Option Addr} {cap_q0c2 : Nat} {b_q0c3 : Nat} {b_q0c4 : Nat} {c_q0c4c0 : Nat} {a_q0c4c1 : Option Addr} {cap_q0c4c1 : Nat} (hm : m_store_Store_run s1 = some (r_1, s_1)) : Go.V.Fn Try.prog 20 [.v (.pointer (some ⟨b_q0, 0, none⟩))] [box b_q0 51 [.v (.slice a_q0c0 s1.nodes.length cap_q0c0), .v (.slice a_q0c1 m_q0c1 cap_q0c1), .v (.slice a_q0c2 s1.levels.length cap_q0c2), .v (.map (some b_q0c3)), .v (.pointer (some ⟨b_q0c4, 0, none⟩)), .bool s1.dead], row a_q0c0 cap_q0c0 54 4 ANd.d s1.nodes, arr a_q0c1 m_q0c1 cap_q0c1 56 3 StoreVariable.d s1.vars, row a_q0c2 cap_q0c2 3 1 D.i64 s1.levels, mp b_q0c3 kStorePair D.bool s1.seen, box b_q0c4 70 [.v (.chan (some c_q0c4c0)), .v (.slice a_q0c4c1 s1.wait.more.length cap_q0c4c1)], chn c_q0c4c0 s1.wait.first.1 StorePair.d s1.wait.first.2, que a_q0c4c1 cap_q0c4c1 47 2 StorePair.d s1.wait.more] (fun d ms' => ∃ a_s_1c0 cap_s_1c0 a_s_1c1 m_s_1c1 cap_s_1c1 a_s_1c2 cap_s_1c2 c_s_1c4c0 a_s_1c4c1 cap_s_1c4c1, d = .i64 r_1 /\ ms' = [box b_q0 51 [.v (.slice a_s_1c0 s_1.nodes.length cap_s_1c0), .v (.slice a_s_1c1 m_s_1c1 cap_s_1c1), .v (.slice a_s_1c2 s_1.levels.length cap_s_1c2), .v (.map (some b_q0c3)), .v (.pointer (some ⟨b_q0c4, 0, none⟩)), .bool s_1.dead], row a_s_1c0 cap_s_1c0 54 4 ANd.d s_1.nodes, arr a_s_1c1 m_s_1c1 cap_s_1c1 56 3 StoreVariable.d s_1.vars, row a_s_1c2 cap_s_1c2 3 1 D.i64 s_1.levels, mp b_q0c3 kStorePair D.bool s_1.seen, box b_q0c4 70 [.v (.chan (some c_s_1c4c0)), .v (.slice a_s_1c4c1 s_1.wait.more.length cap_s_1c4c1)], chn c_s_1c4c0 s_1.wait.first.1 StorePair.d s_1.wait.first.2, que a_s_1c4c1 cap_s_1c4c1 47 2 StorePair.d s_1.wait.more]) := by
 unfold m_store_Store_run at hm;refine fn_intro Try.func20 rfl Try.ntmps20 rfl fun H0 fr w0 => ?_;refine g_seq (gRg ?_);refine go_p rfl rfl rfl (oAs rfl) ?_;refine gNl (g_block ?_);refine g_loop_m [(0, _)] [] (fun (st : (Bool × (List ANd) × (List StoreVariable) × (List Int) × (List (StorePair × Bool)) × (Nat × List StorePair) × (List StorePair))) (hid : (Option Addr × Nat) × (Option Addr × Nat × Nat) × (Option Addr × Nat) × Nat × (Option Addr × Nat)) => match st, hid with | (z1, l1, l2, l3, mm1, ch1, l4), ((a_q0c0, cap_q0c0), (a_q0c1, m_q0c1, cap_q0c1), (a_q0c2, cap_q0c2), c_q0c4c0, (a_q0c4c1, cap_q0c4c1)) => []) (fun F (st : (Bool × (List ANd) × (List StoreVariable) × (List Int) × (List (StorePair × Bool)) × (Nat × List StorePair) × (List StorePair))) (hid : (Option Addr × Nat) × (Option Addr × Nat × Nat) × (Option Addr × Nat) × Nat × (Option Addr × Nat)) => match st, hid with | (z1, l1, l2, l3, mm1, ch1, l4), ((a_q0c0, cap_q0c0), (a_q0c1, m_q0c1, cap_q0c1), (a_q0c2, cap_q0c2), c_q0c4c0, (a_q0c4c1, cap_q0c4c1)) => [box b_q0 51 [.v (.slice a_q0c0 l1.length cap_q0c0), .v (.slice a_q0c1 m_q0c1 cap_q0c1), .v (.slice a_q0c2 l3.length cap_q0c2), .v (.map (some b_q0c3)), .v (.pointer (some ⟨b_q0c4, 0, none⟩)), .bool z1], row a_q0c0 cap_q0c0 54 4 ANd.d l1, arr a_q0c1 m_q0c1 cap_q0c1 56 3 StoreVariable.d l2, row a_q0c2 cap_q0c2 3 1 D.i64 l3, mp b_q0c3 kStorePair D.bool mm1, box b_q0c4 70 [.v (.chan (some c_q0c4c0)), .v (.slice a_q0c4c1 l4.length cap_q0c4c1)], chn c_q0c4c0 ch1.1 StorePair.d ch1.2, que a_q0c4c1 cap_q0c4c1 47 2 StorePair.d l4]) ((_, _), (_, _, _), (_, _), _, (_, _)) hm (fun _ => rfl) ⟨rfl, trivial⟩ trivial trivial rfl ?_;rintro n ⟨z1, l1, l2, l3, mm1, ch1, l4⟩ ⟨⟨a_q0c0, cap_q0c0⟩, ⟨a_q0c1, m_q0c1, cap_q0c1⟩, ⟨a_q0c2, cap_q0c2⟩, c_q0c4c0, ⟨a_q0c4c1, cap_q0c4c1⟩⟩ hm;rw [m_store_Store_run_l1] at hm;refine g_norm (L' := [(0, _)]) (ms' := [box b_q0 51 [.v (.slice a_q0c0 l1.length cap_q0c0), .v (.slice a_q0c1 m_q0c1 cap_q0c1), .v (.slice a_q0c2 l3.length cap_q0c2), .v (.map (some b_q0c3)), .v (.pointer (some ⟨b_q0c4, 0, none⟩)), .bool z1], row a_q0c0 cap_q0c0 54 4 ANd.d l1, arr a_q0c1 m_q0c1 cap_q0c1 56 3 StoreVariable.d l2, row a_q0c2 cap_q0c2 3 1 D.i64 l3, mp b_q0c3 kStorePair D.bool mm1, box b_q0c4 70 [.v (.chan (some c_q0c4c0)), .v (.slice a_q0c4c1 l4.length cap_q0c4c1)], chn c_q0c4c0 ch1.1 StorePair.d ch1.2, que a_q0c4c1 cap_q0c4c1 47 2 StorePair.d l4]) rfl rfl ?_;refine g_block (g_seq (gRg ?_));refine go_p rfl rfl rfl (oMv rfl) ?_;refine go_p rfl rfl rfl (o_nilCheck_box rfl) ?_;refine go_p rfl rfl rfl (oFb fi_51_4 rfl) ?_;refine go_p rfl rfl rfl (oLb 0 Try.isAgg44 rfl rfl rfl rfl) ?_;obtain ⟨⟨x1, x2, s2⟩, hx1, hm⟩ := bS hm;refine go_op rfl rfl rfl (o_call_own [5, 6, 7] Try.call28 rfl rfl (getL_c rfl (getL_c rfl (getL_c rfl getL_n))) (w_queue_Queue_store_pair_Pop hx1) (by rintro _ _ ⟨_, _, _, rfl, rfl⟩; rfl)) ?_;rintro _ _ ⟨_, ⟨c_q0c4c0, a_q0c4c1, cap_q0c4c1, rfl, rfl⟩, rfl⟩
 refine go_ms (ms' := [box b_q0 51 [_, _, _, _, _, _], _, _, _, _, box b_q0c4 70 [_, _], _, _]) rfl ?_;refine go_p rfl rfl rfl (oMv rfl) ?_;refine go_p rfl rfl rfl (o_extract rfl rfl) ?_;refine go_p rfl rfl rfl (o_extract rfl rfl) ?_;refine go_op rfl rfl rfl (o_alloc_own Try.zeroValue47 (cs := [.i64 0, .i64 0]) rfl) ?_;rintro _ _ ⟨b1, rfl, rfl⟩;refine go_u rfl rfl (oSb 0 Try.sizeOf47 rfl rfl rfl rfl rfl rfl rfl rfl (nB rfl)) ?_;rintro _ _ rfl;refine go_ms (ms' := [box b1 47 [_, _], box b_q0 51 [_, _, _, _, _, _], _, _, _, _, box b_q0c4 70 [_, _], _, _]) rfl ?_;refine go_p rfl rfl rfl (oAs rfl) ?_;refine gNl (g_seq (g_seq (gRg ?_)));refine go_p rfl rfl rfl (oMv rfl) ?_;refine go_p rfl rfl rfl (o_not rfl) ?_;refine gNl ?_;refine gCd rfl (fun hc1 => ?_) (fun hc1 => ?_)
 ·replace hm := cond_t hc1 hm
  refine g_seq (gRg ?_);refine go_p rfl rfl rfl (oAs rfl) ?_;refine gNl (g_ret ?_)
  have hq1 := some_eq hm
  obtain ⟨rfl, rfl⟩ := Prod.mk.inj hq1;exact retK (ret_one' rfl (ret_tmp rfl) (permA 1 rfl (permA 1 rfl (permA 1 rfl (permA 1 rfl (permA 1 rfl (permA 1 rfl (permA 1 rfl (permA 1 rfl permN))))))))) ⟨_, _, _, _, _, _, _, _, _, _, rfl, rfl⟩
 ·replace hm := cond_f hc1 hm
  refine gSp (g_seq (gRg ?_));refine go_p rfl rfl rfl (oMv rfl) ?_;refine go_p rfl rfl rfl (o_indexAddr_abox Try.runUnderlying47 Try.sizeOf3 rfl rfl (by decide) (by decide)) ?_;refine go_p rfl rfl rfl (oLb 0 Try.isAgg3 rfl rfl rfl rfl) ?_;refine go_p rfl rfl rfl (o_indexAddr_abox Try.runUnderlying47 Try.sizeOf3 rfl rfl (by decide) (by decide)) ?_;refine go_p rfl rfl rfl (oLb 0 Try.isAgg3 rfl rfl rfl rfl) ?_;obtain ⟨⟨x3, s3⟩, hx2, hm⟩ := bS hm;refine go_op rfl rfl rfl (o_call_own [1, 2, 3, 4, 5, 6, 7, 8] Try.call29 rfl rfl (getL_c rfl (getL_c rfl (getL_c rfl (getL_c rfl (getL_c rfl (getL_c rfl (getL_c rfl (getL_c rfl getL_n)))))))) (w_store_Store_one hx2) (by rintro _ _ ⟨_, _, _, _, _, _, _, _, _, _, rfl, rfl⟩; rfl)) ?_;rintro _ _ ⟨_, ⟨a_q0c0, cap_q0c0, a_q0c1, m_q0c1, cap_q0c1, a_q0c2, cap_q0c2, c_q0c4c0, a_q0c4c1, cap_q0c4c1, rfl, rfl⟩, rfl⟩;refine go_ms (ms' := [box b1 47 [_, _], box b_q0 51 [_, _, _, _, _, _], _, _, _, _, box b_q0c4 70 [_, _], _, _]) rfl ?_;refine go_p rfl rfl rfl (oAs rfl) ?_;refine gNl (g_seq (gRg ?_));refine go_p rfl rfl rfl (oMv rfl) ?_;refine go_p rfl rfl rfl (o_cmp rfl rfl rfl) ?_;refine gNl ?_;refine gCd rfl (fun hc2 => ?_) (fun hc2 => ?_)
  ·replace hm := cond_t hc2 hm
   refine g_seq (gRg ?_);refine go_p rfl rfl rfl (oMv rfl) ?_;refine go_p rfl rfl rfl (oAs rfl) ?_;refine gNl (g_ret ?_)
   have hq1 := some_eq hm
   obtain ⟨rfl, rfl⟩ := Prod.mk.inj hq1;exact retK (ret_one' rfl (ret_tmp rfl) (permA 1 rfl (permA 1 rfl (permA 1 rfl (permA 1 rfl (permA 1 rfl (permA 1 rfl (permA 1 rfl (permA 1 rfl permN))))))))) ⟨_, _, _, _, _, _, _, _, _, _, rfl, rfl⟩
  ·replace hm := cond_f hc2 hm
   refine gSp ?_;exact ⟨_, ((_, _), (_, _, _), (_, _), _, (_, _)), hm, trivial, ⟨rfl, trivial⟩, [_], rfl⟩
theorem fi_51_5 : FieldIs Try.prog 51 5 5 1 false := ⟨⟨_, _, Try.runUnderlying51, rfl, rfl, Try.sizeOf4, by decide, Try.isAgg4⟩⟩
def m_store_Store_Below (s1 : StoreStore) (a1 : Int) (bv1 : Int)  : Option (Int × StoreStore) :=
 (m_there (⟨s1.nodes, s1.vars, s1.levels, s1.seen, (⟨s1.wait.first, s1.wait.more⟩ : QueuePairs), s1.dead⟩ : StoreStore) [a1, bv1]).bind fun x1 =>
 bif (!x1) then
  some (3, (⟨s1.nodes, s1.vars, s1.levels, s1.seen, (⟨s1.wait.first, s1.wait.more⟩ : QueuePairs), s1.dead⟩ : StoreStore))
 else
  bif s1.dead then
   some (11, (⟨s1.nodes, s1.vars, s1.levels, s1.seen, (⟨s1.wait.first, s1.wait.more⟩ : QueuePairs), s1.dead⟩ : StoreStore))
  else
   (m_store_Store_ask (⟨s1.nodes, s1.vars, s1.levels, s1.seen, (⟨s1.wait.first, s1.wait.more⟩ : QueuePairs), s1.dead⟩ : StoreStore) a1 bv1).bind fun s2 =>
   (m_store_Store_run (⟨s2.nodes, s2.vars, s2.levels, s2.seen, (⟨s2.wait.first, s2.wait.more⟩ : QueuePairs), s2.dead⟩ : StoreStore)).bind fun (x2, s3) =>
   some (x2, (⟨s3.nodes, s3.vars, s3.levels, s3.seen, (⟨s3.wait.first, s3.wait.more⟩ : QueuePairs), (!decide (x2 = 0))⟩ : StoreStore))
theorem w_store_Store_Below {s1 : StoreStore} {a1 : Int} {bv1 : Int}  {r_1 : Int} {s_1 : StoreStore} {b_q0 : Nat} {a_q0c0 : Option Addr} {cap_q0c0 : Nat} {a_q0c1 : Option Addr} {m_q0c1 : Nat} {cap_q0c1 : Nat} {a_q0c2 : Option Addr} {cap_q0c2 : Nat} {b_q0c3 : Nat} {b_q0c4 : Nat} {c_q0c4c0 : Nat} {a_q0c4c1 : Option Addr} {cap_q0c4c1 : Nat} (hm : m_store_Store_Below s1 a1 bv1 = some (r_1, s_1)) : Go.V.Fn Try.prog 9 [.v (.pointer (some ⟨b_q0, 0, none⟩)), .i64 a1, .i64 bv1] [box b_q0 51 [.v (.slice a_q0c0 s1.nodes.length cap_q0c0), .v (.slice a_q0c1 m_q0c1 cap_q0c1), .v (.slice a_q0c2 s1.levels.length cap_q0c2), .v (.map (some b_q0c3)), .v (.pointer (some ⟨b_q0c4, 0, none⟩)), .bool s1.dead], row a_q0c0 cap_q0c0 54 4 ANd.d s1.nodes, arr a_q0c1 m_q0c1 cap_q0c1 56 3 StoreVariable.d s1.vars, row a_q0c2 cap_q0c2 3 1 D.i64 s1.levels, mp b_q0c3 kStorePair D.bool s1.seen, box b_q0c4 70 [.v (.chan (some c_q0c4c0)), .v (.slice a_q0c4c1 s1.wait.more.length cap_q0c4c1)], chn c_q0c4c0 s1.wait.first.1 StorePair.d s1.wait.first.2, que a_q0c4c1 cap_q0c4c1 47 2 StorePair.d s1.wait.more] (fun d ms' => ∃ a_s_1c0 cap_s_1c0 a_s_1c1 m_s_1c1 cap_s_1c1 a_s_1c2 cap_s_1c2 c_s_1c4c0 a_s_1c4c1 cap_s_1c4c1, d = .i64 r_1 /\ ms' = [box b_q0 51 [.v (.slice a_s_1c0 s_1.nodes.length cap_s_1c0), .v (.slice a_s_1c1 m_s_1c1 cap_s_1c1), .v (.slice a_s_1c2 s_1.levels.length cap_s_1c2), .v (.map (some b_q0c3)), .v (.pointer (some ⟨b_q0c4, 0, none⟩)), .bool s_1.dead], row a_s_1c0 cap_s_1c0 54 4 ANd.d s_1.nodes, arr a_s_1c1 m_s_1c1 cap_s_1c1 56 3 StoreVariable.d s_1.vars, row a_s_1c2 cap_s_1c2 3 1 D.i64 s_1.levels, mp b_q0c3 kStorePair D.bool s_1.seen, box b_q0c4 70 [.v (.chan (some c_s_1c4c0)), .v (.slice a_s_1c4c1 s_1.wait.more.length cap_s_1c4c1)], chn c_s_1c4c0 s_1.wait.first.1 StorePair.d s_1.wait.first.2, que a_s_1c4c1 cap_s_1c4c1 47 2 StorePair.d s_1.wait.more]) := by
 unfold m_store_Store_Below at hm;refine fn_intro Try.func9 rfl Try.ntmps9 rfl fun H0 fr w0 => ?_;refine g_seq (gRg ?_);refine go_p rfl rfl rfl (oAs rfl) ?_;refine gNl (g_seq (g_block (g_seq (gRg ?_))));refine go_p rfl rfl rfl (oMv rfl) ?_;refine go_p rfl rfl rfl (oMv rfl) ?_;refine go_p rfl rfl rfl (oMv rfl) ?_;refine go_p rfl rfl rfl (o_buildSlice (xs := [_, _]) (f := D.i64) (l := [_, _]) Try.runUnderlying49 Try.sizeOf3 Try.zeroValue3 rfl rfl rfl (fun _ => ⟨rfl, rfl, rfl⟩) rfl) ?_;obtain ⟨x1, hx1, hm⟩ := bS hm;refine go_p rfl rfl rfl (o_call_own_p [0, 1, 2, 3, 4, 5, 6, 7] Try.call16 rfl rfl (getL_c rfl (getL_c rfl (getL_c rfl (getL_c rfl (getL_c rfl (getL_c rfl (getL_c rfl (getL_c rfl getL_n)))))))) (w_there hx1)) ?_;refine go_p rfl rfl rfl (o_not rfl) ?_;refine go_p rfl rfl rfl (oAs rfl) ?_;refine gNl ?_;refine gCd rfl (fun hc1 => ?_) (fun hc1 => ?_)
 ·replace hm := cond_t hc1 hm
  refine g_seq (gRg ?_);refine go_p rfl rfl rfl (oAs rfl) ?_;refine gNl (g_ret ?_)
  have hq1 := some_eq hm
  obtain ⟨rfl, rfl⟩ := Prod.mk.inj hq1;exact retK (ret_one' rfl (ret_tmp rfl) (permA 0 rfl (permA 0 rfl (permA 0 rfl (permA 0 rfl (permA 0 rfl (permA 0 rfl (permA 0 rfl (permA 0 rfl permN))))))))) ⟨_, _, _, _, _, _, _, _, _, _, rfl, rfl⟩
 ·replace hm := cond_f hc1 hm
  refine g_seq (gRg ?_);refine go_p rfl rfl rfl (oMv rfl) ?_;refine go_p rfl rfl rfl (o_nilCheck_box rfl) ?_;refine go_p rfl rfl rfl (oFb fi_51_5 rfl) ?_;refine go_p rfl rfl rfl (oLb 0 Try.isAgg4 rfl rfl rfl rfl) ?_;refine go_p rfl rfl rfl (oAs rfl) ?_;refine gNl ?_;refine gCd rfl (fun hc2 => ?_) (fun hc2 => ?_)
  ·replace hm := cond_t hc2 hm
   refine g_seq (gRg ?_);refine go_p rfl rfl rfl (oAs rfl) ?_;refine gNl (g_ret ?_)
   have hq1 := some_eq hm
   obtain ⟨rfl, rfl⟩ := Prod.mk.inj hq1;exact retK (ret_one' rfl (ret_tmp rfl) (permA 0 rfl (permA 0 rfl (permA 0 rfl (permA 0 rfl (permA 0 rfl (permA 0 rfl (permA 0 rfl (permA 0 rfl permN))))))))) ⟨_, _, _, _, _, _, _, _, _, _, rfl, rfl⟩
  ·replace hm := cond_f hc2 hm
   refine gSp (g_seq (gRg ?_));refine go_p rfl rfl rfl (oMv rfl) ?_;refine go_p rfl rfl rfl (oMv rfl) ?_;refine go_p rfl rfl rfl (oMv rfl) ?_;obtain ⟨s2, hx2, hm⟩ := bS hm;refine go_op rfl rfl rfl (o_call_own [0, 1, 2, 3, 4, 5, 6, 7] Try.call19 rfl rfl (getL_c rfl (getL_c rfl (getL_c rfl (getL_c rfl (getL_c rfl (getL_c rfl (getL_c rfl (getL_c rfl getL_n)))))))) (w_store_Store_ask hx2) (by rintro _ _ ⟨_, _, _, _, _, _, _, _, _, _, rfl, rfl⟩; rfl)) ?_;rintro _ _ ⟨_, ⟨a_q0c0, cap_q0c0, a_q0c1, m_q0c1, cap_q0c1, a_q0c2, cap_q0c2, c_q0c4c0, a_q0c4c1, cap_q0c4c1, rfl, rfl⟩, rfl⟩;refine go_ms (ms' := [box b_q0 51 [_, _, _, _, _, _], _, _, _, _, box b_q0c4 70 [_, _], _, _]) rfl ?_;refine gNl (g_seq (gRg ?_));refine go_p rfl rfl rfl (oMv rfl) ?_;obtain ⟨⟨x2, s3⟩, hx3, hm⟩ := bS hm;refine go_op rfl rfl rfl (o_call_own [0, 1, 2, 3, 4, 5, 6, 7] Try.call20 rfl rfl (getL_c rfl (getL_c rfl (getL_c rfl (getL_c rfl (getL_c rfl (getL_c rfl (getL_c rfl (getL_c rfl getL_n)))))))) (w_store_Store_run hx3) (by rintro _ _ ⟨_, _, _, _, _, _, _, _, _, _, rfl, rfl⟩; rfl)) ?_;rintro _ _ ⟨_, ⟨a_q0c0, cap_q0c0, a_q0c1, m_q0c1, cap_q0c1, a_q0c2, cap_q0c2, c_q0c4c0, a_q0c4c1, cap_q0c4c1, rfl, rfl⟩, rfl⟩;refine go_ms (ms' := [box b_q0 51 [_, _, _, _, _, _], _, _, _, _, box b_q0c4 70 [_, _], _, _]) rfl ?_;refine go_p rfl rfl rfl (oAs rfl) ?_;refine gNl (g_seq (gRg ?_));refine go_p rfl rfl rfl (oMv rfl) ?_;refine go_p rfl rfl rfl (oMv rfl) ?_;refine go_p rfl rfl rfl (o_cmp rfl rfl rfl) ?_;refine go_p rfl rfl rfl (o_nilCheck_box rfl) ?_;refine go_p rfl rfl rfl (oFb fi_51_5 rfl) ?_;refine go_u rfl rfl (oSb 0 Try.sizeOf4 rfl rfl rfl rfl rfl rfl rfl rfl (nB rfl)) ?_;rintro _ _ rfl;refine go_ms (ms' := [box b_q0 51 [_, _, _, _, _, _], _, _, _, _, box b_q0c4 70 [_, _], _, _]) rfl ?_;refine gNl (g_seq (gRg ?_));refine go_p rfl rfl rfl (oMv rfl) ?_;refine go_p rfl rfl rfl (oAs rfl) ?_;refine gNl (g_ret ?_)
   have hq1 := some_eq hm
   obtain ⟨rfl, rfl⟩ := Prod.mk.inj hq1;exact retK (ret_one' rfl (ret_tmp rfl) (permA 0 rfl (permA 0 rfl (permA 0 rfl (permA 0 rfl (permA 0 rfl (permA 0 rfl (permA 0 rfl (permA 0 rfl permN))))))))) ⟨_, _, _, _, _, _, _, _, _, _, rfl, rfl⟩
def m_store_Store_BelowN (a1 : Int) (bv1 : Int)  : Option Int :=
 (m_thereN [a1, bv1]).bind fun x1 =>
 bif (!x1) then
  some 3
 else
  none
theorem w_store_Store_BelowN {a1 : Int} {bv1 : Int}  {r_1 : Int} (hm : m_store_Store_BelowN a1 bv1 = some r_1) : Fn0 Try.prog 9 [.v (.pointer none), .i64 a1, .i64 bv1] (.i64 r_1) := by
 unfold m_store_Store_BelowN at hm;refine fn_intro Try.func9 rfl Try.ntmps9 rfl fun H0 fr w0 => ?_;refine g_seq (gRg ?_);refine go_p rfl rfl rfl (oAs rfl) ?_;refine gNl (g_seq (g_block (g_seq (gRg ?_))));refine go_p rfl rfl rfl (oMv rfl) ?_;refine go_p rfl rfl rfl (oMv rfl) ?_;refine go_p rfl rfl rfl (oMv rfl) ?_;refine go_p rfl rfl rfl (o_buildSlice (xs := [_, _]) (f := D.i64) (l := [_, _]) Try.runUnderlying49 Try.sizeOf3 Try.zeroValue3 rfl rfl rfl (fun _ => ⟨rfl, rfl, rfl⟩) rfl) ?_;obtain ⟨x1, hx1, hm⟩ := bS hm;refine go_p rfl rfl rfl (o_call0 Try.call16 rfl (w_thereN hx1)) ?_;refine go_p rfl rfl rfl (o_not rfl) ?_;refine go_p rfl rfl rfl (oAs rfl) ?_;refine gNl ?_;refine gCd rfl (fun hc1 => ?_) (fun hc1 => ?_)
 ·replace hm := cond_t hc1 hm
  refine g_seq (gRg ?_);refine go_p rfl rfl rfl (oAs rfl) ?_;refine gNl (g_ret ?_);exact retK (ret_one' rfl (ret_tmp rfl) (perm_drop _)) (congrArg (fun (p : Int) => (.i64 p : D)) (some_eq hm))
 ·replace hm := cond_f hc1 hm
  refine g_seq (gRg ?_);refine go_p rfl rfl rfl (oMv rfl) ?_
  cases hm
structure StoreTwo where
 p : Int
 q : Int
def StoreTwo.d (x : StoreTwo) : D := .agg [.i64 x.p, .i64 x.q]
theorem pl_35 : ∀ fs, (∀ w, (underlying 35).run Try.prog w = .ok (.struct fs) w) -> placesOf Try.prog fs [(0, 1), (1, 1)] := by
 intro fs h w
 have := (h w).symm.trans (Try.runUnderlying35 w)
 simp only [Result.ok.injEq, TypeDesc.struct.injEq, and_true] at this;subst this
 simp [Try.sizeOf3, Try.sizeOf33, Sem.run]
structure ATy where
 l : (List ANd)
 root : Int
def ATy.d (x : ATy) : D := .agg [.list 4 ANd.d x.l, .i64 x.root]
def m_store_Store_ToldN (i1 : Int)  : Option (ATy × (List StoreTwo) × Int) :=
 (m_thereN [i1]).bind fun x1 =>
 bif (!x1) then
  some ((⟨([] : List ANd), 0⟩ : ATy), [], 3)
 else
  none
theorem w_store_Store_ToldN {i1 : Int}  {r_1 : ATy} {r_2 : (List StoreTwo)} {r_3 : Int} (hm : m_store_Store_ToldN i1 = some (r_1, r_2, r_3)) : Fn0 Try.prog 10 [.v (.pointer none), .i64 i1] (.tup [ATy.d r_1, .list 2 StoreTwo.d r_2, .i64 r_3]) := by
 unfold m_store_Store_ToldN at hm;refine fn_intro Try.func10 rfl Try.ntmps10 rfl fun H0 fr w0 => ?_;refine g_seq (gRg ?_);refine go_op rfl rfl rfl (o_alloc_own Try.zeroValue35 (cs := [.list 4 ANd.d [], .i64 0]) rfl) ?_;rintro _ _ ⟨b1, rfl, rfl⟩;refine go_p rfl rfl rfl (oAs rfl) ?_;refine go_conv (nilE (i := 5) (sz := 2) (f := StoreTwo.d) rfl).refines ?_;refine go_p rfl rfl rfl (oAs rfl) ?_;refine gNl (g_seq (g_block (g_seq (gRg ?_))));refine go_p rfl rfl rfl (oMv rfl) ?_;refine go_p rfl rfl rfl (oMv rfl) ?_;refine go_p rfl rfl rfl (o_buildSlice (xs := [_]) (f := D.i64) (l := [_]) Try.runUnderlying49 Try.sizeOf3 Try.zeroValue3 rfl rfl rfl (fun _ => ⟨rfl, rfl, rfl⟩) rfl) ?_;obtain ⟨x1, hx1, hm⟩ := bS hm;refine go_p rfl rfl rfl (o_call0 Try.call16 rfl (w_thereN hx1)) ?_;refine go_p rfl rfl rfl (o_not rfl) ?_;refine go_p rfl rfl rfl (oAs rfl) ?_;refine gNl ?_;refine gCd rfl (fun hc1 => ?_) (fun hc1 => ?_)
 ·replace hm := cond_t hc1 hm
  refine g_seq (gRg ?_);refine go_p rfl rfl rfl (o_build (zs := [.list 4 ANd.d [], .v (.int .i64 0)]) Try.runUnderlying35 Try.zeroValue35 (pl_35 _ Try.runUnderlying35) rfl rfl rfl rfl) ?_;refine go_u rfl rfl (oSb 0 Try.sizeOf35 rfl rfl rfl rfl rfl rfl rfl rfl (nB rfl)) ?_;rintro _ _ rfl;refine go_ms (ms' := [box b1 35 [_, _]]) rfl ?_;refine go_p rfl rfl rfl (oAs rfl) ?_;refine go_conv (nilE (i := 5) (sz := 2) (f := StoreTwo.d) rfl).refines ?_;refine go_p rfl rfl rfl (oAs rfl) ?_;refine gNl (g_ret ?_);exact retK (ret_many (ds := [_, _, _]) rfl (by decide) ⟨ret_cell 0 rfl rfl rfl Try.isAgg35 Try.sizeOf35 rfl, ⟨ret_tmp rfl, ⟨ret_tmp rfl, rfl⟩⟩⟩ (perm_drop _)) (congrArg (fun (p : (ATy × (List StoreTwo) × Int)) => D.tup [ATy.d p.1, .list 2 StoreTwo.d p.2.1, .i64 p.2.2]) (some_eq hm))
 ·replace hm := cond_f hc1 hm
  refine g_seq (gRg ?_);refine go_p rfl rfl rfl (oMv rfl) ?_
  cases hm
theorem pl_66 : ∀ fs, (∀ w, (underlying 66).run Try.prog w = .ok (.struct fs) w) -> placesOf Try.prog fs [(0, 1), (1, 1), (2, 1), (3, 1), (4, 1)] := by
 intro fs h w
 have := (h w).symm.trans (Try.runUnderlying66 w)
 simp only [Result.ok.injEq, TypeDesc.struct.injEq, and_true] at this;subst this
 simp [Try.sizeOf23, Try.sizeOf25, Try.sizeOf3, Try.sizeOf64, Sem.run]
def m_store_Store_CopyN (i1 : Int) (above1 : Int) (level1 : Int)  : Option (Int × Int) :=
 (m_thereN [i1]).bind fun x1 =>
 bif (!x1) then
  some (0, 3)
 else
  bif ((decide (level1 < 0)) || (decide (100 < level1))) then
   some (0, 2)
  else
   none
theorem w_store_Store_CopyN {i1 : Int} {above1 : Int} {level1 : Int}  {r_1 : Int} {r_2 : Int} (hm : m_store_Store_CopyN i1 above1 level1 = some (r_1, r_2)) : Fn0 Try.prog 11 [.v (.pointer none), .i64 i1, .i64 above1, .i64 level1] (.tup [.i64 r_1, .i64 r_2]) := by
 unfold m_store_Store_CopyN at hm;refine fn_intro Try.func11 rfl Try.ntmps11 rfl fun H0 fr w0 => ?_;refine g_seq (gRg ?_);refine go_p rfl rfl rfl (oAs rfl) ?_;refine go_p rfl rfl rfl (oAs rfl) ?_;refine gNl (g_seq (g_block (g_seq (gRg ?_))));refine go_p rfl rfl rfl (oMv rfl) ?_;refine go_p rfl rfl rfl (oMv rfl) ?_;refine go_p rfl rfl rfl (o_buildSlice (xs := [_]) (f := D.i64) (l := [_]) Try.runUnderlying49 Try.sizeOf3 Try.zeroValue3 rfl rfl rfl (fun _ => ⟨rfl, rfl, rfl⟩) rfl) ?_;obtain ⟨x1, hx1, hm⟩ := bS hm;refine go_p rfl rfl rfl (o_call0 Try.call16 rfl (w_thereN hx1)) ?_;refine go_p rfl rfl rfl (o_not rfl) ?_;refine go_p rfl rfl rfl (oAs rfl) ?_;refine gNl ?_;refine gCd rfl (fun hc1 => ?_) (fun hc1 => ?_)
 ·replace hm := cond_t hc1 hm
  refine g_seq (gRg ?_);refine go_p rfl rfl rfl (oAs rfl) ?_;refine go_p rfl rfl rfl (oAs rfl) ?_;refine gNl (g_ret ?_);exact retK (ret_many (ds := [_, _]) rfl (by decide) ⟨ret_tmp rfl, ⟨ret_tmp rfl, rfl⟩⟩ (perm_drop _)) (congrArg (fun (p : (Int × Int)) => D.tup [.i64 p.1, .i64 p.2]) (some_eq hm))
 ·replace hm := cond_f hc1 hm
  refine g_seq (gRg ?_);refine go_p rfl rfl rfl (oMv rfl) ?_;refine go_p rfl rfl rfl (o_cmp rfl rfl rfl) ?_;refine go_p rfl rfl rfl (oMv rfl) ?_
  apply go_or [(0, _), (1, _), (2, _), (3, _)] 3 24 (t := 21) ⟨rfl, rfl, rfl, rfl, trivial⟩ rfl
  ·intro hg_1 hk1
   refine gWp rfl rfl rfl hg_1 rfl rfl (oMv rfl) ?_;refine gWp rfl rfl rfl hg_1 rfl rfl (o_cmp rfl rfl rfl) ?_;refine go_p rfl rfl rfl (o_pickF rfl hg_1 rfl) ?_;exact gMt hk1 (rfl) ⟨rfl, rfl, rfl, rfl, trivial⟩
  ·intro hg_1 hk1
   refine gKp rfl rfl rfl hg_1 rfl rfl ?_;refine gKp rfl rfl rfl hg_1 rfl rfl ?_;refine go_p rfl rfl rfl (o_pickT rfl hg_1 rfl) ?_;exact gMt hk1 (rfl) ⟨rfl, rfl, rfl, rfl, trivial⟩
  refine go_p rfl rfl rfl (oAs rfl) ?_;refine gNl ?_;refine gCd rfl (fun hc2 => ?_) (fun hc2 => ?_)
  ·replace hm := cond_t hc2 hm
   refine g_seq (gRg ?_);refine go_p rfl rfl rfl (oAs rfl) ?_;refine go_p rfl rfl rfl (oAs rfl) ?_;refine gNl (g_ret ?_);exact retK (ret_many (ds := [_, _]) rfl (by decide) ⟨ret_tmp rfl, ⟨ret_tmp rfl, rfl⟩⟩ (perm_drop _)) (congrArg (fun (p : (Int × Int)) => D.tup [.i64 p.1, .i64 p.2]) (some_eq hm))
  ·replace hm := cond_f hc2 hm
   refine gSp (g_seq (gRg ?_));refine go_p rfl rfl rfl (oMv rfl) ?_;refine go_p rfl rfl rfl (oMv rfl) ?_;refine go_p rfl rfl rfl (oMv rfl) ?_;refine go_op rfl rfl rfl (o_makeMap (fk := kI64) (fv := D.i64)) ?_;rintro _ _ ⟨b1, rfl, rfl⟩;refine go_p rfl rfl rfl (o_build (zs := [.v (.pointer none), .v (.int .i64 0), .v (.int .i64 0), .v (.map none), .v (.int .i64 0)]) Try.runUnderlying66 Try.zeroValue66 (pl_66 _ Try.runUnderlying66) rfl rfl rfl rfl) ?_;refine go_op rfl rfl rfl (o_box_own rfl rfl rfl) ?_;rintro _ _ ⟨b2, rfl, rfl⟩;refine go_p rfl rfl rfl (oAs rfl) ?_;refine gNl (g_seq (gRg ?_));refine go_p rfl rfl rfl (oMv rfl) ?_;refine go_p rfl rfl rfl (oMv rfl) ?_
   cases hm
def m_store_Store_Level (s1 : StoreStore) (i1 : Int)  : Option Int :=
 (m_there (⟨s1.nodes, s1.vars, s1.levels, s1.seen, (⟨s1.wait.first, s1.wait.more⟩ : QueuePairs), s1.dead⟩ : StoreStore) [i1]).bind fun x1 =>
 bif (!x1) then
  some (-1)
 else
  (idx s1.levels i1).bind fun x2 =>
  some x2
theorem w_store_Store_Level {s1 : StoreStore} {i1 : Int}  {r_1 : Int} {b_q0 : Nat} {a_q0c0 : Option Addr} {cap_q0c0 : Nat} {a_q0c1 : Option Addr} {m_q0c1 : Nat} {cap_q0c1 : Nat} {a_q0c2 : Option Addr} {cap_q0c2 : Nat} {b_q0c3 : Nat} {b_q0c4 : Nat} {c_q0c4c0 : Nat} {a_q0c4c1 : Option Addr} {cap_q0c4c1 : Nat} (hm : m_store_Store_Level s1 i1 = some r_1) : Go.V.Fn Try.prog 12 [.v (.pointer (some ⟨b_q0, 0, none⟩)), .i64 i1] [box b_q0 51 [.v (.slice a_q0c0 s1.nodes.length cap_q0c0), .v (.slice a_q0c1 m_q0c1 cap_q0c1), .v (.slice a_q0c2 s1.levels.length cap_q0c2), .v (.map (some b_q0c3)), .v (.pointer (some ⟨b_q0c4, 0, none⟩)), .bool s1.dead], row a_q0c0 cap_q0c0 54 4 ANd.d s1.nodes, arr a_q0c1 m_q0c1 cap_q0c1 56 3 StoreVariable.d s1.vars, row a_q0c2 cap_q0c2 3 1 D.i64 s1.levels, mp b_q0c3 kStorePair D.bool s1.seen, box b_q0c4 70 [.v (.chan (some c_q0c4c0)), .v (.slice a_q0c4c1 s1.wait.more.length cap_q0c4c1)], chn c_q0c4c0 s1.wait.first.1 StorePair.d s1.wait.first.2, que a_q0c4c1 cap_q0c4c1 47 2 StorePair.d s1.wait.more] (fun d ms' => d = .i64 r_1 /\ ms' = [box b_q0 51 [.v (.slice a_q0c0 s1.nodes.length cap_q0c0), .v (.slice a_q0c1 m_q0c1 cap_q0c1), .v (.slice a_q0c2 s1.levels.length cap_q0c2), .v (.map (some b_q0c3)), .v (.pointer (some ⟨b_q0c4, 0, none⟩)), .bool s1.dead], row a_q0c0 cap_q0c0 54 4 ANd.d s1.nodes, arr a_q0c1 m_q0c1 cap_q0c1 56 3 StoreVariable.d s1.vars, row a_q0c2 cap_q0c2 3 1 D.i64 s1.levels, mp b_q0c3 kStorePair D.bool s1.seen, box b_q0c4 70 [.v (.chan (some c_q0c4c0)), .v (.slice a_q0c4c1 s1.wait.more.length cap_q0c4c1)], chn c_q0c4c0 s1.wait.first.1 StorePair.d s1.wait.first.2, que a_q0c4c1 cap_q0c4c1 47 2 StorePair.d s1.wait.more]) := by
 unfold m_store_Store_Level at hm;refine fn_intro Try.func12 rfl Try.ntmps12 rfl fun H0 fr w0 => ?_;refine g_seq (gRg ?_);refine go_p rfl rfl rfl (oAs rfl) ?_;refine gNl (g_seq (g_seq (gRg ?_)));refine go_p rfl rfl rfl (oMv rfl) ?_;refine go_p rfl rfl rfl (oMv rfl) ?_;refine go_p rfl rfl rfl (o_buildSlice (xs := [_]) (f := D.i64) (l := [_]) Try.runUnderlying49 Try.sizeOf3 Try.zeroValue3 rfl rfl rfl (fun _ => ⟨rfl, rfl, rfl⟩) rfl) ?_;obtain ⟨x1, hx1, hm⟩ := bS hm;refine go_p rfl rfl rfl (o_call_own_p [0, 1, 2, 3, 4, 5, 6, 7] Try.call16 rfl rfl (getL_c rfl (getL_c rfl (getL_c rfl (getL_c rfl (getL_c rfl (getL_c rfl (getL_c rfl (getL_c rfl getL_n)))))))) (w_there hx1)) ?_;refine go_p rfl rfl rfl (o_not rfl) ?_;refine gNl ?_;refine gCd rfl (fun hc1 => ?_) (fun hc1 => ?_)
 ·replace hm := cond_t hc1 hm
  refine g_seq (gRg ?_);refine go_p rfl rfl rfl (oAs rfl) ?_;refine gNl (g_ret ?_);obtain rfl := some_eq hm;exact retK (ret_one' rfl (ret_tmp rfl) (permA 0 rfl (permA 0 rfl (permA 0 rfl (permA 0 rfl (permA 0 rfl (permA 0 rfl (permA 0 rfl (permA 0 rfl permN))))))))) ⟨rfl, rfl⟩
 ·replace hm := cond_f hc1 hm
  refine gSp (g_seq (gRg ?_));refine go_p rfl rfl rfl (oMv rfl) ?_;refine go_p rfl rfl rfl (o_nilCheck_box rfl) ?_;refine go_p rfl rfl rfl (oFb fi_51_2 rfl) ?_;refine go_p rfl rfl rfl (oLb 0 Try.isAgg49 rfl rfl rfl rfl) ?_;refine go_p rfl rfl rfl (oMv rfl) ?_;obtain ⟨x2, hx2, hm⟩ := bS hm;refine go_p rfl rfl rfl (.view (peekE (i := 13) 3 rfl rfl rfl) (oIm Try.runUnderlying49 Try.sizeOf3 rfl rfl hx2)) ?_;refine go_p rfl rfl rfl (o_load Try.isAgg3 rfl rfl) ?_;refine go_p rfl rfl rfl (oAs rfl) ?_;refine gNl (g_ret ?_);obtain rfl := some_eq hm;exact retK (ret_one' rfl (ret_tmp rfl) (permA 0 rfl (permA 0 rfl (permA 0 rfl (permA 0 rfl (permA 0 rfl (permA 0 rfl (permA 0 rfl (permA 0 rfl permN))))))))) ⟨rfl, rfl⟩
def m_store_Store_LevelN (i1 : Int)  : Option Int :=
 (m_thereN [i1]).bind fun x1 =>
 bif (!x1) then
  some (-1)
 else
  none
theorem w_store_Store_LevelN {i1 : Int}  {r_1 : Int} (hm : m_store_Store_LevelN i1 = some r_1) : Fn0 Try.prog 12 [.v (.pointer none), .i64 i1] (.i64 r_1) := by
 unfold m_store_Store_LevelN at hm;refine fn_intro Try.func12 rfl Try.ntmps12 rfl fun H0 fr w0 => ?_;refine g_seq (gRg ?_);refine go_p rfl rfl rfl (oAs rfl) ?_;refine gNl (g_seq (g_seq (gRg ?_)));refine go_p rfl rfl rfl (oMv rfl) ?_;refine go_p rfl rfl rfl (oMv rfl) ?_;refine go_p rfl rfl rfl (o_buildSlice (xs := [_]) (f := D.i64) (l := [_]) Try.runUnderlying49 Try.sizeOf3 Try.zeroValue3 rfl rfl rfl (fun _ => ⟨rfl, rfl, rfl⟩) rfl) ?_;obtain ⟨x1, hx1, hm⟩ := bS hm;refine go_p rfl rfl rfl (o_call0 Try.call16 rfl (w_thereN hx1)) ?_;refine go_p rfl rfl rfl (o_not rfl) ?_;refine gNl ?_;refine gCd rfl (fun hc1 => ?_) (fun hc1 => ?_)
 ·replace hm := cond_t hc1 hm
  refine g_seq (gRg ?_);refine go_p rfl rfl rfl (oAs rfl) ?_;refine gNl (g_ret ?_);exact retK (ret_one' rfl (ret_tmp rfl) (perm_drop _)) (congrArg (fun (p : Int) => (.i64 p : D)) (some_eq hm))
 ·replace hm := cond_f hc1 hm
  refine gSp (g_seq (gRg ?_));refine go_p rfl rfl rfl (oMv rfl) ?_
  cases hm
def m_syntagmalaw20_works  : Option Bool :=
 (m_store_New).bind fun s1 =>
 (m_store_Store_Leaf (⟨s1.nodes, s1.vars, s1.levels, s1.seen, (⟨s1.wait.first, s1.wait.more⟩ : QueuePairs), s1.dead⟩ : StoreStore) 3).bind fun (x1, x2, s2) =>
 (m_store_Store_Leaf (⟨s2.nodes, s2.vars, s2.levels, s2.seen, (⟨s2.wait.first, s2.wait.more⟩ : QueuePairs), s2.dead⟩ : StoreStore) 4).bind fun (x3, x4, s3) =>
 (m_store_Store_Var (⟨s3.nodes, s3.vars, s3.levels, s3.seen, (⟨s3.wait.first, s3.wait.more⟩ : QueuePairs), s3.dead⟩ : StoreStore) 1).bind fun (x5, x6, s4) =>
 bif (((decide (x2 = 0)) && (decide (x4 = 0))) && (decide (x6 = 0))) then ((m_store_Store_Below (⟨s4.nodes, s4.vars, s4.levels, s4.seen, (⟨s4.wait.first, s4.wait.more⟩ : QueuePairs), s4.dead⟩ : StoreStore) x1 x5).bind fun (x7, s5) =>
 (bif (decide (x7 = 0)) then ((m_store_Store_Level (⟨s5.nodes, s5.vars, s5.levels, s5.seen, (⟨s5.wait.first, s5.wait.more⟩ : QueuePairs), s5.dead⟩ : StoreStore) x5).bind fun x8 =>
 some (decide (x8 = 1))) else (some false)).bind fun p1 =>
 bif p1 then ((m_store_Store_Below (⟨s5.nodes, s5.vars, s5.levels, s5.seen, (⟨s5.wait.first, s5.wait.more⟩ : QueuePairs), s5.dead⟩ : StoreStore) x5 x3).bind fun (x9, s6) =>
 bif (decide (x9 = 11)) then ((m_store_Store_Below (⟨s6.nodes, s6.vars, s6.levels, s6.seen, (⟨s6.wait.first, s6.wait.more⟩ : QueuePairs), s6.dead⟩ : StoreStore) x1 x1).bind fun (x10, s7) =>
 some (decide (x10 = 11))) else (some false)) else (some false)) else (some false)
theorem w_syntagmalaw20_works  {r_1 : Bool} (hm : m_syntagmalaw20_works = some r_1) : Fn0 Try.prog 13 [] (.bool r_1) := by
 unfold m_syntagmalaw20_works at hm;refine fn_intro Try.func13 rfl Try.ntmps13 rfl fun H0 fr w0 => ?_;refine g_seq (gRg ?_);refine go_p rfl rfl rfl (oAs rfl) ?_;refine gNl (g_seq (gRg ?_));obtain ⟨s1, hx1, hm⟩ := bS hm;refine go_op rfl rfl rfl (o_call (ms₁ := []) Try.call4 rfl (List.Perm.refl _) (w_store_New hx1)) ?_;rintro _ _ ⟨_, ⟨b1, a_r1, cap_r1, a_r2, m_r2, cap_r2, a_r3, cap_r3, b2, b3, c_r4, a_r5, cap_r5, rfl, rfl⟩, rfl⟩;refine go_p rfl rfl rfl (oAs rfl) ?_;refine gNl (g_seq (gRg ?_));refine go_p rfl rfl rfl (oMv rfl) ?_;obtain ⟨⟨x1, x2, s2⟩, hx2, hm⟩ := bS hm;refine go_op rfl rfl rfl (o_call_own [0, 1, 2, 3, 4, 5, 6, 7] Try.call6 rfl rfl (getL_c rfl (getL_c rfl (getL_c rfl (getL_c rfl (getL_c rfl (getL_c rfl (getL_c rfl (getL_c rfl getL_n)))))))) (w_store_Store_Leaf hx2) (by rintro _ _ ⟨_, _, _, _, _, _, _, _, _, _, rfl, rfl⟩; rfl)) ?_;rintro _ _ ⟨_, ⟨a_r1, cap_r1, a_r2, m_r2, cap_r2, a_r3, cap_r3, c_r4, a_r5, cap_r5, rfl, rfl⟩, rfl⟩;refine go_ms (ms' := [box b1 51 [_, _, _, _, _, _], _, _, _, _, box b3 70 [_, _], _, _]) rfl ?_;refine go_p rfl rfl rfl (oMv rfl) ?_;refine go_p rfl rfl rfl (o_extract rfl rfl) ?_;refine go_p rfl rfl rfl (o_extract rfl rfl) ?_;refine go_p rfl rfl rfl (oAs rfl) ?_;refine go_p rfl rfl rfl (oAs rfl) ?_;refine gNl (g_seq (gRg ?_));refine go_p rfl rfl rfl (oMv rfl) ?_;obtain ⟨⟨x3, x4, s3⟩, hx3, hm⟩ := bS hm;refine go_op rfl rfl rfl (o_call_own [0, 1, 2, 3, 4, 5, 6, 7] Try.call6 rfl rfl (getL_c rfl (getL_c rfl (getL_c rfl (getL_c rfl (getL_c rfl (getL_c rfl (getL_c rfl (getL_c rfl getL_n)))))))) (w_store_Store_Leaf hx3) (by rintro _ _ ⟨_, _, _, _, _, _, _, _, _, _, rfl, rfl⟩; rfl)) ?_;rintro _ _ ⟨_, ⟨a_r1, cap_r1, a_r2, m_r2, cap_r2, a_r3, cap_r3, c_r4, a_r5, cap_r5, rfl, rfl⟩, rfl⟩;refine go_ms (ms' := [box b1 51 [_, _, _, _, _, _], _, _, _, _, box b3 70 [_, _], _, _]) rfl ?_;refine go_p rfl rfl rfl (oMv rfl) ?_;refine go_p rfl rfl rfl (o_extract rfl rfl) ?_;refine go_p rfl rfl rfl (o_extract rfl rfl) ?_;refine go_p rfl rfl rfl (oAs rfl) ?_;refine go_p rfl rfl rfl (oAs rfl) ?_;refine gNl (g_seq (gRg ?_));refine go_p rfl rfl rfl (oMv rfl) ?_;obtain ⟨⟨x5, x6, s4⟩, hx4, hm⟩ := bS hm;refine go_op rfl rfl rfl (o_call_own [0, 1, 2, 3, 4, 5, 6, 7] Try.call5 rfl rfl (getL_c rfl (getL_c rfl (getL_c rfl (getL_c rfl (getL_c rfl (getL_c rfl (getL_c rfl (getL_c rfl getL_n)))))))) (w_store_Store_Var hx4) (by rintro _ _ ⟨_, _, _, _, _, _, _, _, _, _, rfl, rfl⟩; rfl)) ?_;rintro _ _ ⟨_, ⟨a_r1, cap_r1, a_r2, m_r2, cap_r2, a_r3, cap_r3, c_r4, a_r5, cap_r5, rfl, rfl⟩, rfl⟩;refine go_ms (ms' := [box b1 51 [_, _, _, _, _, _], _, _, _, _, box b3 70 [_, _], _, _]) rfl ?_;refine go_p rfl rfl rfl (oMv rfl) ?_;refine go_p rfl rfl rfl (o_extract rfl rfl) ?_;refine go_p rfl rfl rfl (o_extract rfl rfl) ?_;refine go_p rfl rfl rfl (oAs rfl) ?_;refine go_p rfl rfl rfl (oAs rfl) ?_
 refine gNl (g_seq (gRg ?_));refine go_p rfl rfl rfl (oMv rfl) ?_;refine go_p rfl rfl rfl (o_cmp rfl rfl rfl) ?_;refine go_p rfl rfl rfl (oMv rfl) ?_
 apply go_and [(1, _), (2, _), (4, _), (6, _), (7, _)] 3 29 (t := 26) ⟨rfl, rfl, rfl, rfl, rfl, trivial⟩ rfl
 ·intro hg_1 hk1
  refine gWp rfl rfl rfl hg_1 rfl rfl (oMv rfl) ?_;refine gWp rfl rfl rfl hg_1 rfl rfl (o_cmp rfl rfl rfl) ?_;refine go_p rfl rfl rfl (o_pickT rfl hg_1 rfl) ?_;exact gMt hk1 (rfl) ⟨rfl, rfl, rfl, rfl, rfl, trivial⟩
 ·intro hg_1 hk1
  refine gKp rfl rfl rfl hg_1 rfl rfl ?_;refine gKp rfl rfl rfl hg_1 rfl rfl ?_;refine go_p rfl rfl rfl (o_pickF rfl hg_1 rfl) ?_;exact gMt hk1 (rfl) ⟨rfl, rfl, rfl, rfl, rfl, trivial⟩
 refine go_p rfl rfl rfl (oMv rfl) ?_
 apply go_and [(1, _), (2, _), (4, _), (6, _)] 3 33 (t := 30) ⟨rfl, rfl, rfl, rfl, trivial⟩ rfl
 ·intro hg_2 hk2
  refine gWp rfl rfl rfl hg_2 rfl rfl (oMv rfl) ?_;refine gWp rfl rfl rfl hg_2 rfl rfl (o_cmp rfl rfl rfl) ?_;refine go_p rfl rfl rfl (o_pickT rfl hg_2 rfl) ?_;exact gMt hk2 (rfl) ⟨rfl, rfl, rfl, rfl, trivial⟩
 ·intro hg_2 hk2
  refine gKp rfl rfl rfl hg_2 rfl rfl ?_;refine gKp rfl rfl rfl hg_2 rfl rfl ?_;refine go_p rfl rfl rfl (o_pickF rfl hg_2 rfl) ?_;exact gMt hk2 (rfl) ⟨rfl, rfl, rfl, rfl, trivial⟩
 refine go_p rfl rfl rfl (oMv rfl) ?_
 rcases cond_split hm with ⟨hg_3, hm⟩ | ⟨hg_3, hm⟩
 ·skip
  refine gWp rfl rfl rfl hg_3 rfl rfl (oMv rfl) ?_;refine gWp rfl rfl rfl hg_3 rfl rfl (oMv rfl) ?_;refine gWp rfl rfl rfl hg_3 rfl rfl (oMv rfl) ?_;obtain ⟨⟨x7, s5⟩, hx5, hm⟩ := bS hm;refine go_want rfl rfl rfl hg_3 rfl rfl (o_call_own [0, 1, 2, 3, 4, 5, 6, 7] Try.call9 rfl rfl (getL_c rfl (getL_c rfl (getL_c rfl (getL_c rfl (getL_c rfl (getL_c rfl (getL_c rfl (getL_c rfl getL_n)))))))) (w_store_Store_Below hx5) (by rintro _ _ ⟨_, _, _, _, _, _, _, _, _, _, rfl, rfl⟩; rfl)) ?_;rintro _ _ ⟨_, ⟨a_r1, cap_r1, a_r2, m_r2, cap_r2, a_r3, cap_r3, c_r4, a_r5, cap_r5, rfl, rfl⟩, rfl⟩;refine go_ms (ms' := [box b1 51 [_, _, _, _, _, _], _, _, _, _, box b3 70 [_, _], _, _]) rfl ?_;refine gWp rfl rfl rfl hg_3 rfl rfl (o_cmp rfl rfl rfl) ?_;refine go_p rfl rfl rfl (o_pickT rfl hg_3 rfl) ?_;refine go_p rfl rfl rfl (oMv rfl) ?_;obtain ⟨p1, hp_4, hm⟩ := bS hm;refine go_two [(1, _), (2, _), (4, _), (6, _)] 5 46 p1 (t := 41) ⟨rfl, rfl, rfl, rfl, trivial⟩ rfl (fun hg_4 hk4 => ?_) (fun hg_4 hk4 => ?_) ?_
  ·replace hp_4 := cond_t hg_4 hp_4
   refine gWp rfl rfl rfl hg_4 rfl rfl (oMv rfl) ?_;refine gWp rfl rfl rfl hg_4 rfl rfl (oMv rfl) ?_;obtain ⟨x8, hx6, hp_4⟩ := bS hp_4;refine gWp rfl rfl rfl hg_4 rfl rfl (o_call_own_p [0, 1, 2, 3, 4, 5, 6, 7] Try.call12 rfl rfl (getL_c rfl (getL_c rfl (getL_c rfl (getL_c rfl (getL_c rfl (getL_c rfl (getL_c rfl (getL_c rfl getL_n)))))))) (w_store_Store_Level hx6)) ?_;refine gWp rfl rfl rfl hg_4 rfl rfl (o_cmp rfl rfl rfl) ?_;refine go_p rfl rfl rfl (o_pickT rfl hg_4 rfl) ?_;exact gMt hk4 (congrArg (fun b => some (D.bool b)) (some_eq hp_4)) ⟨rfl, rfl, rfl, rfl, trivial⟩
  ·replace hp_4 := cond_f hg_4 hp_4
   refine gKp rfl rfl rfl hg_4 rfl rfl ?_;refine gKp rfl rfl rfl hg_4 rfl rfl ?_;refine gKp rfl rfl rfl hg_4 rfl rfl ?_;refine gKp rfl rfl rfl hg_4 rfl rfl ?_;refine go_p rfl rfl rfl (o_pickF rfl hg_4 rfl) ?_;exact gMt hk4 (congrArg (fun b => some (D.bool b)) (some_eq hp_4)) ⟨rfl, rfl, rfl, rfl, trivial⟩
  refine go_p rfl rfl rfl (oMv rfl) ?_
  rcases cond_split hm with ⟨hg_5, hm⟩ | ⟨hg_5, hm⟩
  ·skip
   refine gWp rfl rfl rfl hg_5 rfl rfl (oMv rfl) ?_;refine gWp rfl rfl rfl hg_5 rfl rfl (oMv rfl) ?_;refine gWp rfl rfl rfl hg_5 rfl rfl (oMv rfl) ?_;obtain ⟨⟨x9, s6⟩, hx7, hm⟩ := bS hm;refine go_want rfl rfl rfl hg_5 rfl rfl (o_call_own [0, 1, 2, 3, 4, 5, 6, 7] Try.call9 rfl rfl (getL_c rfl (getL_c rfl (getL_c rfl (getL_c rfl (getL_c rfl (getL_c rfl (getL_c rfl (getL_c rfl getL_n)))))))) (w_store_Store_Below hx7) (by rintro _ _ ⟨_, _, _, _, _, _, _, _, _, _, rfl, rfl⟩; rfl)) ?_;rintro _ _ ⟨_, ⟨a_r1, cap_r1, a_r2, m_r2, cap_r2, a_r3, cap_r3, c_r4, a_r5, cap_r5, rfl, rfl⟩, rfl⟩;refine go_ms (ms' := [box b1 51 [_, _, _, _, _, _], _, _, _, _, box b3 70 [_, _], _, _]) rfl ?_;refine gWp rfl rfl rfl hg_5 rfl rfl (o_cmp rfl rfl rfl) ?_;refine go_p rfl rfl rfl (o_pickT rfl hg_5 rfl) ?_;refine go_p rfl rfl rfl (oMv rfl) ?_
   rcases cond_split hm with ⟨hg_6, hm⟩ | ⟨hg_6, hm⟩
   ·skip
    refine gWp rfl rfl rfl hg_6 rfl rfl (oMv rfl) ?_;refine gWp rfl rfl rfl hg_6 rfl rfl (oMv rfl) ?_;refine gWp rfl rfl rfl hg_6 rfl rfl (oMv rfl) ?_;obtain ⟨⟨x10, s7⟩, hx8, hm⟩ := bS hm;refine go_want rfl rfl rfl hg_6 rfl rfl (o_call_own [0, 1, 2, 3, 4, 5, 6, 7] Try.call9 rfl rfl (getL_c rfl (getL_c rfl (getL_c rfl (getL_c rfl (getL_c rfl (getL_c rfl (getL_c rfl (getL_c rfl getL_n)))))))) (w_store_Store_Below hx8) (by rintro _ _ ⟨_, _, _, _, _, _, _, _, _, _, rfl, rfl⟩; rfl)) ?_;rintro _ _ ⟨_, ⟨a_r1, cap_r1, a_r2, m_r2, cap_r2, a_r3, cap_r3, c_r4, a_r5, cap_r5, rfl, rfl⟩, rfl⟩;refine go_ms (ms' := [box b1 51 [_, _, _, _, _, _], _, _, _, _, box b3 70 [_, _], _, _]) rfl ?_;refine gWp rfl rfl rfl hg_6 rfl rfl (o_cmp rfl rfl rfl) ?_;refine go_p rfl rfl rfl (o_pickT rfl hg_6 rfl) ?_;refine go_p rfl rfl rfl (oAs rfl) ?_;refine gNl (g_ret ?_);exact retK (ret_one' rfl (ret_tmp rfl) (perm_drop _)) (congrArg (fun (p : Bool) => (.bool p : D)) (some_eq hm))
   ·skip
    refine gKp rfl rfl rfl hg_6 rfl rfl ?_;refine gKp rfl rfl rfl hg_6 rfl rfl ?_;refine gKp rfl rfl rfl hg_6 rfl rfl ?_;refine gKp rfl rfl rfl hg_6 rfl rfl ?_;refine gKp rfl rfl rfl hg_6 rfl rfl ?_;refine go_p rfl rfl rfl (o_pickF rfl hg_6 rfl) ?_;refine go_p rfl rfl rfl (oAs rfl) ?_;refine gNl (g_ret ?_);exact retK (ret_one' rfl (ret_tmp rfl) (perm_drop _)) (congrArg (fun (p : Bool) => (.bool p : D)) (some_eq hm))
  ·skip
   refine gKp rfl rfl rfl hg_5 rfl rfl ?_;refine gKp rfl rfl rfl hg_5 rfl rfl ?_;refine gKp rfl rfl rfl hg_5 rfl rfl ?_;refine gKp rfl rfl rfl hg_5 rfl rfl ?_;refine gKp rfl rfl rfl hg_5 rfl rfl ?_;refine go_p rfl rfl rfl (o_pickF rfl hg_5 rfl) ?_;refine go_p rfl rfl rfl (oMv rfl) ?_;refine gKp rfl rfl rfl rfl rfl rfl ?_;refine gKp rfl rfl rfl rfl rfl rfl ?_;refine gKp rfl rfl rfl rfl rfl rfl ?_;refine gKp rfl rfl rfl rfl rfl rfl ?_;refine gKp rfl rfl rfl rfl rfl rfl ?_;refine go_p rfl rfl rfl (o_pickF rfl rfl rfl) ?_;refine go_p rfl rfl rfl (oAs rfl) ?_;refine gNl (g_ret ?_);exact retK (ret_one' rfl (ret_tmp rfl) (perm_drop _)) (congrArg (fun (p : Bool) => (.bool p : D)) (some_eq hm))
 ·skip
  refine gKp rfl rfl rfl hg_3 rfl rfl ?_;refine gKp rfl rfl rfl hg_3 rfl rfl ?_;refine gKp rfl rfl rfl hg_3 rfl rfl ?_;refine gKp rfl rfl rfl hg_3 rfl rfl ?_;refine gKp rfl rfl rfl hg_3 rfl rfl ?_;refine go_p rfl rfl rfl (o_pickF rfl hg_3 rfl) ?_;refine go_p rfl rfl rfl (oMv rfl) ?_;refine gKp rfl rfl rfl rfl rfl rfl ?_;refine gKp rfl rfl rfl rfl rfl rfl ?_;refine gKp rfl rfl rfl rfl rfl rfl ?_;refine gKp rfl rfl rfl rfl rfl rfl ?_;refine go_p rfl rfl rfl (o_pickF rfl rfl rfl) ?_;refine go_p rfl rfl rfl (oMv rfl) ?_;refine gKp rfl rfl rfl rfl rfl rfl ?_;refine gKp rfl rfl rfl rfl rfl rfl ?_;refine gKp rfl rfl rfl rfl rfl rfl ?_;refine gKp rfl rfl rfl rfl rfl rfl ?_;refine gKp rfl rfl rfl rfl rfl rfl ?_;refine go_p rfl rfl rfl (o_pickF rfl rfl rfl) ?_;refine go_p rfl rfl rfl (oMv rfl) ?_;refine gKp rfl rfl rfl rfl rfl rfl ?_;refine gKp rfl rfl rfl rfl rfl rfl ?_;refine gKp rfl rfl rfl rfl rfl rfl ?_;refine gKp rfl rfl rfl rfl rfl rfl ?_;refine gKp rfl rfl rfl rfl rfl rfl ?_;refine go_p rfl rfl rfl (o_pickF rfl rfl rfl) ?_;refine go_p rfl rfl rfl (oAs rfl) ?_;refine gNl (g_ret ?_);exact retK (ret_one' rfl (ret_tmp rfl) (perm_drop _)) (congrArg (fun (p : Bool) => (.bool p : D)) (some_eq hm))
theorem pl_31 : ∀ fs, (∀ w, (underlying 31).run Try.prog w = .ok (.struct fs) w) -> placesOf Try.prog fs [(0, 1), (1, 1)] := by
 intro fs h w
 have := (h w).symm.trans (Try.runUnderlying31 w)
 simp only [Result.ok.injEq, TypeDesc.struct.injEq, and_true] at this;subst this
 simp [Try.sizeOf3, Try.sizeOf9, Sem.run]
def m_syntagmalaw20_StoreVoid (level1 : Int) (kind1 : Int) (i1 : Int) (l1 : (List AFd)) : Option Bool :=
 (m_store_New).bind fun s1 =>
 (m_store_Store_Var (⟨s1.nodes, s1.vars, s1.levels, s1.seen, (⟨s1.wait.first, s1.wait.more⟩ : QueuePairs), s1.dead⟩ : StoreStore) level1).bind fun (x1, x2, s2) =>
 (m_store_Store_Leaf (⟨s2.nodes, s2.vars, s2.levels, s2.seen, (⟨s2.wait.first, s2.wait.more⟩ : QueuePairs), s2.dead⟩ : StoreStore) kind1).bind fun (x3, x4, s3) =>
 (m_store_Store_Arrow (⟨s3.nodes, s3.vars, s3.levels, s3.seen, (⟨s3.wait.first, s3.wait.more⟩ : QueuePairs), s3.dead⟩ : StoreStore) i1 5).bind fun (x5, x6, s4) =>
 (sli l1 0 (if 40 < (l1.length : Int) then 40 else (l1.length : Int))).bind fun l2 =>
 grd ((([(⟨([33] : List UInt8), 0⟩ : AFd)] : List _).length + l2.length) * 24 <= 140737488355328) <|
 (m_store_Store_Wide (⟨s4.nodes, s4.vars, s4.levels, s4.seen, (⟨s4.wait.first, s4.wait.more⟩ : QueuePairs), s4.dead⟩ : StoreStore) kind1 ([(⟨([33] : List UInt8), 0⟩ : AFd)] ++ l2)).bind fun (x7, x8, s5) =>
 bif ((((!((decide (x2 = 2)) == ((decide (level1 < 0)) || (decide (100 < level1))))) || (!((decide (x4 = 2)) == ((decide (kind1 < 1)) || (decide (5 < kind1)))))) || (!decide (x6 = 3))) || ((!decide (x8 = 3)) && (!decide (x8 = 2)))) then (some false) else ((m_store_Store_Below (⟨s5.nodes, s5.vars, s5.levels, s5.seen, (⟨s5.wait.first, s5.wait.more⟩ : QueuePairs), s5.dead⟩ : StoreStore) i1 9).bind fun (x9, s6) =>
 bif (!decide (x9 = 3)) then
  some false
 else
  (m_store_Store_VarN 1).bind fun (x10, x11) =>
  (m_store_Store_LeafN 3).bind fun (x12, x13) =>
  (m_store_Store_ArrowN 0 0).bind fun (x14, x15) =>
  (m_store_Store_ToldN 0).bind fun (x16, x17, x18) =>
  (m_store_Store_CopyN 0 0 0).bind fun (x19, x20) =>
  (bif (((((decide (x11 = 3)) && (decide (x13 = x11))) && (decide (x15 = x11))) && (decide (x18 = x11))) && (decide (x20 = x11))) then ((m_store_Store_BelowN 0 0).bind fun x21 =>
  some (decide (x21 = x11))) else (some false)).bind fun p1 =>
  (bif p1 then ((m_store_Store_LevelN 0).bind fun x22 =>
  some (decide (x22 = (-1)))) else (some false)).bind fun p2 =>
  (bif p2 then ((m_syntagmalaw20_works).bind fun x23 =>
  some x23) else (some false)).bind fun p3 =>
  some p3)
theorem w_syntagmalaw20_StoreVoid {level1 : Int} {kind1 : Int} {i1 : Int} {l1 : (List AFd)} {r_1 : Bool} (hm : m_syntagmalaw20_StoreVoid level1 kind1 i1 l1 = some r_1) : Fn0 Try.prog 3 [.i64 level1, .i64 kind1, .i64 i1, .list 2 AFd.d l1] (.bool r_1) := by
 unfold m_syntagmalaw20_StoreVoid at hm;refine fn_intro Try.func3 rfl Try.ntmps3 rfl fun H0 fr w0 => ?_;refine g_seq (gRg ?_);refine go_p rfl rfl rfl (oAs rfl) ?_;refine gNl (g_seq (gRg ?_));obtain ⟨s1, hx1, hm⟩ := bS hm;refine go_op rfl rfl rfl (o_call (ms₁ := []) Try.call4 rfl (List.Perm.refl _) (w_store_New hx1)) ?_;rintro _ _ ⟨_, ⟨b1, a_r1, cap_r1, a_r2, m_r2, cap_r2, a_r3, cap_r3, b2, b3, c_r4, a_r5, cap_r5, rfl, rfl⟩, rfl⟩;refine go_p rfl rfl rfl (oAs rfl) ?_;refine gNl (g_seq (gRg ?_));refine go_p rfl rfl rfl (oMv rfl) ?_;refine go_p rfl rfl rfl (oMv rfl) ?_;obtain ⟨⟨x1, x2, s2⟩, hx2, hm⟩ := bS hm;refine go_op rfl rfl rfl (o_call_own [0, 1, 2, 3, 4, 5, 6, 7] Try.call5 rfl rfl (getL_c rfl (getL_c rfl (getL_c rfl (getL_c rfl (getL_c rfl (getL_c rfl (getL_c rfl (getL_c rfl getL_n)))))))) (w_store_Store_Var hx2) (by rintro _ _ ⟨_, _, _, _, _, _, _, _, _, _, rfl, rfl⟩; rfl)) ?_;rintro _ _ ⟨_, ⟨a_r1, cap_r1, a_r2, m_r2, cap_r2, a_r3, cap_r3, c_r4, a_r5, cap_r5, rfl, rfl⟩, rfl⟩;refine go_ms (ms' := [box b1 51 [_, _, _, _, _, _], _, _, _, _, box b3 70 [_, _], _, _]) rfl ?_;refine go_p rfl rfl rfl (oMv rfl) ?_;refine go_p rfl rfl rfl (o_extract rfl rfl) ?_;refine go_p rfl rfl rfl (o_extract rfl rfl) ?_;refine go_p rfl rfl rfl (oAs rfl) ?_;refine go_p rfl rfl rfl (oAs rfl) ?_;refine gNl (g_seq (gRg ?_));refine go_p rfl rfl rfl (oMv rfl) ?_;refine go_p rfl rfl rfl (oMv rfl) ?_;obtain ⟨⟨x3, x4, s3⟩, hx3, hm⟩ := bS hm;refine go_op rfl rfl rfl (o_call_own [0, 1, 2, 3, 4, 5, 6, 7] Try.call6 rfl rfl (getL_c rfl (getL_c rfl (getL_c rfl (getL_c rfl (getL_c rfl (getL_c rfl (getL_c rfl (getL_c rfl getL_n)))))))) (w_store_Store_Leaf hx3) (by rintro _ _ ⟨_, _, _, _, _, _, _, _, _, _, rfl, rfl⟩; rfl)) ?_;rintro _ _ ⟨_, ⟨a_r1, cap_r1, a_r2, m_r2, cap_r2, a_r3, cap_r3, c_r4, a_r5, cap_r5, rfl, rfl⟩, rfl⟩;refine go_ms (ms' := [box b1 51 [_, _, _, _, _, _], _, _, _, _, box b3 70 [_, _], _, _]) rfl ?_;refine go_p rfl rfl rfl (oMv rfl) ?_;refine go_p rfl rfl rfl (o_extract rfl rfl) ?_;refine go_p rfl rfl rfl (o_extract rfl rfl) ?_;refine go_p rfl rfl rfl (oAs rfl) ?_;refine go_p rfl rfl rfl (oAs rfl) ?_;refine gNl (g_seq (gRg ?_));refine go_p rfl rfl rfl (oMv rfl) ?_;refine go_p rfl rfl rfl (oMv rfl) ?_;obtain ⟨⟨x5, x6, s4⟩, hx4, hm⟩ := bS hm;refine go_op rfl rfl rfl (o_call_own [0, 1, 2, 3, 4, 5, 6, 7] Try.call7 rfl rfl (getL_c rfl (getL_c rfl (getL_c rfl (getL_c rfl (getL_c rfl (getL_c rfl (getL_c rfl (getL_c rfl getL_n)))))))) (w_store_Store_Arrow hx4) (by rintro _ _ ⟨_, _, _, _, _, _, _, _, _, _, rfl, rfl⟩; rfl)) ?_;rintro _ _ ⟨_, ⟨a_r1, cap_r1, a_r2, m_r2, cap_r2, a_r3, cap_r3, c_r4, a_r5, cap_r5, rfl, rfl⟩, rfl⟩;refine go_ms (ms' := [box b1 51 [_, _, _, _, _, _], _, _, _, _, box b3 70 [_, _], _, _]) rfl ?_;refine go_p rfl rfl rfl (oMv rfl) ?_;refine go_p rfl rfl rfl (o_extract rfl rfl) ?_
 refine go_p rfl rfl rfl (o_extract rfl rfl) ?_;refine go_p rfl rfl rfl (oAs rfl) ?_;refine go_p rfl rfl rfl (oAs rfl) ?_;refine gNl (g_seq (gRg ?_));refine go_p rfl rfl rfl (oMv rfl) ?_;refine go_p rfl rfl rfl (oMv rfl) ?_;refine go_p rfl rfl rfl (o_build (zs := [.str [], .v (.int .i64 0)]) Try.runUnderlying31 Try.zeroValue31 (pl_31 _ Try.runUnderlying31) rfl rfl rfl rfl) ?_;refine go_op rfl rfl rfl (o_buildSlice_row (xs := [_]) (f := AFd.d) (l := [(⟨([33] : List UInt8), 0⟩ : AFd)]) Try.runUnderlying22 Try.sizeOf31 Try.zeroValue31 rfl rfl rfl (fun _ => ⟨rfl, rfl, rfl⟩) rfl (by simp [maxLen])) ?_;rintro _ _ ⟨a_r6, rfl, rfl⟩;refine go_p rfl rfl rfl (oMv rfl) ?_;refine go_p rfl rfl rfl (oMv rfl) ?_;refine go_p rfl rfl rfl (o_len Try.runUnderlying22 rfl) ?_;refine go_p rfl rfl rfl (o_min rfl rfl) ?_;obtain ⟨l2, hx5, hm⟩ := bS hm;refine go_p rfl rfl rfl (o_slice_m Try.runUnderlying22 Try.sizeOf31 rfl rfl ⟨_, rfl⟩ hx5) ?_;obtain ⟨hg6, hm⟩ := grd_some hm;refine go_op rfl rfl rfl (o_append (a := _) 0 Try.underlying22 Try.type31 rfl rfl rfl rfl rfl rfl rfl (fun _ => rfl) (fun _ => rfl) hg6 (app_len hg6 rfl)) ?_;rintro _ _ ⟨a_r6, cap_r6, rfl, rfl⟩;refine go_ms (ms' := [_, box b1 51 [_, _, _, _, _, _], _, _, _, _, box b3 70 [_, _], _, _]) rfl ?_;obtain ⟨⟨x7, x8, s5⟩, hx7, hm⟩ := bS hm;refine go_op rfl rfl rfl (.view (peekE (i := 59) 0 rfl rfl rfl) (o_call_own [1, 2, 3, 4, 5, 6, 7, 8] Try.call8 rfl rfl (getL_c rfl (getL_c rfl (getL_c rfl (getL_c rfl (getL_c rfl (getL_c rfl (getL_c rfl (getL_c rfl getL_n)))))))) (w_store_Store_Wide hx7) (by rintro _ _ ⟨_, _, _, _, _, _, _, _, _, _, rfl, rfl⟩; rfl))) ?_;rintro _ _ ⟨_, ⟨a_r1, cap_r1, a_r2, m_r2, cap_r2, a_r3, cap_r3, c_r4, a_r5, cap_r5, rfl, rfl⟩, rfl⟩;refine go_ms (ms' := [_, box b1 51 [_, _, _, _, _, _], _, _, _, _, box b3 70 [_, _], _, _]) rfl ?_;refine go_p rfl rfl rfl (oMv rfl) ?_;refine go_p rfl rfl rfl (o_extract rfl rfl) ?_;refine go_p rfl rfl rfl (o_extract rfl rfl) ?_;refine go_p rfl rfl rfl (oAs rfl) ?_;refine go_p rfl rfl rfl (oAs rfl) ?_;refine gNl (g_seq (g_seq (gRg ?_)));refine go_p rfl rfl rfl (oMv rfl) ?_;refine go_p rfl rfl rfl (o_cmp rfl rfl rfl) ?_;refine go_p rfl rfl rfl (oMv rfl) ?_;refine go_p rfl rfl rfl (o_cmp rfl rfl rfl) ?_;refine go_p rfl rfl rfl (oMv rfl) ?_
 apply go_or [(1, _), (2, _), (9, _), (13, _), (15, _), (17, _), (64, _)] 3 70 (t := 67) ⟨rfl, rfl, rfl, rfl, rfl, rfl, rfl, trivial⟩ rfl
 ·intro hg_1 hk1
  refine gWp rfl rfl rfl hg_1 rfl rfl (oMv rfl) ?_;refine gWp rfl rfl rfl hg_1 rfl rfl (o_cmp rfl rfl rfl) ?_;refine go_p rfl rfl rfl (o_pickF rfl hg_1 rfl) ?_;exact gMt hk1 (rfl) ⟨rfl, rfl, rfl, rfl, rfl, rfl, rfl, trivial⟩
 ·intro hg_1 hk1
  refine gKp rfl rfl rfl hg_1 rfl rfl ?_;refine gKp rfl rfl rfl hg_1 rfl rfl ?_;refine go_p rfl rfl rfl (o_pickT rfl hg_1 rfl) ?_;exact gMt hk1 (rfl) ⟨rfl, rfl, rfl, rfl, rfl, rfl, rfl, trivial⟩
 refine go_p rfl rfl rfl (o_neqb Try.runUnderlying4 rfl rfl) ?_;refine go_p rfl rfl rfl (oMv rfl) ?_
 apply go_or [(2, _), (9, _), (15, _), (17, _)] 10 82 (t := 72) ⟨rfl, rfl, rfl, rfl, trivial⟩ rfl
 ·intro hg_2 hk2
  refine gWp rfl rfl rfl hg_2 rfl rfl (oMv rfl) ?_;refine gWp rfl rfl rfl hg_2 rfl rfl (o_cmp rfl rfl rfl) ?_;refine gWp rfl rfl rfl hg_2 rfl rfl (oMv rfl) ?_;refine gWp rfl rfl rfl hg_2 rfl rfl (o_cmp rfl rfl rfl) ?_;refine gWp rfl rfl rfl hg_2 rfl rfl (oMv rfl) ?_
  apply go_or [(2, _), (9, _), (15, _), (17, _), (72, _), (74, _)] 3 80 (t := 77) ⟨rfl, rfl, rfl, rfl, rfl, rfl, trivial⟩ rfl
  ·intro hg_3 hk3
   refine gWp rfl rfl rfl hg_3 rfl rfl (oMv rfl) ?_;refine gWp rfl rfl rfl hg_3 rfl rfl (o_cmp rfl rfl rfl) ?_;refine gWp rfl rfl rfl hg_2 rfl rfl (o_pickF rfl hg_3 rfl) ?_;exact gMt hk3 (rfl) ⟨rfl, rfl, rfl, rfl, rfl, rfl, trivial⟩
  ·intro hg_3 hk3
   refine gKp rfl rfl rfl hg_3 rfl rfl ?_;refine gKp rfl rfl rfl hg_3 rfl rfl ?_;refine gWp rfl rfl rfl hg_2 rfl rfl (o_pickT rfl hg_3 rfl) ?_;exact gMt hk3 (rfl) ⟨rfl, rfl, rfl, rfl, rfl, rfl, trivial⟩
  refine gWp rfl rfl rfl hg_2 rfl rfl (o_neqb Try.runUnderlying4 rfl rfl) ?_;refine go_p rfl rfl rfl (o_pickF rfl hg_2 rfl) ?_;exact gMt hk2 (rfl) ⟨rfl, rfl, rfl, rfl, trivial⟩
 ·intro hg_2 hk2
  refine gKp rfl rfl rfl hg_2 rfl rfl ?_;refine gKp rfl rfl rfl hg_2 rfl rfl ?_;refine gKp rfl rfl rfl hg_2 rfl rfl ?_;refine gKp rfl rfl rfl hg_2 rfl rfl ?_;refine gKp rfl rfl rfl hg_2 rfl rfl ?_;refine gKu rfl rfl rfl rfl rfl ?_;refine gKu rfl rfl rfl rfl rfl ?_;refine gKp rfl rfl rfl hg_2 rfl rfl ?_;refine gKp rfl rfl rfl hg_2 rfl rfl ?_;refine go_p rfl rfl rfl (o_pickT rfl hg_2 rfl) ?_;exact gMt hk2 (rfl) ⟨rfl, rfl, rfl, rfl, trivial⟩
 refine go_p rfl rfl rfl (oMv rfl) ?_
 apply go_or [(2, _), (9, _), (17, _)] 3 86 (t := 83) ⟨rfl, rfl, rfl, trivial⟩ rfl
 ·intro hg_4 hk4
  refine gWp rfl rfl rfl hg_4 rfl rfl (oMv rfl) ?_;refine gWp rfl rfl rfl hg_4 rfl rfl (o_cmp rfl rfl rfl) ?_;refine go_p rfl rfl rfl (o_pickF rfl hg_4 rfl) ?_;exact gMt hk4 (rfl) ⟨rfl, rfl, rfl, trivial⟩
 ·intro hg_4 hk4
  refine gKp rfl rfl rfl hg_4 rfl rfl ?_;refine gKp rfl rfl rfl hg_4 rfl rfl ?_;refine go_p rfl rfl rfl (o_pickT rfl hg_4 rfl) ?_;exact gMt hk4 (rfl) ⟨rfl, rfl, rfl, trivial⟩
 refine go_p rfl rfl rfl (oMv rfl) ?_
 apply go_or [(2, _), (9, _)] 7 94 (t := 87) ⟨rfl, rfl, trivial⟩ rfl
 ·intro hg_5 hk5
  refine gWp rfl rfl rfl hg_5 rfl rfl (oMv rfl) ?_;refine gWp rfl rfl rfl hg_5 rfl rfl (o_cmp rfl rfl rfl) ?_;refine gWp rfl rfl rfl hg_5 rfl rfl (oMv rfl) ?_
  apply go_and [(2, _), (9, _), (87, _)] 3 93 (t := 90) ⟨rfl, rfl, rfl, trivial⟩ rfl
  ·intro hg_6 hk6
   refine gWp rfl rfl rfl hg_6 rfl rfl (oMv rfl) ?_;refine gWp rfl rfl rfl hg_6 rfl rfl (o_cmp rfl rfl rfl) ?_;refine gWp rfl rfl rfl hg_5 rfl rfl (o_pickT rfl hg_6 rfl) ?_;exact gMt hk6 (rfl) ⟨rfl, rfl, rfl, trivial⟩
  ·intro hg_6 hk6
   refine gKp rfl rfl rfl hg_6 rfl rfl ?_;refine gKp rfl rfl rfl hg_6 rfl rfl ?_;refine gWp rfl rfl rfl hg_5 rfl rfl (o_pickF rfl hg_6 rfl) ?_;exact gMt hk6 (rfl) ⟨rfl, rfl, rfl, trivial⟩
  refine go_p rfl rfl rfl (o_pickF rfl hg_5 rfl) ?_;exact gMt hk5 (rfl) ⟨rfl, rfl, trivial⟩
 ·intro hg_5 hk5
  refine gKp rfl rfl rfl hg_5 rfl rfl ?_;refine gKp rfl rfl rfl hg_5 rfl rfl ?_;refine gKp rfl rfl rfl hg_5 rfl rfl ?_;refine gKu rfl rfl rfl rfl rfl ?_;refine gKu rfl rfl rfl rfl rfl ?_;refine gKp rfl rfl rfl hg_5 rfl rfl ?_;refine go_p rfl rfl rfl (o_pickT rfl hg_5 rfl) ?_;exact gMt hk5 (rfl) ⟨rfl, rfl, trivial⟩
 refine go_p rfl rfl rfl (oMv rfl) ?_
 rcases cond_split hm with ⟨hg_7, hm⟩ | ⟨hg_7, hm⟩
 ·skip
  refine gKp rfl rfl rfl hg_7 rfl rfl ?_;refine gKp rfl rfl rfl hg_7 rfl rfl ?_;refine gKp rfl rfl rfl hg_7 rfl rfl ?_;refine gKp rfl rfl rfl hg_7 rfl rfl ?_;refine go_p rfl rfl rfl (o_pickT rfl hg_7 rfl) ?_;refine gNl ?_;refine g_cond_true rfl rfl ?_;refine g_seq (gRg ?_);refine go_p rfl rfl rfl (oAs rfl) ?_;refine gNl (g_ret ?_);exact retK (ret_one' rfl (ret_tmp rfl) (perm_drop _)) (congrArg (fun (p : Bool) => (.bool p : D)) (some_eq hm))
 ·skip
  refine gWp rfl rfl rfl hg_7 rfl rfl (oMv rfl) ?_;refine gWp rfl rfl rfl hg_7 rfl rfl (oMv rfl) ?_;obtain ⟨⟨x9, s6⟩, hx8, hm⟩ := bS hm;refine go_want rfl rfl rfl hg_7 rfl rfl (o_call_own [1, 2, 3, 4, 5, 6, 7, 8] Try.call9 rfl rfl (getL_c rfl (getL_c rfl (getL_c rfl (getL_c rfl (getL_c rfl (getL_c rfl (getL_c rfl (getL_c rfl getL_n)))))))) (w_store_Store_Below hx8) (by rintro _ _ ⟨_, _, _, _, _, _, _, _, _, _, rfl, rfl⟩; rfl)) ?_;rintro _ _ ⟨_, ⟨a_r1, cap_r1, a_r2, m_r2, cap_r2, a_r3, cap_r3, c_r4, a_r5, cap_r5, rfl, rfl⟩, rfl⟩;refine go_ms (ms' := [_, box b1 51 [_, _, _, _, _, _], _, _, _, _, box b3 70 [_, _], _, _]) rfl ?_;refine gWp rfl rfl rfl hg_7 rfl rfl (o_cmp rfl rfl rfl) ?_;refine go_p rfl rfl rfl (o_pickF rfl hg_7 rfl) ?_;refine gNl ?_;refine gCd rfl (fun hc1 => ?_) (fun hc1 => ?_)
  ·replace hm := cond_t hc1 hm
   refine g_seq (gRg ?_);refine go_p rfl rfl rfl (oAs rfl) ?_;refine gNl (g_ret ?_);exact retK (ret_one' rfl (ret_tmp rfl) (perm_drop _)) (congrArg (fun (p : Bool) => (.bool p : D)) (some_eq hm))
  ·replace hm := cond_f hc1 hm
   refine gSp (g_seq (gRg ?_));refine go_p rfl rfl rfl (oAs rfl) ?_;refine gNl (g_seq (gRg ?_));refine go_p rfl rfl rfl (oMv rfl) ?_;obtain ⟨⟨x10, x11⟩, hx9, hm⟩ := bS hm;refine go_p rfl rfl rfl (o_call0 Try.call5 rfl (w_store_Store_VarN hx9)) ?_;refine go_p rfl rfl rfl (oMv rfl) ?_;refine go_p rfl rfl rfl (o_extract rfl rfl) ?_;refine go_p rfl rfl rfl (o_extract rfl rfl) ?_;refine go_p rfl rfl rfl (oAs rfl) ?_;refine go_p rfl rfl rfl (oAs rfl) ?_;refine gNl (g_seq (gRg ?_));refine go_p rfl rfl rfl (oMv rfl) ?_;obtain ⟨⟨x12, x13⟩, hx10, hm⟩ := bS hm;refine go_p rfl rfl rfl (o_call0 Try.call6 rfl (w_store_Store_LeafN hx10)) ?_;refine go_p rfl rfl rfl (oMv rfl) ?_;refine go_p rfl rfl rfl (o_extract rfl rfl) ?_;refine go_p rfl rfl rfl (o_extract rfl rfl) ?_;refine go_p rfl rfl rfl (oAs rfl) ?_;refine go_p rfl rfl rfl (oAs rfl) ?_;refine gNl (g_seq (gRg ?_));refine go_p rfl rfl rfl (oMv rfl) ?_;obtain ⟨⟨x14, x15⟩, hx11, hm⟩ := bS hm;refine go_p rfl rfl rfl (o_call0 Try.call7 rfl (w_store_Store_ArrowN hx11)) ?_;refine go_p rfl rfl rfl (oMv rfl) ?_;refine go_p rfl rfl rfl (o_extract rfl rfl) ?_;refine go_p rfl rfl rfl (o_extract rfl rfl) ?_;refine go_p rfl rfl rfl (oAs rfl) ?_;refine go_p rfl rfl rfl (oAs rfl) ?_;refine gNl (g_seq (gRg ?_));refine go_p rfl rfl rfl (oMv rfl) ?_;obtain ⟨⟨x16, x17, x18⟩, hx12, hm⟩ := bS hm;refine go_p rfl rfl rfl (o_call0 Try.call10 rfl (w_store_Store_ToldN hx12)) ?_;refine go_p rfl rfl rfl (oMv rfl) ?_;refine go_p rfl rfl rfl (o_extract rfl rfl) ?_;refine go_p rfl rfl rfl (o_extract rfl rfl) ?_;refine go_p rfl rfl rfl (o_extract rfl rfl) ?_;refine go_op rfl rfl rfl (o_alloc_own Try.zeroValue35 (cs := [.list 4 ANd.d [], .i64 0]) rfl) ?_;rintro _ _ ⟨b5, rfl, rfl⟩;refine go_u rfl rfl (oSb 0 Try.sizeOf35 rfl rfl rfl rfl rfl rfl rfl rfl (nB rfl)) ?_;rintro _ _ rfl;refine go_ms (ms' := [box b5 35 [_, _], _, box b1 51 [_, _, _, _, _, _], _, _, _, _, box b3 70 [_, _], _, _]) rfl ?_;refine go_p rfl rfl rfl (oAs rfl) ?_;refine go_p rfl rfl rfl (oAs rfl) ?_;refine gNl (g_seq (gRg ?_));refine go_p rfl rfl rfl (oMv rfl) ?_;obtain ⟨⟨x19, x20⟩, hx13, hm⟩ := bS hm;refine go_p rfl rfl rfl (o_call0 Try.call11 rfl (w_store_Store_CopyN hx13)) ?_;refine go_p rfl rfl rfl (oMv rfl) ?_;refine go_p rfl rfl rfl (o_extract rfl rfl) ?_;refine go_p rfl rfl rfl (o_extract rfl rfl) ?_;refine go_p rfl rfl rfl (oAs rfl) ?_;refine go_p rfl rfl rfl (oAs rfl) ?_;refine gNl (g_seq (gRg ?_));refine go_p rfl rfl rfl (oMv rfl) ?_;refine go_p rfl rfl rfl (o_cmp rfl rfl rfl) ?_;refine go_p rfl rfl rfl (oMv rfl) ?_
   apply go_and [(18, _), (20, _), (24, _), (27, _), (29, _)] 4 133 (t := 129) ⟨rfl, rfl, rfl, rfl, rfl, trivial⟩ rfl
   ·intro hg_8 hk8
    refine gWp rfl rfl rfl hg_8 rfl rfl (oMv rfl) ?_;refine gWp rfl rfl rfl hg_8 rfl rfl (oMv rfl) ?_;refine gWp rfl rfl rfl hg_8 rfl rfl (o_cmp rfl rfl rfl) ?_;refine go_p rfl rfl rfl (o_pickT rfl hg_8 rfl) ?_;exact gMt hk8 (rfl) ⟨rfl, rfl, rfl, rfl, rfl, trivial⟩
   ·intro hg_8 hk8
    refine gKp rfl rfl rfl hg_8 rfl rfl ?_;refine gKp rfl rfl rfl hg_8 rfl rfl ?_;refine gKp rfl rfl rfl hg_8 rfl rfl ?_;refine go_p rfl rfl rfl (o_pickF rfl hg_8 rfl) ?_;exact gMt hk8 (rfl) ⟨rfl, rfl, rfl, rfl, rfl, trivial⟩
   refine go_p rfl rfl rfl (oMv rfl) ?_
   apply go_and [(18, _), (20, _), (27, _), (29, _)] 4 138 (t := 134) ⟨rfl, rfl, rfl, rfl, trivial⟩ rfl
   ·intro hg_9 hk9
    refine gWp rfl rfl rfl hg_9 rfl rfl (oMv rfl) ?_;refine gWp rfl rfl rfl hg_9 rfl rfl (oMv rfl) ?_;refine gWp rfl rfl rfl hg_9 rfl rfl (o_cmp rfl rfl rfl) ?_;refine go_p rfl rfl rfl (o_pickT rfl hg_9 rfl) ?_;exact gMt hk9 (rfl) ⟨rfl, rfl, rfl, rfl, trivial⟩
   ·intro hg_9 hk9
    refine gKp rfl rfl rfl hg_9 rfl rfl ?_;refine gKp rfl rfl rfl hg_9 rfl rfl ?_;refine gKp rfl rfl rfl hg_9 rfl rfl ?_;refine go_p rfl rfl rfl (o_pickF rfl hg_9 rfl) ?_;exact gMt hk9 (rfl) ⟨rfl, rfl, rfl, rfl, trivial⟩
   refine go_p rfl rfl rfl (oMv rfl) ?_
   apply go_and [(18, _), (20, _), (29, _)] 4 143 (t := 139) ⟨rfl, rfl, rfl, trivial⟩ rfl
   ·intro hg_10 hk10
    refine gWp rfl rfl rfl hg_10 rfl rfl (oMv rfl) ?_;refine gWp rfl rfl rfl hg_10 rfl rfl (oMv rfl) ?_;refine gWp rfl rfl rfl hg_10 rfl rfl (o_cmp rfl rfl rfl) ?_;refine go_p rfl rfl rfl (o_pickT rfl hg_10 rfl) ?_;exact gMt hk10 (rfl) ⟨rfl, rfl, rfl, trivial⟩
   ·intro hg_10 hk10
    refine gKp rfl rfl rfl hg_10 rfl rfl ?_;refine gKp rfl rfl rfl hg_10 rfl rfl ?_;refine gKp rfl rfl rfl hg_10 rfl rfl ?_;refine go_p rfl rfl rfl (o_pickF rfl hg_10 rfl) ?_;exact gMt hk10 (rfl) ⟨rfl, rfl, rfl, trivial⟩
   refine go_p rfl rfl rfl (oMv rfl) ?_
   apply go_and [(18, _), (20, _)] 4 148 (t := 144) ⟨rfl, rfl, trivial⟩ rfl
   ·intro hg_11 hk11
    refine gWp rfl rfl rfl hg_11 rfl rfl (oMv rfl) ?_;refine gWp rfl rfl rfl hg_11 rfl rfl (oMv rfl) ?_;refine gWp rfl rfl rfl hg_11 rfl rfl (o_cmp rfl rfl rfl) ?_;refine go_p rfl rfl rfl (o_pickT rfl hg_11 rfl) ?_;exact gMt hk11 (rfl) ⟨rfl, rfl, trivial⟩
   ·intro hg_11 hk11
    refine gKp rfl rfl rfl hg_11 rfl rfl ?_;refine gKp rfl rfl rfl hg_11 rfl rfl ?_;refine gKp rfl rfl rfl hg_11 rfl rfl ?_;refine go_p rfl rfl rfl (o_pickF rfl hg_11 rfl) ?_;exact gMt hk11 (rfl) ⟨rfl, rfl, trivial⟩
   refine go_p rfl rfl rfl (oMv rfl) ?_;obtain ⟨p1, hp_12, hm⟩ := bS hm;refine go_two [(18, _)] 5 154 p1 (t := 149) ⟨rfl, trivial⟩ rfl (fun hg_12 hk12 => ?_) (fun hg_12 hk12 => ?_) ?_
   ·replace hp_12 := cond_t hg_12 hp_12
    refine gWp rfl rfl rfl hg_12 rfl rfl (oMv rfl) ?_;obtain ⟨x21, hx14, hp_12⟩ := bS hp_12;refine gWp rfl rfl rfl hg_12 rfl rfl (o_call0 Try.call9 rfl (w_store_Store_BelowN hx14)) ?_;refine gWp rfl rfl rfl hg_12 rfl rfl (oMv rfl) ?_;refine gWp rfl rfl rfl hg_12 rfl rfl (o_cmp rfl rfl rfl) ?_;refine go_p rfl rfl rfl (o_pickT rfl hg_12 rfl) ?_;exact gMt hk12 (congrArg (fun b => some (D.bool b)) (some_eq hp_12)) ⟨rfl, trivial⟩
   ·replace hp_12 := cond_f hg_12 hp_12
    refine gKp rfl rfl rfl hg_12 rfl rfl ?_;refine gKp rfl rfl rfl hg_12 rfl rfl ?_;refine gKp rfl rfl rfl hg_12 rfl rfl ?_;refine gKp rfl rfl rfl hg_12 rfl rfl ?_;refine go_p rfl rfl rfl (o_pickF rfl hg_12 rfl) ?_;exact gMt hk12 (congrArg (fun b => some (D.bool b)) (some_eq hp_12)) ⟨rfl, trivial⟩
   refine go_p rfl rfl rfl (oMv rfl) ?_;obtain ⟨p2, hp_13, hm⟩ := bS hm;refine go_two [] 4 159 p2 (t := 155) trivial rfl (fun hg_13 hk13 => ?_) (fun hg_13 hk13 => ?_) ?_
   ·replace hp_13 := cond_t hg_13 hp_13
    refine gWp rfl rfl rfl hg_13 rfl rfl (oMv rfl) ?_;obtain ⟨x22, hx15, hp_13⟩ := bS hp_13;refine gWp rfl rfl rfl hg_13 rfl rfl (o_call0 Try.call12 rfl (w_store_Store_LevelN hx15)) ?_;refine gWp rfl rfl rfl hg_13 rfl rfl (o_cmp rfl rfl rfl) ?_;refine go_p rfl rfl rfl (o_pickT rfl hg_13 rfl) ?_;exact gMt hk13 (congrArg (fun b => some (D.bool b)) (some_eq hp_13)) trivial
   ·replace hp_13 := cond_f hg_13 hp_13
    refine gKp rfl rfl rfl hg_13 rfl rfl ?_;refine gKp rfl rfl rfl hg_13 rfl rfl ?_;refine gKp rfl rfl rfl hg_13 rfl rfl ?_;refine go_p rfl rfl rfl (o_pickF rfl hg_13 rfl) ?_;exact gMt hk13 (congrArg (fun b => some (D.bool b)) (some_eq hp_13)) trivial
   refine go_p rfl rfl rfl (oMv rfl) ?_;obtain ⟨p3, hp_14, hm⟩ := bS hm;refine go_two [] 2 162 p3 (t := 160) trivial rfl (fun hg_14 hk14 => ?_) (fun hg_14 hk14 => ?_) ?_
   ·replace hp_14 := cond_t hg_14 hp_14
    obtain ⟨x23, hx16, hp_14⟩ := bS hp_14;refine gWp rfl rfl rfl hg_14 rfl rfl (o_call0 Try.call13 rfl (w_syntagmalaw20_works hx16)) ?_;refine go_p rfl rfl rfl (o_pickT rfl hg_14 rfl) ?_;exact gMt hk14 (congrArg (fun b => some (D.bool b)) (some_eq hp_14)) trivial
   ·replace hp_14 := cond_f hg_14 hp_14
    refine gKp rfl rfl rfl hg_14 rfl rfl ?_;refine go_p rfl rfl rfl (o_pickF rfl hg_14 rfl) ?_;exact gMt hk14 (congrArg (fun b => some (D.bool b)) (some_eq hp_14)) trivial
   refine go_p rfl rfl rfl (oAs rfl) ?_;refine gNl (g_ret ?_);exact retK (ret_one' rfl (ret_tmp rfl) (perm_drop _)) (congrArg (fun (p : Bool) => (.bool p : D)) (some_eq hm))
end Go.Proofs.Ytcoghblhdjmbfaa
namespace Go.Proofs.Ytcoghblhdjmbfaa
open Go.V
open Classical
theorem FUv : FU = 18446744073709551616 := rfl
theorem takeS {α : Type} {l : List α} {i : Nat} {x : α} (h : l[i]? = some x) : l.take (i + 1) = l.take i ++ [x] := by
 obtain ⟨hi, rfl⟩ := List.getElem?_eq_some_iff.1 h;exact (List.take_append_getElem hi).symm
theorem bndS {α β : Type} {a : Option α} {f : α -> Option β} {x : α} {r : Option β} (h : a = some x) (h2 : f x = r) : a.bind f = r := by rw [h]; exact h2
def outP (n : Nat) (i : Int) : Bool := decide (i < 0) || decide ((n : Int) <= i)
theorem contains_eq (n : Nat) (l : List Int) (hl : l.length <= 1000) : m_cnI l (m_there1 n) = some (l.any (outP n)) := by
 unfold m_cnI m_ixI;obtain ⟨o, e1, h1, h2⟩ := loop_rng (φ := fun k i (_ : Unit) => m_ixI_l1 l (m_there1 n) k i) (l := l) (fun i _ => (l.take i).any (outP n) = false) (fun o => (l.any (outP n) = true -> ∃ k : Nat, o = Out.ret (k : Int)) /\ (l.any (outP n) = false -> o = Out.go ()))
  (by
   rintro k i x _ hx hi hI
   have hm := List.mem_of_getElem? hx
   simp only [m_ixI_l1];rw [dT (show (i : Int) < (l.length : Int) by omega), cT, getI hx, oB, show m_there1 n x = some (outP n x) from rfl, oB]
   cases hp : outP n x with
   | true =>
    right
    rw [cT];exact ⟨_, rfl, ⟨fun _ => ⟨i, rfl⟩, fun h => by rw [List.any_eq_false] at h; exact absurd hp (h x hm)⟩⟩
   | false =>
    left
    rw [cF_, grd_pos (by constructor <;> omega)];refine ⟨(), rfl, ?_⟩;rw [takeS hx, List.any_append, hI]
    simp [hp])
  (by
   rintro k _ hI;simp only [m_ixI_l1];rw [dF (by omega), cF_];rw [List.take_length] at hI;exact ⟨_, rfl, ⟨fun h => by (rw [hI] at h; cases h), fun _ => rfl⟩⟩) (by rw [FUv]; omega) () (by simp)
 rw [show m_ixI_l1 l (m_there1 n) FU 0 = some o from e1, oB]
 cases h : l.any (outP n) with
 | true =>
  obtain ⟨k, rfl⟩ := h1 h
  show some (decide (0 <= (k : Int))) = some true
  rw [dT (by omega)]
 | false =>
  rw [h2 h]
  rfl
theorem there_eq (s : StoreStore) (l : List Int) (hl : l.length <= 1000) : m_there s l = some (!l.any (outP s.nodes.length)) := by
 unfold m_there;rw [contains_eq _ l hl, oB]
def st0 : StoreStore := ⟨[], [], [], [], ⟨(16, []), []⟩, false⟩
theorem new_eq : m_store_New = some st0 := by kernel_rfl
def SmS (s : StoreStore) (n : Nat) : Prop := s.nodes.length <= n /\ s.levels.length = s.nodes.length /\ s.vars.length <= n
theorem add_eq {s : StoreStore} {n : Nat} (hs : SmS s n) (hn : n <= 100) (x : ANd) (lv : Int) : m_store_Store_add s x lv = some ((((s.nodes ++ [x]).length : Int) - 1), 0, ⟨s.nodes ++ [x], s.vars, s.levels ++ [lv], s.seen, s.wait, s.dead⟩) := by
 obtain ⟨h1, h2, _⟩ := hs;unfold m_store_Store_add;rw [dF (by omega), cF_, grd_pos (by simp only [List.length_cons, List.length_nil]; omega), grd_pos (by simp only [List.length_cons, List.length_nil]; omega), grd_pos (by constructor <;> simp only [List.length_append, List.length_cons, List.length_nil] <;> omega)]
theorem var_eq {s : StoreStore} {n : Nat} (hs : SmS s n) (hn : n <= 100) (lv : Int) : ∃ a b t, m_store_Store_Var s lv = some (a, b, t) /\ (decide (b = 2) == (decide (lv < 0) || decide (100 < lv))) = true /\ SmS t (n + 1) := by
 unfold m_store_Store_Var
 cases h : decide (lv < 0) || decide (100 < lv) with
 | true => exact ⟨_, _, _, by rw [cT], rfl, Nat.le_succ_of_le hs.1, hs.2.1, Nat.le_succ_of_le hs.2.2⟩
 | false =>
  have h3 := hs.2.2
  rw [cF_, dF (by omega), cF_];refine ⟨((s.nodes ++ [(⟨11, (s.vars.length : Int), 0, []⟩ : ANd)]).length : Int) - 1, 0, ⟨s.nodes ++ [⟨11, (s.vars.length : Int), 0, []⟩], s.vars ++ [⟨lv, [], []⟩], s.levels ++ [lv], s.seen, s.wait, s.dead⟩, bndS (add_eq (s := s) hs hn _ _) ?_, rfl, ?_⟩
  ·dsimp only
   rw [dT rfl, cT, grd_pos (by simp only [List.length_cons, List.length_nil]; omega)]
  ·refine ⟨?_, ?_, ?_⟩
   ·show (s.nodes ++ [_]).length <= _; rw [List.length_append, List.length_singleton]; have := hs.1; omega
   ·show (s.levels ++ [_]).length = (s.nodes ++ [_]).length; rw [List.length_append, List.length_append, List.length_singleton, List.length_singleton]; have := hs.2.1; omega
   ·show (s.vars ++ [_]).length <= _; rw [List.length_append, List.length_singleton]; omega
theorem leaf_eq {s : StoreStore} {n : Nat} (hs : SmS s n) (hn : n <= 100) (k : Int) : ∃ a b t, m_store_Store_Leaf s k = some (a, b, t) /\ (decide (b = 2) == (decide (k < 1) || decide (5 < k))) = true /\ SmS t (n + 1) := by
 unfold m_store_Store_Leaf
 cases h : decide (k < 1) || decide (5 < k) with
 | true => exact ⟨_, _, _, by rw [cT], rfl, Nat.le_succ_of_le hs.1, hs.2.1, Nat.le_succ_of_le hs.2.2⟩
 | false =>
  rw [cF_];refine ⟨_, _, _, bndS (add_eq (s := s) hs hn _ _) rfl, rfl, ?_, ?_, ?_⟩
  ·show (s.nodes ++ [_]).length <= _; rw [List.length_append, List.length_singleton]; have := hs.1; omega
  ·show (s.levels ++ [_]).length = (s.nodes ++ [_]).length; rw [List.length_append, List.length_append, List.length_singleton, List.length_singleton]; have := hs.2.1; omega
  ·exact Nat.le_succ_of_le hs.2.2
theorem out_two {s : StoreStore} {n : Nat} (hs : SmS s n) {a b : Int} (hb : (n : Int) <= b) : m_there s [a, b] = some false := by
 rw [there_eq s _ (by simp)]
 have h : outP s.nodes.length b = true := by
  unfold outP;rw [dT (show (s.nodes.length : Int) <= b by have := hs.1; omega), Bool.or_true]
 rw [show [a, b].any (outP s.nodes.length) = true by simp [h]]
 rfl
theorem arrow_eq {s : StoreStore} {n : Nat} (hs : SmS s n) {a b : Int} (hb : (n : Int) <= b) : m_store_Store_Arrow s a b = some (0, 3, s) := by
 unfold m_store_Store_Arrow;exact bndS (out_two (s := s) hs hb) rfl
theorem below_no {s : StoreStore} {n : Nat} (hs : SmS s n) {a b : Int} (hb : (n : Int) <= b) : m_store_Store_Below s a b = some (3, s) := by
 unfold m_store_Store_Below;exact bndS (out_two (s := s) hs hb) rfl
theorem named_no (k : Int) (hk : k = 7 \/ k = 8) (l : List AFd) : m_store_named k (⟨[33], 0⟩ :: l) = some false := by
 unfold m_store_named
 have h7 : m_name_Name [33] = some false := by kernel_rfl
 have h8 : m_name_Tag [33] = some false := by kernel_rfl
 obtain ⟨f, hf⟩ : ∃ f, FU = f + 1 := ⟨FU - 1, by rw [FUv]⟩
 have e : m_store_named_l1 k (⟨[33], 0⟩ :: l) FU 0 = some (Out.ret false) := by
  rw [hf];simp only [m_store_named_l1];rw [dT (show (0 : Int) < (((⟨[33], 0⟩ : AFd) :: l).length : Int) by simp only [List.length_cons]; omega), cT, show idx ((⟨[33], 0⟩ : AFd) :: l) 0 = some ⟨[33], 0⟩ from rfl, oB]
  rcases hk with rfl | rfl
  ·rw [dT rfl, cT, h7]; rfl
  ·rw [dF (by decide), cF_, dT rfl, oB, cF_, cT, h8]; rfl
 rw [e]; rfl
theorem wide_eq {s : StoreStore} {n : Nat} (hs : SmS s n) (k : Int) (l : List AFd) (hl : l.length <= 100) : ∃ b, m_store_Store_Wide s k (⟨[33], 0⟩ :: l) = some (0, b, s) /\ (b = 3 \/ b = 2) := by
 unfold m_store_Store_Wide;obtain ⟨o, e1, h⟩ := loop_rng (φ := fun f i (lv : Int) => m_store_Store_Wide_l1 s (⟨[33], 0⟩ :: l) f (lv, i)) (l := (⟨[33], 0⟩ : AFd) :: l) (fun _ _ => True) (fun o => o = Out.ret (0, 3, s) \/ ∃ lv, o = Out.go lv)
  (by
   rintro f i x lv hx hi _
   have hi2 : i < l.length + 1 := hi
   simp only [m_store_Store_Wide_l1];rw [dT (show (i : Int) < (((⟨[33], 0⟩ : AFd) :: l).length : Int) by simp only [List.length_cons]; omega), cT, getI hx, oB,
    show m_there (⟨s.nodes, s.vars, s.levels, s.seen, ⟨s.wait.first, s.wait.more⟩, s.dead⟩ : StoreStore) [x.at_] = some (!([x.at_].any (outP s.nodes.length))) from there_eq s _ (by simp), oB]
   cases hp : [x.at_].any (outP s.nodes.length) with
   | true =>
    right
    exact ⟨_, rfl, .inl rfl⟩
   | false =>
    left
    have hp2 : outP s.nodes.length x.at_ = false := by simpa using hp
    unfold outP at hp2;rw [Bool.or_eq_false_iff, decide_eq_false_iff_not, decide_eq_false_iff_not] at hp2
    have hlt : x.at_.toNat < s.levels.length := by rw [hs.2.1]; omega
    have hx2 : idx s.levels x.at_ = some s.levels[x.at_.toNat] := by
     unfold idx;rw [if_pos (by omega), List.getElem?_eq_getElem hlt]
    rw [Bool.not_false, Bool.not_true, cF_, hx2, oB, grd_pos (by constructor <;> omega)];exact ⟨_, rfl, trivial⟩)
  (by
   rintro f lv _;simp only [m_store_Store_Wide_l1];rw [dF (by omega), cF_];exact ⟨_, rfl, .inr ⟨_, rfl⟩⟩) (by rw [FUv]; simp only [List.length_cons]; omega) (-1) trivial
 rw [show m_store_Store_Wide_l1 s (⟨[33], 0⟩ :: l) FU (-1, 0) = some o from e1, oB]
 rcases h with rfl | ⟨lv, rfl⟩
 ·exact ⟨3, rfl, .inl rfl⟩
 ·refine ⟨2, ?_, .inr rfl⟩
  show (bif ((!decide (k = 7)) && (!decide (k = 8))) then (some true) else ((m_store_named k (⟨[33], 0⟩ :: l)).bind fun x5 => some (!x5)) : Option Bool).bind _ = _
  have hq : (bif ((!decide (k = 7)) && (!decide (k = 8))) then (some true) else ((m_store_named k (⟨[33], 0⟩ :: l)).bind fun x5 => some (!x5)) : Option Bool) = some true := by
   by_cases h7 : k = 7
   ·rw [named_no k (.inl h7), dT h7]; rfl
   ·by_cases h8 : k = 8
    ·rw [named_no k (.inr h8), dT h8, Bool.not_true, Bool.and_false]; rfl
    ·rw [dF h7, dF h8]; rfl
  rw [hq, oB, cT]
theorem works20 : m_syntagmalaw20_works = some true := by kernel_rfl
theorem law_StoreVoid (level kind i : Int) (l : List AFd) : m_syntagmalaw20_StoreVoid level kind i l = some true := by
 unfold m_syntagmalaw20_StoreVoid;rw [new_eq, oB];obtain ⟨a1, b1, s1, e1, q1, h1⟩ := var_eq (s := st0) (n := 0) ⟨Nat.le_refl _, rfl, Nat.le_refl _⟩ (by omega) level;refine bndS e1 ?_
 dsimp only
 obtain ⟨a2, b2, s2, e2, q2, h2⟩ := leaf_eq h1 (by omega) kind;refine bndS e2 ?_
 dsimp only
 refine bndS (arrow_eq (s := s2) h2 (a := i) (b := 5) (by omega)) ?_
 dsimp only
 have hmin : (if 40 < (l.length : Int) then 40 else (l.length : Int)) = ((min 40 l.length : Nat) : Int) := by
  split <;> omega
 rw [hmin, sli_take (by omega), oB, grd_pos (by simp only [List.length_cons, List.length_nil, List.length_take]; omega)];obtain ⟨b3, e3, h3⟩ := wide_eq h2 kind (l.take (min 40 l.length)) (by rw [List.length_take]; omega);refine bndS (x := (0, b3, s2)) e3 ?_
 dsimp only
 rw [q1, q2, dT (rfl : (3 : Int) = 3), show ((!decide (b3 = 3)) && (!decide (b3 = 2))) = false by rcases h3 with rfl | rfl <;> rfl];simp only [Bool.not_true, Bool.or_false, cF_];refine bndS (x := (3, s2)) (below_no (s := s2) h2 (a := i) (b := 9) (by omega)) ?_
 dsimp only
 rw [dT (rfl : (3 : Int) = 3), Bool.not_true, cF_, works20]
 rfl
end Go.Proofs.Ytcoghblhdjmbfaa
