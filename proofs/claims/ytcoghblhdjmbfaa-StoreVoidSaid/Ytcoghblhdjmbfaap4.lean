/- Part 4 of the proof: a program logic, what the functions compute, and what these answer; no condition. -/
import Derived.Test.Ytcoghblhdjmbfaap3
import Derived.Test.YtcoghblhdjmbfaaProg
set_option linter.unusedVariables false
set_option linter.unusedSimpArgs false
set_option maxRecDepth 100000
set_option maxHeartbeats 2000000
namespace Go.Proofs.Ytcoghblhdjmbfaa
open Go.V
theorem Try_mixed : Try.prog.follows .mixedOrders = true := by kernel_rfl
structure AFd where
 name : (List UInt8)
 at_ : Int
def AFd.d (x : AFd) : D := .agg [.str x.name, .i64 x.at_]
structure ANd where
 kind : Int
 a : Int
 b : Int
 l : (List AFd)
def ANd.d (x : ANd) : D := .agg [.i64 x.kind, .i64 x.a, .i64 x.b, .list 2 AFd.d x.l]
structure StorePair where
 p : Int
 q : Int
def StorePair.d (x : StorePair) : D := .agg [.i64 x.p, .i64 x.q]
instance : DecidableEq StorePair := fun x y => decidable_of_iff (x.p = y.p /\ x.q = y.q) (by cases x; cases y; simp)
def kStorePair (x : StorePair) : Value := kTwo (x.p, x.q)
theorem keyStorePairv (x : StorePair) : ∀ (H : PH) (v : Value), Conc H (StorePair.d x) v -> v = kStorePair x := fun H v h => two_key (x.p, x.q) H v h
theorem keyStorePair {t : TypeId} (h : Try.prog.underlying t = some (.array 2 3)) : KeyA Try.prog t kStorePair := (keyTwo h Try.underlying3 Try.sizeOf3 Try.isAgg3).comap (fun x : StorePair => (x.p, x.q)) (fun x y e => by cases x; cases y; simpa using e)
def m_ixI_l1 (s1 : (List Int)) (f1 : (Int -> Option Bool)) : Nat -> Int -> Option (Out Int Unit)
 | 0, _ => none
 | n + 1, x1 =>
  bif (decide (x1 < (s1.length : Int))) then
   (idx s1 x1).bind fun x2 =>
   (f1 x2).bind fun x3 =>
   bif x3 then
    some (Out.ret x1)
   else
    grd (InR (x1 + 1)) <|
    m_ixI_l1 s1 f1 n (x1 + 1)
  else
   some (Out.go (()))
def m_ixI (s1 : (List Int)) (f1 : (Int -> Option Bool)) : Option Int :=
 ((m_ixI_l1 s1 f1 FU 0 : Option (Out Int Unit))).bind (fun oo => oo.on (fun r1 => some r1) (fun _ =>
 some (-1)))
theorem w_ixI {s1 : (List Int)} {f1 : (Int -> Option Bool)} {r_1 : Int} {tl_0 : List Asrt} {fv_f1 : D} (hff1 : FunOk1T Try.prog fv_f1 D.i64 D.bool tl_0 f1) (hm : m_ixI s1 f1 = some r_1) : FnT Try.prog 32 [.list 1 D.i64 s1, fv_f1] tl_0 (.i64 r_1) := by
 unfold m_ixI at hm;refine fn_intro Try.func32 rfl Try.ntmps32 rfl fun H0 fr w0 => ?_;refine g_seq (gRg ?_);refine go_p rfl rfl rfl (oAs rfl) ?_;refine gNl (g_seq (g_seq (gRg ?_)));refine go_p rfl rfl rfl (oMv rfl) ?_;refine go_p rfl rfl rfl (o_len Try.runUnderlying49 rfl) ?_;refine go_p rfl rfl rfl (oMv rfl) ?_;refine gNl ?_;obtain ⟨o_1, hj1, hm1⟩ := bS hm;refine g_cut_m [] [] (fun (st : Unit) (hid : Unit) => match st, hid with | _, _ => []) (fun F (st : Unit) (hid : Unit) => match st, hid with | _, _ => [] ++ tl_0) (fun st => Out.go (st) = o_1) trivial trivial ?_ ?_
 ·skip
  refine g_block ?_;refine g_loop_m [(0, _), (1, _), (7, _)] [] (fun (st : Int) (hid : Unit) => match st, hid with | x1, _ => [(8, .i64 x1)]) (fun F (st : Int) (hid : Unit) => match st, hid with | x1, _ => [] ++ tl_0) () hj1 (fun _ => rfl) ⟨rfl, rfl, rfl, trivial⟩ trivial ⟨rfl, trivial⟩ rfl ?_;rintro n x1 _ hj1;rw [m_ixI_l1] at hj1;refine g_norm (L' := [(8, .i64 x1), (0, _), (1, _), (7, _)]) (ms' := [] ++ tl_0) rfl rfl ?_;refine g_seq (gRg ?_);refine go_p rfl rfl rfl (o_cmp rfl rfl rfl) ?_;refine gNl (g_seq ?_);refine gCd rfl (fun hc1 => ?_) (fun hc1 => ?_)
  ·replace hj1 := cond_t hc1 hj1
   refine gSp (g_seq (g_block (g_seq (gRg ?_))));refine go_p rfl rfl rfl (oMv rfl) ?_;refine go_p rfl rfl rfl (oAs rfl) ?_;refine gNl (g_seq (gRg ?_));refine go_p rfl rfl rfl (oMv rfl) ?_;refine go_p rfl rfl rfl (oMv rfl) ?_;refine go_p rfl rfl rfl (oMv rfl) ?_;obtain ⟨x2, hx1, hj1⟩ := bS hj1;refine go_p rfl rfl rfl (oIm Try.runUnderlying49 Try.sizeOf3 rfl rfl hx1) ?_;refine go_p rfl rfl rfl (o_load Try.isAgg3 rfl rfl) ?_;obtain ⟨x3, hx2, hj1⟩ := bS hj1;refine go_p rfl rfl rfl (o_callv_t (tl := tl_0) [] rfl rfl rfl (hff1 _ _ hx2)) ?_;refine gNl ?_;refine gCd rfl (fun hc2 => ?_) (fun hc2 => ?_)
   ·replace hj1 := cond_t hc2 hj1
    refine g_seq (gRg ?_);refine go_p rfl rfl rfl (oMv rfl) ?_;refine go_p rfl rfl rfl (oAs rfl) ?_;refine gNl (g_ret ?_);obtain rfl := some_eq hj1
    replace hm1 := on_ret hm1
    exact retK (ret_one' (ms' := tl_0) (drop := []) rfl (ret_tmp rfl) (List.Perm.refl _)) ⟨congrArg (fun (p : Int) => (.i64 p : D)) (some_eq hm1), rfl⟩
   ·replace hj1 := cond_f hc2 hj1
    refine gSp (gRg ?_);obtain ⟨hg3, hj1⟩ := grd_some hj1;refine go_p rfl rfl rfl (o_add rfl rfl (i64_id hg3)) ?_;refine go_p rfl rfl rfl (oMv rfl) ?_;refine gNl ?_;exact ⟨_, (), hj1, ⟨rfl, trivial⟩, ⟨rfl, rfl, rfl, trivial⟩, [], rfl⟩
  ·replace hj1 := cond_f hc1 hj1
   refine g_exit ?_;exact ⟨_, (), some_eq hj1, trivial, trivial, [], rfl⟩
 ·rintro _ _ hst
  subst hst
  replace hm1 := on_go hm1
  refine k_norm (L' := []) (ms' := [] ++ tl_0) rfl rfl ?_;refine g_seq (gRg ?_);refine go_p rfl rfl rfl (oAs rfl) ?_;refine gNl (g_ret ?_);exact retK (ret_one' (ms' := tl_0) (drop := []) rfl (ret_tmp rfl) (List.Perm.refl _)) ⟨congrArg (fun (p : Int) => (.i64 p : D)) (some_eq hm1), rfl⟩
def m_cnI (s1 : (List Int)) (f1 : (Int -> Option Bool)) : Option Bool :=
 (m_ixI s1 f1).bind fun x1 =>
 some (decide (0 <= x1))
theorem w_cnI {s1 : (List Int)} {f1 : (Int -> Option Bool)} {r_1 : Bool} {tl_0 : List Asrt} {fv_f1 : D} (hff1 : FunOk1T Try.prog fv_f1 D.i64 D.bool tl_0 f1) (hm : m_cnI s1 f1 = some r_1) : FnT Try.prog 23 [.list 1 D.i64 s1, fv_f1] tl_0 (.bool r_1) := by
 unfold m_cnI at hm;refine fn_intro Try.func23 rfl Try.ntmps23 rfl fun H0 fr w0 => ?_;refine g_seq (gRg ?_);refine go_p rfl rfl rfl (oAs rfl) ?_;refine gNl (g_seq (gRg ?_));refine go_p rfl rfl rfl (oMv rfl) ?_;refine go_p rfl rfl rfl (oMv rfl) ?_;obtain ⟨x1, hx1, hm⟩ := bS hm;refine go_p rfl rfl rfl (o_call_tl (tl := tl_0) [] rfl Try.call32 rfl (w_ixI hff1 hx1)) ?_;refine go_p rfl rfl rfl (o_cmp rfl rfl rfl) ?_;refine go_p rfl rfl rfl (oAs rfl) ?_;refine gNl (g_ret ?_);exact retK (ret_one' (ms' := tl_0) (drop := []) rfl (ret_tmp rfl) (List.Perm.refl _)) ⟨congrArg (fun (p : Bool) => (.bool p : D)) (some_eq hm), rfl⟩
theorem pl_70 : ∀ fs, (∀ w, (underlying 70).run Try.prog w = .ok (.struct fs) w) -> placesOf Try.prog fs [(0, 1), (1, 1)] := by
 intro fs h w
 have := (h w).symm.trans (Try.runUnderlying70 w)
 simp only [Result.ok.injEq, TypeDesc.struct.injEq, and_true] at this;subst this
 simp [Try.sizeOf67, Try.sizeOf68, Sem.run]
structure QueuePairs where
 first : (Nat × List StorePair)
 more : (List StorePair)
def m_queue_New_store_pair (room1 : Int)  : Option QueuePairs :=
 grd (0 <= (if 64 < (if 0 > room1 then 0 else room1) then 64 else (if 0 > room1 then 0 else room1))) <|
 grd ((if 64 < (if 0 > room1 then 0 else room1) then 64 else (if 0 > room1 then 0 else room1)) <= 9223372036854775807) <|
 grd ((16 : Int) * (if 64 < (if 0 > room1 then 0 else room1) then 64 else (if 0 > room1 then 0 else room1)) <= 281474976710544) <|
 some (⟨(((if 64 < (if 0 > room1 then 0 else room1) then 64 else (if 0 > room1 then 0 else room1))).toNat, ([] : List StorePair)), ([] : List StorePair)⟩ : QueuePairs)
theorem w_queue_New_store_pair {room1 : Int}  {s_1 : QueuePairs} (hm : m_queue_New_store_pair room1 = some s_1) : Go.V.Fn Try.prog 14 [.i64 room1] [] (fun d ms' => ∃ b_s_1 c_s_1c0 a_s_1c1 cap_s_1c1, d = .v (.pointer (some ⟨b_s_1, 0, none⟩)) /\ ms' = [box b_s_1 70 [.v (.chan (some c_s_1c0)), .v (.slice a_s_1c1 s_1.more.length cap_s_1c1)], chn c_s_1c0 s_1.first.1 StorePair.d s_1.first.2, que a_s_1c1 cap_s_1c1 47 2 StorePair.d s_1.more]) := by
 unfold m_queue_New_store_pair at hm;refine fn_intro Try.func14 rfl Try.ntmps14 rfl fun H0 fr w0 => ?_;refine g_seq (gRg ?_);refine go_p rfl rfl rfl (oAs rfl) ?_;refine gNl (g_seq (gRg ?_));refine go_p rfl rfl rfl (oMv rfl) ?_;refine go_p rfl rfl rfl (o_max rfl rfl) ?_;refine go_p rfl rfl rfl (o_min rfl rfl) ?_;obtain ⟨hg1, hm⟩ := grd_some hm;obtain ⟨hg2, hm⟩ := grd_some hm;obtain ⟨hg3, hm⟩ := grd_some hm;refine go_op rfl rfl rfl (o_makeChan (f := StorePair.d) Try.underlying67 Try.type47 rfl hg1 hg2 hg3) ?_;rintro _ _ ⟨c_r1, rfl, rfl⟩;refine go_p rfl rfl rfl (o_build (zs := [.v (.chan none), .v (.slice none 0 0)]) Try.runUnderlying70 Try.zeroValue70 (pl_70 _ Try.runUnderlying70) rfl rfl rfl rfl) ?_;refine go_op rfl rfl rfl (o_box_own rfl rfl rfl) ?_;rintro _ _ ⟨b1, rfl, rfl⟩;refine go_conv (refines_newrow (T := 47) (sz := 2) (f := StorePair.d)) ?_;refine go_p rfl rfl rfl (oAs rfl) ?_;refine gNl ?_;refine g_conv (refines_que 0 rfl rfl) ?_;refine g_ret ?_;obtain rfl := some_eq hm;exact retK (ret_one' rfl (ret_tmp rfl) (permA 1 rfl (permA 1 rfl (permA 0 rfl permN)))) ⟨_, _, _, _, rfl, rfl⟩
structure StoreVariable where
 level : Int
 below_ : (List Int)
 above : (List Int)
def StoreVariable.d (x : StoreVariable) : D := .agg [.i64 x.level, nzD 1 D.i64 x.below_, nzD 1 D.i64 x.above]
theorem StoreVariable.ok (x : StoreVariable) : x.d.storable = true /\ x.d.cs.length = 3 /\ flat x.d.cs = true /\ storableL x.d.cs = true := by
 obtain ⟨x0, x1, x2⟩ := x
 cases x1 <;> cases x2 <;> exact ⟨rfl, rfl, rfl, rfl⟩
theorem pl_51 : ∀ fs, (∀ w, (underlying 51).run Try.prog w = .ok (.struct fs) w) -> placesOf Try.prog fs [(0, 1), (1, 1), (2, 1), (3, 1), (4, 1), (5, 1)] := by
 intro fs h w
 have := (h w).symm.trans (Try.runUnderlying51 w)
 simp only [Result.ok.injEq, TypeDesc.struct.injEq, and_true] at this;subst this
 simp [Try.sizeOf33, Try.sizeOf4, Try.sizeOf43, Try.sizeOf44, Try.sizeOf48, Try.sizeOf49, Sem.run]
structure StoreStore where
 nodes : (List ANd)
 vars : (List StoreVariable)
 levels : (List Int)
 seen : (List (StorePair × Bool))
 wait : QueuePairs
 dead : Bool
def m_store_New   : Option StoreStore :=
 (m_queue_New_store_pair 16).bind fun s1 =>
 some (⟨([] : List ANd), ([] : List StoreVariable), ([] : List Int), ([] : List (StorePair × Bool)), (⟨s1.first, s1.more⟩ : QueuePairs), false⟩ : StoreStore)
theorem w_store_New   {s_1 : StoreStore} (hm : m_store_New = some s_1) : Go.V.Fn Try.prog 4 [] [] (fun d ms' => ∃ b_s_1 a_s_1c0 cap_s_1c0 a_s_1c1 m_s_1c1 cap_s_1c1 a_s_1c2 cap_s_1c2 b_s_1c3 b_s_1c4 c_s_1c4c0 a_s_1c4c1 cap_s_1c4c1, d = .v (.pointer (some ⟨b_s_1, 0, none⟩)) /\ ms' = [box b_s_1 51 [.v (.slice a_s_1c0 s_1.nodes.length cap_s_1c0), .v (.slice a_s_1c1 m_s_1c1 cap_s_1c1), .v (.slice a_s_1c2 s_1.levels.length cap_s_1c2), .v (.map (some b_s_1c3)), .v (.pointer (some ⟨b_s_1c4, 0, none⟩)), .bool s_1.dead], row a_s_1c0 cap_s_1c0 54 4 ANd.d s_1.nodes, arr a_s_1c1 m_s_1c1 cap_s_1c1 56 3 StoreVariable.d s_1.vars, row a_s_1c2 cap_s_1c2 3 1 D.i64 s_1.levels, mp b_s_1c3 kStorePair D.bool s_1.seen, box b_s_1c4 70 [.v (.chan (some c_s_1c4c0)), .v (.slice a_s_1c4c1 s_1.wait.more.length cap_s_1c4c1)], chn c_s_1c4c0 s_1.wait.first.1 StorePair.d s_1.wait.first.2, que a_s_1c4c1 cap_s_1c4c1 47 2 StorePair.d s_1.wait.more]) := by
 unfold m_store_New at hm;refine fn_intro Try.func4 rfl Try.ntmps4 rfl fun H0 fr w0 => ?_;refine g_seq (gRg ?_);refine go_p rfl rfl rfl (oAs rfl) ?_;refine gNl (g_seq (gRg ?_));refine go_op rfl rfl rfl (o_makeMap (fk := kStorePair) (fv := D.bool)) ?_;rintro _ _ ⟨b1, rfl, rfl⟩;obtain ⟨s1, hx1, hm⟩ := bS hm;refine go_op rfl rfl rfl (o_call (ms₁ := []) Try.call14 rfl (List.Perm.refl _) (w_queue_New_store_pair hx1)) ?_;rintro _ _ ⟨_, ⟨b2, c_r1, a_r2, cap_r2, rfl, rfl⟩, rfl⟩;refine go_p rfl rfl rfl (o_build (zs := [.v (.slice none 0 0), .v (.slice none 0 0), .v (.slice none 0 0), .v (.map none), .v (.pointer none), .bool false]) Try.runUnderlying51 Try.zeroValue51 (pl_51 _ Try.runUnderlying51) rfl rfl rfl rfl) ?_;refine go_op rfl rfl rfl (o_box_own rfl rfl rfl) ?_;rintro _ _ ⟨b3, rfl, rfl⟩;refine go_conv (refines_newrow (T := 54) (sz := 4) (f := ANd.d)) ?_;refine go_conv (refines_newarr (T := 56) (sz := 3) (f := StoreVariable.d)) ?_;refine go_conv (refines_newrow (T := 3) (sz := 1) (f := D.i64)) ?_;refine go_p rfl rfl rfl (oAs rfl) ?_;refine gNl (g_ret ?_);obtain rfl := some_eq hm;exact retK (ret_one' rfl (ret_tmp rfl) (permA 3 rfl (permA 2 rfl (permA 1 rfl (permA 0 rfl (permA 3 rfl (permA 0 rfl (permA 0 rfl (permA 0 rfl permN))))))))) ⟨_, _, _, _, _, _, _, _, _, _, _, _, _, rfl, rfl⟩
theorem fi_51_0 : FieldIs Try.prog 51 0 0 1 false := ⟨⟨_, _, Try.runUnderlying51, rfl, rfl, Try.sizeOf33, by decide, Try.isAgg33⟩⟩
theorem fi_51_2 : FieldIs Try.prog 51 2 2 1 false := ⟨⟨_, _, Try.runUnderlying51, rfl, rfl, Try.sizeOf49, by decide, Try.isAgg49⟩⟩
def m_store_Store_add (s1 : StoreStore) (n1 : ANd) (level1 : Int)  : Option (Int × Int × StoreStore) :=
 bif (decide (2000 <= (s1.nodes.length : Int))) then
  some (0, 8, (⟨s1.nodes, s1.vars, s1.levels, s1.seen, (⟨s1.wait.first, s1.wait.more⟩ : QueuePairs), s1.dead⟩ : StoreStore))
 else
  grd ((s1.nodes.length + ([n1] : List _).length) * 48 <= 140737488355328) <|
  grd ((s1.levels.length + ([level1] : List _).length) * 8 <= 140737488355328) <|
  grd (InR (((s1.nodes ++ [n1]).length : Int) - 1)) <|
  some ((((s1.nodes ++ [n1]).length : Int) - 1), 0, (⟨(s1.nodes ++ [n1]), s1.vars, (s1.levels ++ [level1]), s1.seen, (⟨s1.wait.first, s1.wait.more⟩ : QueuePairs), s1.dead⟩ : StoreStore))
theorem w_store_Store_add {s1 : StoreStore} {n1 : ANd} {level1 : Int}  {r_1 : Int} {r_2 : Int} {s_1 : StoreStore} {b_q0 : Nat} {a_q0c0 : Option Addr} {cap_q0c0 : Nat} {a_q0c1 : Option Addr} {m_q0c1 : Nat} {cap_q0c1 : Nat} {a_q0c2 : Option Addr} {cap_q0c2 : Nat} {b_q0c3 : Nat} {b_q0c4 : Nat} {c_q0c4c0 : Nat} {a_q0c4c1 : Option Addr} {cap_q0c4c1 : Nat} (hm : m_store_Store_add s1 n1 level1 = some (r_1, r_2, s_1)) : Go.V.Fn Try.prog 15 [.v (.pointer (some ⟨b_q0, 0, none⟩)), ANd.d n1, .i64 level1] [box b_q0 51 [.v (.slice a_q0c0 s1.nodes.length cap_q0c0), .v (.slice a_q0c1 m_q0c1 cap_q0c1), .v (.slice a_q0c2 s1.levels.length cap_q0c2), .v (.map (some b_q0c3)), .v (.pointer (some ⟨b_q0c4, 0, none⟩)), .bool s1.dead], row a_q0c0 cap_q0c0 54 4 ANd.d s1.nodes, arr a_q0c1 m_q0c1 cap_q0c1 56 3 StoreVariable.d s1.vars, row a_q0c2 cap_q0c2 3 1 D.i64 s1.levels, mp b_q0c3 kStorePair D.bool s1.seen, box b_q0c4 70 [.v (.chan (some c_q0c4c0)), .v (.slice a_q0c4c1 s1.wait.more.length cap_q0c4c1)], chn c_q0c4c0 s1.wait.first.1 StorePair.d s1.wait.first.2, que a_q0c4c1 cap_q0c4c1 47 2 StorePair.d s1.wait.more] (fun d ms' => ∃ a_s_1c0 cap_s_1c0 a_s_1c1 m_s_1c1 cap_s_1c1 a_s_1c2 cap_s_1c2 c_s_1c4c0 a_s_1c4c1 cap_s_1c4c1, d = .tup [.i64 r_1, .i64 r_2] /\ ms' = [box b_q0 51 [.v (.slice a_s_1c0 s_1.nodes.length cap_s_1c0), .v (.slice a_s_1c1 m_s_1c1 cap_s_1c1), .v (.slice a_s_1c2 s_1.levels.length cap_s_1c2), .v (.map (some b_q0c3)), .v (.pointer (some ⟨b_q0c4, 0, none⟩)), .bool s_1.dead], row a_s_1c0 cap_s_1c0 54 4 ANd.d s_1.nodes, arr a_s_1c1 m_s_1c1 cap_s_1c1 56 3 StoreVariable.d s_1.vars, row a_s_1c2 cap_s_1c2 3 1 D.i64 s_1.levels, mp b_q0c3 kStorePair D.bool s_1.seen, box b_q0c4 70 [.v (.chan (some c_s_1c4c0)), .v (.slice a_s_1c4c1 s_1.wait.more.length cap_s_1c4c1)], chn c_s_1c4c0 s_1.wait.first.1 StorePair.d s_1.wait.first.2, que a_s_1c4c1 cap_s_1c4c1 47 2 StorePair.d s_1.wait.more]) := by
 unfold m_store_Store_add at hm;refine fn_intro Try.func15 rfl Try.ntmps15 rfl fun H0 fr w0 => ?_;refine g_seq (gRg ?_);refine go_p rfl rfl rfl (o_box rfl rfl) ?_;refine go_p rfl rfl rfl (oAs rfl) ?_;refine go_p rfl rfl rfl (oAs rfl) ?_;refine gNl (g_seq (g_seq (gRg ?_)));refine go_p rfl rfl rfl (oMv rfl) ?_;refine go_p rfl rfl rfl (o_nilCheck_box rfl) ?_;refine go_p rfl rfl rfl (oFb fi_51_0 rfl) ?_;refine go_p rfl rfl rfl (oLb 0 Try.isAgg33 rfl rfl rfl rfl) ?_;refine go_p rfl rfl rfl (.view (peekE (i := 11) 1 rfl rfl rfl) (o_len Try.runUnderlying33 rfl)) ?_;refine go_p rfl rfl rfl (o_cmp rfl rfl rfl) ?_;refine gNl ?_;refine gCd rfl (fun hc1 => ?_) (fun hc1 => ?_)
 ·replace hm := cond_t hc1 hm
  refine g_seq (gRg ?_);refine go_p rfl rfl rfl (oAs rfl) ?_;refine go_p rfl rfl rfl (oAs rfl) ?_;refine gNl (g_ret ?_)
  have hq1 := some_eq hm
  obtain ⟨rfl, hq2⟩ := Prod.mk.inj hq1;obtain ⟨rfl, rfl⟩ := Prod.mk.inj hq2;exact retK (ret_many (ds := [_, _]) rfl (by decide) ⟨ret_tmp rfl, ⟨ret_tmp rfl, rfl⟩⟩ (permA 0 rfl (permA 0 rfl (permA 0 rfl (permA 0 rfl (permA 0 rfl (permA 0 rfl (permA 0 rfl (permA 0 rfl permN))))))))) ⟨_, _, _, _, _, _, _, _, _, _, rfl, rfl⟩
 ·replace hm := cond_f hc1 hm
  refine gSp (g_seq ?_);obtain ⟨hg1, hm⟩ := grd_some hm;refine g_draw_c [7, 10] [0, 8, 9] [] Try_mixed (by decide +kernel) (by decide +kernel) rfl ?_;refine gde_p rfl rfl rfl rfl rfl rfl (oMv rfl) ?_;refine gde_p rfl rfl rfl rfl rfl rfl (oMv rfl) ?_;refine gde_p rfl rfl rfl rfl rfl rfl (o_nilCheck_box rfl) ?_;refine gde_p rfl rfl rfl rfl rfl rfl (oFb fi_51_0 rfl) ?_;refine gde_p rfl rfl rfl rfl rfl rfl (oLb 0 Try.isAgg33 rfl rfl rfl rfl) ?_;refine gde_p rfl rfl rfl rfl rfl rfl (o_load_agg Try.isAgg54 Try.sizeOf54 rfl rfl) ?_;refine gde_p rfl rfl rfl rfl rfl rfl (o_buildSlice (xs := [_]) (f := ANd.d) (l := [_]) Try.runUnderlying33 Try.sizeOf54 Try.zeroValue54 rfl rfl rfl (fun _ => ⟨rfl, rfl, rfl⟩) rfl) ?_;refine gde_e rfl ?_;refine gde_p rfl rfl rfl rfl rfl rfl (o_nilCheck_box rfl) ?_;refine gde_p rfl rfl rfl rfl rfl rfl (oFb fi_51_0 rfl) ?_;refine gde_e rfl ?_;refine gde_nil ?_;refine gde2_t rfl rfl rfl rfl (o_append (a := _) 1 Try.underlying33 Try.type54 rfl rfl rfl rfl rfl rfl rfl (fun _ => rfl) (fun _ => rfl) hg1 (app_len hg1 rfl)) ?_;rintro _ _ ⟨a_q0c0, cap_q0c0, rfl, rfl⟩;refine ⟨(trivial : True), ?_⟩;refine gde2_u rfl rfl rfl (oSb 0 Try.sizeOf33 rfl rfl rfl rfl rfl rfl rfl rfl (nB rfl)) ?_;rintro _ _ rfl;refine ⟨(trivial : True), ?_⟩;refine gde2_nil ?_;refine g_seq (gRg ?_);refine go_p rfl rfl rfl (oMv rfl) ?_;refine go_p rfl rfl rfl (oMv rfl) ?_;refine go_p rfl rfl rfl (o_nilCheck_box rfl) ?_;refine go_p rfl rfl rfl (oFb fi_51_2 rfl) ?_;refine go_p rfl rfl rfl (oLb 0 Try.isAgg49 rfl rfl rfl rfl) ?_;refine go_p rfl rfl rfl (oMv rfl) ?_;refine go_p rfl rfl rfl (o_buildSlice (xs := [_]) (f := D.i64) (l := [_]) Try.runUnderlying49 Try.sizeOf3 Try.zeroValue3 rfl rfl rfl (fun _ => ⟨rfl, rfl, rfl⟩) rfl) ?_;obtain ⟨hg2, hm⟩ := grd_some hm;refine go_op rfl rfl rfl (o_append (a := _) 3 Try.underlying49 Try.type3 rfl rfl rfl rfl rfl rfl rfl (fun _ => rfl) (fun _ => rfl) hg2 (app_len hg2 rfl)) ?_;rintro _ _ ⟨a_q0c2, cap_q0c2, rfl, rfl⟩;refine go_ms (ms' := [box b_q0 51 [_, _, _, _, _, _], _, _, _, _, box b_q0c4 70 [_, _], _, _]) rfl ?_;refine go_p rfl rfl rfl (o_nilCheck_box rfl) ?_;refine go_p rfl rfl rfl (oFb fi_51_2 rfl) ?_;refine go_u rfl rfl (oSb 0 Try.sizeOf49 rfl rfl rfl rfl rfl rfl rfl rfl (nB rfl)) ?_;rintro _ _ rfl;refine go_ms (ms' := [box b_q0 51 [_, _, _, _, _, _], _, _, _, _, box b_q0c4 70 [_, _], _, _]) rfl ?_;refine gNl (g_seq (gRg ?_));refine go_p rfl rfl rfl (oMv rfl) ?_;refine go_p rfl rfl rfl (o_nilCheck_box rfl) ?_;refine go_p rfl rfl rfl (oFb fi_51_0 rfl) ?_;refine go_p rfl rfl rfl (oLb 0 Try.isAgg33 rfl rfl rfl rfl) ?_;refine go_p rfl rfl rfl (.view (peekE (i := 37) 1 rfl rfl rfl) (o_len Try.runUnderlying33 rfl)) ?_;obtain ⟨hg3, hm⟩ := grd_some hm;refine go_p rfl rfl rfl (o_sub rfl rfl (i64_id hg3)) ?_;refine go_p rfl rfl rfl (oAs rfl) ?_
  refine go_p rfl rfl rfl (oAs rfl) ?_;refine gNl (g_ret ?_)
  have hq1 := some_eq hm
  obtain ⟨rfl, hq2⟩ := Prod.mk.inj hq1;obtain ⟨rfl, rfl⟩ := Prod.mk.inj hq2;exact retK (ret_many (ds := [_, _]) rfl (by decide) ⟨ret_tmp rfl, ⟨ret_tmp rfl, rfl⟩⟩ (permA 0 rfl (permA 0 rfl (permA 0 rfl (permA 0 rfl (permA 0 rfl (permA 0 rfl (permA 0 rfl (permA 0 rfl permN))))))))) ⟨_, _, _, _, _, _, _, _, _, _, rfl, rfl⟩
def m_name_small (c1 : UInt8) : Option Bool :=
 some (((decide (97 <= (c1.toNat : Int))) && (decide ((c1.toNat : Int) <= 122))) || (decide ((c1.toNat : Int) = 95)))
theorem w_name_small {c1 : UInt8} {r_1 : Bool} (hm : m_name_small c1 = some r_1) : Fn0 Try.prog 34 [.u8 c1] (.bool r_1) := by
 unfold m_name_small at hm;refine fn_intro Try.func34 rfl Try.ntmps34 rfl fun H0 fr w0 => ?_;refine g_seq (gRg ?_);refine go_p rfl rfl rfl (oAs rfl) ?_;refine gNl (g_seq (gRg ?_));refine go_p rfl rfl rfl (oMv rfl) ?_;refine go_p rfl rfl rfl (o_cmp rfl rfl rfl) ?_;refine go_p rfl rfl rfl (oMv rfl) ?_
 apply go_and [(0, _)] 3 8 (t := 5) ⟨rfl, trivial⟩ rfl
 ·intro hg_1 hk1
  refine gWp rfl rfl rfl hg_1 rfl rfl (oMv rfl) ?_;refine gWp rfl rfl rfl hg_1 rfl rfl (o_cmp rfl rfl rfl) ?_;refine go_p rfl rfl rfl (o_pickT rfl hg_1 rfl) ?_;exact gMt hk1 (rfl) ⟨rfl, trivial⟩
 ·intro hg_1 hk1
  refine gKp rfl rfl rfl hg_1 rfl rfl ?_;refine gKp rfl rfl rfl hg_1 rfl rfl ?_;refine go_p rfl rfl rfl (o_pickF rfl hg_1 rfl) ?_;exact gMt hk1 (rfl) ⟨rfl, trivial⟩
 refine go_p rfl rfl rfl (oMv rfl) ?_
 apply go_or [] 3 12 (t := 9) trivial rfl
 ·intro hg_2 hk2
  refine gWp rfl rfl rfl hg_2 rfl rfl (oMv rfl) ?_;refine gWp rfl rfl rfl hg_2 rfl rfl (o_cmp rfl rfl rfl) ?_;refine go_p rfl rfl rfl (o_pickF rfl hg_2 rfl) ?_;exact gMt hk2 (rfl) trivial
 ·intro hg_2 hk2
  refine gKp rfl rfl rfl hg_2 rfl rfl ?_;refine gKp rfl rfl rfl hg_2 rfl rfl ?_;refine go_p rfl rfl rfl (o_pickT rfl hg_2 rfl) ?_;exact gMt hk2 (rfl) trivial
 refine go_p rfl rfl rfl (oAs rfl) ?_;refine gNl (g_ret ?_);exact retK (ret_one' rfl (ret_tmp rfl) (perm_drop _)) (congrArg (fun (p : Bool) => (.bool p : D)) (some_eq hm))
def m_name_great (c1 : UInt8) : Option Bool :=
 some ((decide (65 <= (c1.toNat : Int))) && (decide ((c1.toNat : Int) <= 90)))
theorem w_name_great {c1 : UInt8} {r_1 : Bool} (hm : m_name_great c1 = some r_1) : Fn0 Try.prog 36 [.u8 c1] (.bool r_1) := by
 unfold m_name_great at hm;refine fn_intro Try.func36 rfl Try.ntmps36 rfl fun H0 fr w0 => ?_;refine g_seq (gRg ?_);refine go_p rfl rfl rfl (oAs rfl) ?_;refine gNl (g_seq (gRg ?_));refine go_p rfl rfl rfl (oMv rfl) ?_;refine go_p rfl rfl rfl (o_cmp rfl rfl rfl) ?_;refine go_p rfl rfl rfl (oMv rfl) ?_
 apply go_and [] 3 8 (t := 5) trivial rfl
 ·intro hg_1 hk1
  refine gWp rfl rfl rfl hg_1 rfl rfl (oMv rfl) ?_;refine gWp rfl rfl rfl hg_1 rfl rfl (o_cmp rfl rfl rfl) ?_;refine go_p rfl rfl rfl (o_pickT rfl hg_1 rfl) ?_;exact gMt hk1 (rfl) trivial
 ·intro hg_1 hk1
  refine gKp rfl rfl rfl hg_1 rfl rfl ?_;refine gKp rfl rfl rfl hg_1 rfl rfl ?_;refine go_p rfl rfl rfl (o_pickF rfl hg_1 rfl) ?_;exact gMt hk1 (rfl) trivial
 refine go_p rfl rfl rfl (oAs rfl) ?_;refine gNl (g_ret ?_);exact retK (ret_one' rfl (ret_tmp rfl) (perm_drop _)) (congrArg (fun (p : Bool) => (.bool p : D)) (some_eq hm))
def m_name_more (c1 : UInt8) : Option Bool :=
 (m_name_small c1).bind fun x1 =>
 (bif x1 then (some true) else ((m_name_great c1).bind fun x2 =>
 some x2)).bind fun p1 =>
 some (p1 || ((decide (48 <= (c1.toNat : Int))) && (decide ((c1.toNat : Int) <= 57))))
theorem w_name_more {c1 : UInt8} {r_1 : Bool} (hm : m_name_more c1 = some r_1) : Fn0 Try.prog 49 [.u8 c1] (.bool r_1) := by
 unfold m_name_more at hm;refine fn_intro Try.func49 rfl Try.ntmps49 rfl fun H0 fr w0 => ?_;refine g_seq (gRg ?_);refine go_p rfl rfl rfl (oAs rfl) ?_;refine gNl (g_seq (gRg ?_));refine go_p rfl rfl rfl (oMv rfl) ?_;obtain ⟨x1, hx1, hm⟩ := bS hm;refine go_p rfl rfl rfl (o_call0 Try.call34 rfl (w_name_small hx1)) ?_;refine go_p rfl rfl rfl (oMv rfl) ?_;obtain ⟨p1, hp_1, hm⟩ := bS hm;refine go_two [(0, _)] 3 8 p1 (t := 5) ⟨rfl, trivial⟩ rfl (fun hg_1 hk1 => ?_) (fun hg_1 hk1 => ?_) ?_
 ·replace hp_1 := cond_t hg_1 hp_1
  refine gKp rfl rfl rfl hg_1 rfl rfl ?_;refine gKp rfl rfl rfl hg_1 rfl rfl ?_;refine go_p rfl rfl rfl (o_pickT rfl hg_1 rfl) ?_;exact gMt hk1 (congrArg (fun b => some (D.bool b)) (some_eq hp_1)) ⟨rfl, trivial⟩
 ·replace hp_1 := cond_f hg_1 hp_1
  refine gWp rfl rfl rfl hg_1 rfl rfl (oMv rfl) ?_;obtain ⟨x2, hx2, hp_1⟩ := bS hp_1;refine gWp rfl rfl rfl hg_1 rfl rfl (o_call0 Try.call36 rfl (w_name_great hx2)) ?_;refine go_p rfl rfl rfl (o_pickF rfl hg_1 rfl) ?_;exact gMt hk1 (congrArg (fun b => some (D.bool b)) (some_eq hp_1)) ⟨rfl, trivial⟩
 refine go_p rfl rfl rfl (oMv rfl) ?_
 apply go_or [] 7 16 (t := 9) trivial rfl
 ·intro hg_2 hk2
  refine gWp rfl rfl rfl hg_2 rfl rfl (oMv rfl) ?_;refine gWp rfl rfl rfl hg_2 rfl rfl (o_cmp rfl rfl rfl) ?_;refine gWp rfl rfl rfl hg_2 rfl rfl (oMv rfl) ?_
  apply go_and [(9, _)] 3 15 (t := 12) ⟨rfl, trivial⟩ rfl
  ·intro hg_3 hk3
   refine gWp rfl rfl rfl hg_3 rfl rfl (oMv rfl) ?_;refine gWp rfl rfl rfl hg_3 rfl rfl (o_cmp rfl rfl rfl) ?_;refine gWp rfl rfl rfl hg_2 rfl rfl (o_pickT rfl hg_3 rfl) ?_;exact gMt hk3 (rfl) ⟨rfl, trivial⟩
  ·intro hg_3 hk3
   refine gKp rfl rfl rfl hg_3 rfl rfl ?_;refine gKp rfl rfl rfl hg_3 rfl rfl ?_;refine gWp rfl rfl rfl hg_2 rfl rfl (o_pickF rfl hg_3 rfl) ?_;exact gMt hk3 (rfl) ⟨rfl, trivial⟩
  refine go_p rfl rfl rfl (o_pickF rfl hg_2 rfl) ?_;exact gMt hk2 (rfl) trivial
 ·intro hg_2 hk2
  refine gKp rfl rfl rfl hg_2 rfl rfl ?_;refine gKp rfl rfl rfl hg_2 rfl rfl ?_;refine gKp rfl rfl rfl hg_2 rfl rfl ?_;refine gKu rfl rfl rfl rfl rfl ?_;refine gKu rfl rfl rfl rfl rfl ?_;refine gKp rfl rfl rfl hg_2 rfl rfl ?_;refine go_p rfl rfl rfl (o_pickT rfl hg_2 rfl) ?_;exact gMt hk2 (rfl) trivial
 refine go_p rfl rfl rfl (oAs rfl) ?_;refine gNl (g_ret ?_);exact retK (ret_one' rfl (ret_tmp rfl) (perm_drop _)) (congrArg (fun (p : Bool) => (.bool p : D)) (some_eq hm))
def m_name_Word_l1 (s1 : (List UInt8)) : Nat -> Int -> Option Int
 | 0, _ => none
 | n + 1, n2 =>
  (bif (decide (n2 < (s1.length : Int))) then ((idx s1 n2).bind fun c3 =>
  (m_name_more c3).bind fun x3 =>
  some x3) else (some false)).bind fun p3 =>
  bif p3 then
   grd (InR (n2 + 1)) <|
   m_name_Word_l1 s1 n (n2 + 1)
  else
   some n2
def m_name_Word (s1 : (List UInt8)) : Option Int :=
 (bif (decide ((s1 : List UInt8) = ([] : List UInt8))) then (some true) else ((idx s1 0).bind fun c1 =>
 (m_name_small c1).bind fun x1 =>
 (bif (!x1) then ((idx s1 0).bind fun c2 =>
 (m_name_great c2).bind fun x2 =>
 some (!x2)) else (some false)).bind fun p2 =>
 some p2)).bind fun p1 =>
 bif p1 then
  some 0
 else
  (m_name_Word_l1 s1 FU 1 : Option Int).bind fun n1 =>
  some n1
theorem w_name_Word {s1 : (List UInt8)} {r_1 : Int} (hm : m_name_Word s1 = some r_1) : Fn0 Try.prog 43 [.str s1] (.i64 r_1) := by
 unfold m_name_Word at hm;refine fn_intro Try.func43 rfl Try.ntmps43 rfl fun H0 fr w0 => ?_;refine g_seq (gRg ?_);refine go_p rfl rfl rfl (oAs rfl) ?_;refine gNl (g_seq (g_seq (gRg ?_)));refine go_p rfl rfl rfl (oMv rfl) ?_;refine go_p rfl rfl rfl (o_cmps rfl rfl rfl) ?_;refine go_p rfl rfl rfl (oMv rfl) ?_;obtain ⟨p1, hp_1, hm⟩ := bS hm;refine go_two [(0, _)] 11 17 p1 (t := 6) ⟨rfl, trivial⟩ rfl (fun hg_1 hk1 => ?_) (fun hg_1 hk1 => ?_) ?_
 ·replace hp_1 := cond_t hg_1 hp_1
  refine gKp rfl rfl rfl hg_1 rfl rfl ?_;refine gKp rfl rfl rfl hg_1 rfl rfl ?_;refine gKp rfl rfl rfl hg_1 rfl rfl ?_;refine gKp rfl rfl rfl hg_1 rfl rfl ?_;refine gKp rfl rfl rfl hg_1 rfl rfl ?_;refine gKu rfl rfl rfl rfl rfl ?_;refine gKu rfl rfl rfl rfl rfl ?_;refine gKu rfl rfl rfl rfl rfl ?_;refine gKu rfl rfl rfl rfl rfl ?_;refine gKp rfl rfl rfl hg_1 rfl rfl ?_;refine go_p rfl rfl rfl (o_pickT rfl hg_1 rfl) ?_;exact gMt hk1 (congrArg (fun b => some (D.bool b)) (some_eq hp_1)) ⟨rfl, trivial⟩
 ·replace hp_1 := cond_f hg_1 hp_1
  refine gWp rfl rfl rfl hg_1 rfl rfl (oMv rfl) ?_;obtain ⟨c1, hx1, hp_1⟩ := bS hp_1;refine gWp rfl rfl rfl hg_1 rfl rfl (o_index_m Try.runUnderlying9 rfl rfl hx1) ?_;obtain ⟨x1, hx2, hp_1⟩ := bS hp_1;refine gWp rfl rfl rfl hg_1 rfl rfl (o_call0 Try.call34 rfl (w_name_small hx2)) ?_;refine gWp rfl rfl rfl hg_1 rfl rfl (o_not rfl) ?_;refine gWp rfl rfl rfl hg_1 rfl rfl (oMv rfl) ?_;obtain ⟨p2, hp_2, hp_1⟩ := bS hp_1;refine go_two [(0, _), (6, _)] 5 16 p2 (t := 11) ⟨rfl, rfl, trivial⟩ rfl (fun hg_2 hk2 => ?_) (fun hg_2 hk2 => ?_) ?_
  ·replace hp_2 := cond_t hg_2 hp_2
   refine gWp rfl rfl rfl hg_2 rfl rfl (oMv rfl) ?_;obtain ⟨c2, hx3, hp_2⟩ := bS hp_2;refine gWp rfl rfl rfl hg_2 rfl rfl (o_index_m Try.runUnderlying9 rfl rfl hx3) ?_;obtain ⟨x2, hx4, hp_2⟩ := bS hp_2;refine gWp rfl rfl rfl hg_2 rfl rfl (o_call0 Try.call36 rfl (w_name_great hx4)) ?_;refine gWp rfl rfl rfl hg_2 rfl rfl (o_not rfl) ?_;refine gWp rfl rfl rfl hg_1 rfl rfl (o_pickT rfl hg_2 rfl) ?_;exact gMt hk2 (congrArg (fun b => some (D.bool b)) (some_eq hp_2)) ⟨rfl, rfl, trivial⟩
  ·replace hp_2 := cond_f hg_2 hp_2
   refine gKp rfl rfl rfl hg_2 rfl rfl ?_;refine gKp rfl rfl rfl hg_2 rfl rfl ?_;refine gKp rfl rfl rfl hg_2 rfl rfl ?_;refine gKp rfl rfl rfl hg_2 rfl rfl ?_;refine gWp rfl rfl rfl hg_1 rfl rfl (o_pickF rfl hg_2 rfl) ?_;exact gMt hk2 (congrArg (fun b => some (D.bool b)) (some_eq hp_2)) ⟨rfl, rfl, trivial⟩
  refine go_p rfl rfl rfl (o_pickF rfl hg_1 rfl) ?_;exact gMt hk1 (congrArg (fun b => some (D.bool b)) (some_eq hp_1)) ⟨rfl, trivial⟩
 refine gNl ?_;refine gCd rfl (fun hc1 => ?_) (fun hc1 => ?_)
 ·replace hm := cond_t hc1 hm
  refine g_seq (gRg ?_);refine go_p rfl rfl rfl (oAs rfl) ?_;refine gNl (g_ret ?_);exact retK (ret_one' rfl (ret_tmp rfl) (perm_drop _)) (congrArg (fun (p : Int) => (.i64 p : D)) (some_eq hm))
 ·replace hm := cond_f hc1 hm
  refine gSp (g_seq (gRg ?_));refine go_p rfl rfl rfl (oAs rfl) ?_;refine gNl (g_seq ?_);obtain ⟨o_1, hj1, hm1⟩ := bS hm;refine g_cut_m [] [] (fun (st : Int) (hid : Unit) => match st, hid with | n1, _ => [(3, .i64 n1)]) (fun F (st : Int) (hid : Unit) => match st, hid with | n1, _ => []) (fun st => st = o_1) trivial trivial ?_ ?_
  ·skip
   refine g_block ?_;refine g_loop_m [(0, _)] [] (fun (st : Int) (hid : Unit) => match st, hid with | n2, _ => [(3, .i64 n2)]) (fun F (st : Int) (hid : Unit) => match st, hid with | n2, _ => []) () hj1 (fun _ => rfl) ⟨rfl, trivial⟩ trivial ⟨rfl, trivial⟩ rfl ?_;rintro n n2 _ hj1;rw [m_name_Word_l1] at hj1;refine g_norm (L' := [(3, .i64 n2), (0, _)]) (ms' := []) rfl rfl ?_;refine g_seq (g_seq (gRg ?_));refine go_p rfl rfl rfl (oMv rfl) ?_;refine go_p rfl rfl rfl (oMv rfl) ?_;refine go_p rfl rfl rfl (o_len_str Try.runUnderlying9 rfl) ?_;refine go_p rfl rfl rfl (o_cmp rfl rfl rfl) ?_;refine go_p rfl rfl rfl (oMv rfl) ?_;obtain ⟨p3, hp_3, hj1⟩ := bS hj1;refine go_two [(0, _), (3, _)] 5 27 p3 (t := 22) ⟨rfl, rfl, trivial⟩ rfl (fun hg_3 hk3 => ?_) (fun hg_3 hk3 => ?_) ?_
   ·replace hp_3 := cond_t hg_3 hp_3
    refine gWp rfl rfl rfl hg_3 rfl rfl (oMv rfl) ?_;refine gWp rfl rfl rfl hg_3 rfl rfl (oMv rfl) ?_;obtain ⟨c3, hx5, hp_3⟩ := bS hp_3;refine gWp rfl rfl rfl hg_3 rfl rfl (o_index_m Try.runUnderlying9 rfl rfl hx5) ?_;obtain ⟨x3, hx6, hp_3⟩ := bS hp_3;refine gWp rfl rfl rfl hg_3 rfl rfl (o_call0 Try.call49 rfl (w_name_more hx6)) ?_;refine go_p rfl rfl rfl (o_pickT rfl hg_3 rfl) ?_;exact gMt hk3 (congrArg (fun b => some (D.bool b)) (some_eq hp_3)) ⟨rfl, rfl, trivial⟩
   ·replace hp_3 := cond_f hg_3 hp_3
    refine gKp rfl rfl rfl hg_3 rfl rfl ?_;refine gKp rfl rfl rfl hg_3 rfl rfl ?_;refine gKp rfl rfl rfl hg_3 rfl rfl ?_;refine gKp rfl rfl rfl hg_3 rfl rfl ?_;refine go_p rfl rfl rfl (o_pickF rfl hg_3 rfl) ?_;exact gMt hk3 (congrArg (fun b => some (D.bool b)) (some_eq hp_3)) ⟨rfl, rfl, trivial⟩
   refine gNl ?_;refine gCd rfl (fun hc2 => ?_) (fun hc2 => ?_)
   ·replace hj1 := cond_t hc2 hj1
    refine gSp (g_block (gRg ?_));refine go_p rfl rfl rfl (oMv rfl) ?_;obtain ⟨hg7, hj1⟩ := grd_some hj1;refine go_p rfl rfl rfl (o_add rfl rfl (i64_id hg7)) ?_;refine go_p rfl rfl rfl (oAs rfl) ?_;refine gNl ?_;exact ⟨_, (), hj1, ⟨rfl, trivial⟩, ⟨rfl, trivial⟩, [], rfl⟩
   ·replace hj1 := cond_f hc2 hj1
    refine g_exit ?_;exact ⟨_, (), some_eq hj1, ⟨rfl, trivial⟩, trivial, [], rfl⟩
  ·rintro n1 _ hst
   subst hst;refine k_norm (L' := [(3, .i64 n1)]) (ms' := []) rfl rfl ?_;refine g_seq (gRg ?_);refine go_p rfl rfl rfl (oMv rfl) ?_;refine go_p rfl rfl rfl (oAs rfl) ?_;refine gNl (g_ret ?_);exact retK (ret_one' rfl (ret_tmp rfl) (perm_drop _)) (congrArg (fun (p : Int) => (.i64 p : D)) (some_eq hm1))
def m_name_whole (s1 : (List UInt8)) : Option Bool :=
 (bif ((!decide ((s1 : List UInt8) = ([] : List UInt8))) && (decide ((s1.length : Int) <= 20))) then ((m_name_Word s1).bind fun x1 =>
 some (decide (x1 = (s1.length : Int)))) else (some false)).bind fun p1 =>
 some p1
theorem w_name_whole {s1 : (List UInt8)} {r_1 : Bool} (hm : m_name_whole s1 = some r_1) : Fn0 Try.prog 33 [.str s1] (.bool r_1) := by
 unfold m_name_whole at hm;refine fn_intro Try.func33 rfl Try.ntmps33 rfl fun H0 fr w0 => ?_;refine g_seq (gRg ?_);refine go_p rfl rfl rfl (oAs rfl) ?_;refine gNl (g_seq (gRg ?_));refine go_p rfl rfl rfl (oMv rfl) ?_;refine go_p rfl rfl rfl (o_cmps rfl rfl rfl) ?_;refine go_p rfl rfl rfl (oMv rfl) ?_
 apply go_and [(0, _)] 4 9 (t := 5) ⟨rfl, trivial⟩ rfl
 ·intro hg_1 hk1
  refine gWp rfl rfl rfl hg_1 rfl rfl (oMv rfl) ?_;refine gWp rfl rfl rfl hg_1 rfl rfl (o_len_str Try.runUnderlying9 rfl) ?_;refine gWp rfl rfl rfl hg_1 rfl rfl (o_cmp rfl rfl rfl) ?_;refine go_p rfl rfl rfl (o_pickT rfl hg_1 rfl) ?_;exact gMt hk1 (rfl) ⟨rfl, trivial⟩
 ·intro hg_1 hk1
  refine gKp rfl rfl rfl hg_1 rfl rfl ?_;refine gKp rfl rfl rfl hg_1 rfl rfl ?_;refine gKp rfl rfl rfl hg_1 rfl rfl ?_;refine go_p rfl rfl rfl (o_pickF rfl hg_1 rfl) ?_;exact gMt hk1 (rfl) ⟨rfl, trivial⟩
 refine go_p rfl rfl rfl (oMv rfl) ?_;obtain ⟨p1, hp_2, hm⟩ := bS hm;refine go_two [] 6 16 p1 (t := 10) trivial rfl (fun hg_2 hk2 => ?_) (fun hg_2 hk2 => ?_) ?_
 ·replace hp_2 := cond_t hg_2 hp_2
  refine gWp rfl rfl rfl hg_2 rfl rfl (oMv rfl) ?_;obtain ⟨x1, hx1, hp_2⟩ := bS hp_2;refine gWp rfl rfl rfl hg_2 rfl rfl (o_call0 Try.call43 rfl (w_name_Word hx1)) ?_;refine gWp rfl rfl rfl hg_2 rfl rfl (oMv rfl) ?_;refine gWp rfl rfl rfl hg_2 rfl rfl (o_len_str Try.runUnderlying9 rfl) ?_;refine gWp rfl rfl rfl hg_2 rfl rfl (o_cmp rfl rfl rfl) ?_;refine go_p rfl rfl rfl (o_pickT rfl hg_2 rfl) ?_;exact gMt hk2 (congrArg (fun b => some (D.bool b)) (some_eq hp_2)) trivial
 ·replace hp_2 := cond_f hg_2 hp_2
  refine gKp rfl rfl rfl hg_2 rfl rfl ?_;refine gKp rfl rfl rfl hg_2 rfl rfl ?_;refine gKp rfl rfl rfl hg_2 rfl rfl ?_;refine gKp rfl rfl rfl hg_2 rfl rfl ?_;refine gKp rfl rfl rfl hg_2 rfl rfl ?_;refine go_p rfl rfl rfl (o_pickF rfl hg_2 rfl) ?_;exact gMt hk2 (congrArg (fun b => some (D.bool b)) (some_eq hp_2)) trivial
 refine go_p rfl rfl rfl (oAs rfl) ?_;refine gNl (g_ret ?_);exact retK (ret_one' rfl (ret_tmp rfl) (perm_drop _)) (congrArg (fun (p : Bool) => (.bool p : D)) (some_eq hm))
def m_ixS_l1 (s1 : (List (List UInt8))) (v1 : (List UInt8)) : Nat -> Int -> Option (Out Int Unit)
 | 0, _ => none
 | n + 1, x1 =>
  bif (decide (x1 < (s1.length : Int))) then
   (idx s1 x1).bind fun x2 =>
   bif (decide ((v1 : List UInt8) = x2)) then
    some (Out.ret x1)
   else
    grd (InR (x1 + 1)) <|
    m_ixS_l1 s1 v1 n (x1 + 1)
  else
   some (Out.go (()))
def m_ixS (s1 : (List (List UInt8))) (v1 : (List UInt8)) : Option Int :=
 ((m_ixS_l1 s1 v1 FU 0 : Option (Out Int Unit))).bind (fun oo => oo.on (fun r1 => some r1) (fun _ =>
 some (-1)))
theorem w_ixS {s1 : (List (List UInt8))} {v1 : (List UInt8)} {r_1 : Int} (hm : m_ixS s1 v1 = some r_1) : Fn0 Try.prog 50 [.list 1 D.str s1, .str v1] (.i64 r_1) := by
 unfold m_ixS at hm;refine fn_intro Try.func50 rfl Try.ntmps50 rfl fun H0 fr w0 => ?_;refine g_seq (gRg ?_);refine go_p rfl rfl rfl (oAs rfl) ?_;refine gNl (g_seq (g_seq (gRg ?_)));refine go_p rfl rfl rfl (oMv rfl) ?_;refine go_p rfl rfl rfl (o_len Try.runUnderlying86 rfl) ?_;refine go_p rfl rfl rfl (oMv rfl) ?_;refine gNl ?_;obtain ⟨o_1, hj1, hm1⟩ := bS hm;refine g_cut_m [] [] (fun (st : Unit) (hid : Unit) => match st, hid with | _, _ => []) (fun F (st : Unit) (hid : Unit) => match st, hid with | _, _ => []) (fun st => Out.go (st) = o_1) trivial trivial ?_ ?_
 ·skip
  refine g_block ?_;refine g_loop_m [(0, _), (1, _), (7, _)] [] (fun (st : Int) (hid : Unit) => match st, hid with | x1, _ => [(8, .i64 x1)]) (fun F (st : Int) (hid : Unit) => match st, hid with | x1, _ => []) () hj1 (fun _ => rfl) ⟨rfl, rfl, rfl, trivial⟩ trivial ⟨rfl, trivial⟩ rfl ?_;rintro n x1 _ hj1;rw [m_ixS_l1] at hj1;refine g_norm (L' := [(8, .i64 x1), (0, _), (1, _), (7, _)]) (ms' := []) rfl rfl ?_;refine g_seq (gRg ?_);refine go_p rfl rfl rfl (o_cmp rfl rfl rfl) ?_;refine gNl (g_seq ?_);refine gCd rfl (fun hc1 => ?_) (fun hc1 => ?_)
  ·replace hj1 := cond_t hc1 hj1
   refine gSp (g_seq (g_block (g_seq (gRg ?_))));refine go_p rfl rfl rfl (oMv rfl) ?_;refine go_p rfl rfl rfl (oAs rfl) ?_;refine gNl (g_seq (gRg ?_));refine go_p rfl rfl rfl (oMv rfl) ?_;refine go_p rfl rfl rfl (oMv rfl) ?_;refine go_p rfl rfl rfl (oMv rfl) ?_;obtain ⟨x2, hx1, hj1⟩ := bS hj1;refine go_p rfl rfl rfl (oIm Try.runUnderlying86 Try.sizeOf9 rfl rfl hx1) ?_;refine go_p rfl rfl rfl (o_load Try.isAgg9 rfl rfl) ?_;refine go_p rfl rfl rfl (o_cmps rfl rfl rfl) ?_;refine gNl ?_;refine gCd rfl (fun hc2 => ?_) (fun hc2 => ?_)
   ·replace hj1 := cond_t hc2 hj1
    refine g_seq (gRg ?_);refine go_p rfl rfl rfl (oMv rfl) ?_;refine go_p rfl rfl rfl (oAs rfl) ?_;refine gNl (g_ret ?_);obtain rfl := some_eq hj1
    replace hm1 := on_ret hm1
    exact retK (ret_one' rfl (ret_tmp rfl) (perm_drop _)) (congrArg (fun (p : Int) => (.i64 p : D)) (some_eq hm1))
   ·replace hj1 := cond_f hc2 hj1
    refine gSp (gRg ?_);obtain ⟨hg2, hj1⟩ := grd_some hj1;refine go_p rfl rfl rfl (o_add rfl rfl (i64_id hg2)) ?_;refine go_p rfl rfl rfl (oMv rfl) ?_;refine gNl ?_;exact ⟨_, (), hj1, ⟨rfl, trivial⟩, ⟨rfl, rfl, rfl, trivial⟩, [], rfl⟩
  ·replace hj1 := cond_f hc1 hj1
   refine g_exit ?_;exact ⟨_, (), some_eq hj1, trivial, trivial, [], rfl⟩
 ·rintro _ _ hst
  subst hst
  replace hm1 := on_go hm1
  refine k_norm (L' := []) (ms' := []) rfl rfl ?_;refine g_seq (gRg ?_);refine go_p rfl rfl rfl (oAs rfl) ?_;refine gNl (g_ret ?_);exact retK (ret_one' rfl (ret_tmp rfl) (perm_drop _)) (congrArg (fun (p : Int) => (.i64 p : D)) (some_eq hm1))
def m_cnS (s1 : (List (List UInt8))) (v1 : (List UInt8)) : Option Bool :=
 (m_ixS s1 v1).bind fun x1 =>
 some (decide (0 <= x1))
theorem w_cnS {s1 : (List (List UInt8))} {v1 : (List UInt8)} {r_1 : Bool} (hm : m_cnS s1 v1 = some r_1) : Fn0 Try.prog 44 [.list 1 D.str s1, .str v1] (.bool r_1) := by
 unfold m_cnS at hm;refine fn_intro Try.func44 rfl Try.ntmps44 rfl fun H0 fr w0 => ?_;refine g_seq (gRg ?_);refine go_p rfl rfl rfl (oAs rfl) ?_;refine gNl (g_seq (gRg ?_));refine go_p rfl rfl rfl (oMv rfl) ?_;refine go_p rfl rfl rfl (oMv rfl) ?_;obtain ⟨x1, hx1, hm⟩ := bS hm;refine go_p rfl rfl rfl (o_call0 Try.call50 rfl (w_ixS hx1)) ?_;refine go_p rfl rfl rfl (o_cmp rfl rfl rfl) ?_;refine go_p rfl rfl rfl (oAs rfl) ?_;refine gNl (g_ret ?_);exact retK (ret_one' rfl (ret_tmp rfl) (perm_drop _)) (congrArg (fun (p : Bool) => (.bool p : D)) (some_eq hm))
def m_name_Keywords  : Option (List (List UInt8)) :=
 some [([102, 117, 110] : List UInt8), ([108, 101, 116] : List UInt8), ([114, 101, 99] : List UInt8), ([105, 110] : List UInt8), ([105, 102] : List UInt8), ([116, 104, 101, 110] : List UInt8), ([101, 108, 115, 101] : List UInt8), ([99, 97, 115, 101] : List UInt8), ([111, 102] : List UInt8), ([101, 110, 100] : List UInt8), ([116, 114, 117, 101] : List UInt8), ([102, 97, 108, 115, 101] : List UInt8), ([99, 104, 101, 99, 107] : List UInt8), ([97, 115, 107] : List UInt8), ([116, 111, 112] : List UInt8), ([98, 111, 116] : List UInt8), ([105, 110, 116] : List UInt8), ([98, 111, 111, 108] : List UInt8), ([115, 116, 114, 105, 110, 103] : List UInt8), ([109, 117] : List UInt8)]
theorem w_name_Keywords  {r_1 : (List (List UInt8))} (hm : m_name_Keywords = some r_1) : Fn0 Try.prog 45 [] (.list 1 D.str r_1) := by
 unfold m_name_Keywords at hm;refine fn_intro Try.func45 rfl Try.ntmps45 rfl fun H0 fr w0 => ?_;refine g_seq (gRg ?_);refine go_p rfl rfl rfl (oAs rfl) ?_;refine go_conv (nilE (i := 0) (sz := 1) (f := D.str) rfl).refines ?_;refine gNl (g_seq (gRg ?_));refine go_p rfl rfl rfl (o_buildSlice (xs := [_, _, _, _, _, _, _, _, _, _, _, _, _, _, _, _, _, _, _, _]) (f := D.str) (l := [_, _, _, _, _, _, _, _, _, _, _, _, _, _, _, _, _, _, _, _]) Try.runUnderlying86 Try.sizeOf9 Try.zeroValue9 rfl rfl rfl (fun _ => ⟨rfl, rfl, rfl⟩) rfl) ?_;refine go_p rfl rfl rfl (oAs rfl) ?_;refine gNl (g_ret ?_);exact retK (ret_one' rfl (ret_tmp rfl) (perm_drop _)) (congrArg (fun (p : (List (List UInt8))) => (.list 1 D.str p : D)) (some_eq hm))
def m_name_Keyword (s1 : (List UInt8)) : Option Bool :=
 (m_name_Keywords).bind fun x1 =>
 (m_cnS x1 s1).bind fun x2 =>
 some x2
theorem w_name_Keyword {s1 : (List UInt8)} {r_1 : Bool} (hm : m_name_Keyword s1 = some r_1) : Fn0 Try.prog 35 [.str s1] (.bool r_1) := by
 unfold m_name_Keyword at hm;refine fn_intro Try.func35 rfl Try.ntmps35 rfl fun H0 fr w0 => ?_;refine g_seq (gRg ?_);refine go_p rfl rfl rfl (oAs rfl) ?_;refine gNl (g_seq (gRg ?_));obtain ⟨x1, hx1, hm⟩ := bS hm;refine go_p rfl rfl rfl (o_call0 Try.call45 rfl (w_name_Keywords hx1)) ?_;refine go_p rfl rfl rfl (oMv rfl) ?_;obtain ⟨x2, hx2, hm⟩ := bS hm;refine go_p rfl rfl rfl (o_call0 Try.call44 rfl (w_cnS hx2)) ?_;refine go_p rfl rfl rfl (oAs rfl) ?_;refine gNl (g_ret ?_);exact retK (ret_one' rfl (ret_tmp rfl) (perm_drop _)) (congrArg (fun (p : Bool) => (.bool p : D)) (some_eq hm))
def m_name_Name (s1 : (List UInt8)) : Option Bool :=
 (m_name_whole s1).bind fun x1 =>
 (bif x1 then ((idx s1 0).bind fun c1 =>
 (m_name_small c1).bind fun x2 =>
 some x2) else (some false)).bind fun p1 =>
 (bif p1 then ((m_name_Keyword s1).bind fun x3 =>
 some (!x3)) else (some false)).bind fun p2 =>
 some p2
theorem w_name_Name {s1 : (List UInt8)} {r_1 : Bool} (hm : m_name_Name s1 = some r_1) : Fn0 Try.prog 25 [.str s1] (.bool r_1) := by
 unfold m_name_Name at hm;refine fn_intro Try.func25 rfl Try.ntmps25 rfl fun H0 fr w0 => ?_;refine g_seq (gRg ?_);refine go_p rfl rfl rfl (oAs rfl) ?_;refine gNl (g_seq (gRg ?_));refine go_p rfl rfl rfl (oMv rfl) ?_;obtain ⟨x1, hx1, hm⟩ := bS hm;refine go_p rfl rfl rfl (o_call0 Try.call33 rfl (w_name_whole hx1)) ?_;refine go_p rfl rfl rfl (oMv rfl) ?_;obtain ⟨p1, hp_1, hm⟩ := bS hm;refine go_two [(0, _)] 4 9 p1 (t := 5) ⟨rfl, trivial⟩ rfl (fun hg_1 hk1 => ?_) (fun hg_1 hk1 => ?_) ?_
 ·replace hp_1 := cond_t hg_1 hp_1
  refine gWp rfl rfl rfl hg_1 rfl rfl (oMv rfl) ?_;obtain ⟨c1, hx2, hp_1⟩ := bS hp_1;refine gWp rfl rfl rfl hg_1 rfl rfl (o_index_m Try.runUnderlying9 rfl rfl hx2) ?_;obtain ⟨x2, hx3, hp_1⟩ := bS hp_1;refine gWp rfl rfl rfl hg_1 rfl rfl (o_call0 Try.call34 rfl (w_name_small hx3)) ?_;refine go_p rfl rfl rfl (o_pickT rfl hg_1 rfl) ?_;exact gMt hk1 (congrArg (fun b => some (D.bool b)) (some_eq hp_1)) ⟨rfl, trivial⟩
 ·replace hp_1 := cond_f hg_1 hp_1
  refine gKp rfl rfl rfl hg_1 rfl rfl ?_;refine gKp rfl rfl rfl hg_1 rfl rfl ?_;refine gKp rfl rfl rfl hg_1 rfl rfl ?_;refine go_p rfl rfl rfl (o_pickF rfl hg_1 rfl) ?_;exact gMt hk1 (congrArg (fun b => some (D.bool b)) (some_eq hp_1)) ⟨rfl, trivial⟩
 refine go_p rfl rfl rfl (oMv rfl) ?_;obtain ⟨p2, hp_2, hm⟩ := bS hm;refine go_two [] 4 14 p2 (t := 10) trivial rfl (fun hg_2 hk2 => ?_) (fun hg_2 hk2 => ?_) ?_
 ·replace hp_2 := cond_t hg_2 hp_2
  refine gWp rfl rfl rfl hg_2 rfl rfl (oMv rfl) ?_;obtain ⟨x3, hx4, hp_2⟩ := bS hp_2;refine gWp rfl rfl rfl hg_2 rfl rfl (o_call0 Try.call35 rfl (w_name_Keyword hx4)) ?_;refine gWp rfl rfl rfl hg_2 rfl rfl (o_not rfl) ?_;refine go_p rfl rfl rfl (o_pickT rfl hg_2 rfl) ?_;exact gMt hk2 (congrArg (fun b => some (D.bool b)) (some_eq hp_2)) trivial
 ·replace hp_2 := cond_f hg_2 hp_2
  refine gKp rfl rfl rfl hg_2 rfl rfl ?_;refine gKp rfl rfl rfl hg_2 rfl rfl ?_;refine gKp rfl rfl rfl hg_2 rfl rfl ?_;refine go_p rfl rfl rfl (o_pickF rfl hg_2 rfl) ?_;exact gMt hk2 (congrArg (fun b => some (D.bool b)) (some_eq hp_2)) trivial
 refine go_p rfl rfl rfl (oAs rfl) ?_;refine gNl (g_ret ?_);exact retK (ret_one' rfl (ret_tmp rfl) (perm_drop _)) (congrArg (fun (p : Bool) => (.bool p : D)) (some_eq hm))
def m_name_Tag (s1 : (List UInt8)) : Option Bool :=
 (m_name_whole s1).bind fun x1 =>
 (bif x1 then ((idx s1 0).bind fun c1 =>
 (m_name_great c1).bind fun x2 =>
 some x2) else (some false)).bind fun p1 =>
 some p1
theorem w_name_Tag {s1 : (List UInt8)} {r_1 : Bool} (hm : m_name_Tag s1 = some r_1) : Fn0 Try.prog 26 [.str s1] (.bool r_1) := by
 unfold m_name_Tag at hm;refine fn_intro Try.func26 rfl Try.ntmps26 rfl fun H0 fr w0 => ?_;refine g_seq (gRg ?_);refine go_p rfl rfl rfl (oAs rfl) ?_;refine gNl (g_seq (gRg ?_));refine go_p rfl rfl rfl (oMv rfl) ?_;obtain ⟨x1, hx1, hm⟩ := bS hm;refine go_p rfl rfl rfl (o_call0 Try.call33 rfl (w_name_whole hx1)) ?_;refine go_p rfl rfl rfl (oMv rfl) ?_;obtain ⟨p1, hp_1, hm⟩ := bS hm;refine go_two [] 4 9 p1 (t := 5) trivial rfl (fun hg_1 hk1 => ?_) (fun hg_1 hk1 => ?_) ?_
 ·replace hp_1 := cond_t hg_1 hp_1
  refine gWp rfl rfl rfl hg_1 rfl rfl (oMv rfl) ?_;obtain ⟨c1, hx2, hp_1⟩ := bS hp_1;refine gWp rfl rfl rfl hg_1 rfl rfl (o_index_m Try.runUnderlying9 rfl rfl hx2) ?_;obtain ⟨x2, hx3, hp_1⟩ := bS hp_1;refine gWp rfl rfl rfl hg_1 rfl rfl (o_call0 Try.call36 rfl (w_name_great hx3)) ?_;refine go_p rfl rfl rfl (o_pickT rfl hg_1 rfl) ?_;exact gMt hk1 (congrArg (fun b => some (D.bool b)) (some_eq hp_1)) trivial
 ·replace hp_1 := cond_f hg_1 hp_1
  refine gKp rfl rfl rfl hg_1 rfl rfl ?_;refine gKp rfl rfl rfl hg_1 rfl rfl ?_;refine gKp rfl rfl rfl hg_1 rfl rfl ?_;refine go_p rfl rfl rfl (o_pickF rfl hg_1 rfl) ?_;exact gMt hk1 (congrArg (fun b => some (D.bool b)) (some_eq hp_1)) trivial
 refine go_p rfl rfl rfl (oAs rfl) ?_;refine gNl (g_ret ?_);exact retK (ret_one' rfl (ret_tmp rfl) (perm_drop _)) (congrArg (fun (p : Bool) => (.bool p : D)) (some_eq hm))
theorem fi_31_0 : FieldIs Try.prog 31 0 0 1 false := ⟨⟨_, _, Try.runUnderlying31, rfl, rfl, Try.sizeOf9, by decide, Try.isAgg9⟩⟩
def m_store_named_l1 (kind1 : Int) (l1 : (List AFd)) : Nat -> Int -> Option (Out Bool Unit)
 | 0, _ => none
 | n + 1, x1 =>
  bif (decide (x1 < (l1.length : Int))) then
   (idx l1 x1).bind fun x2 =>
   (bif (decide (kind1 = 7)) then ((m_name_Name x2.name).bind fun x3 =>
   some (!x3)) else (some false)).bind fun p1 =>
   (bif p1 then
    some p1
   else
    (bif (decide (kind1 = 8)) then ((m_name_Tag x2.name).bind fun x5 =>
    some (!x5)) else (some false)).bind fun p2 =>
    some p2 : Option Bool).bind fun x4 =>
   bif x4 then
    some (Out.ret false)
   else
    bif (decide (0 < x1)) then (grd (InR (x1 - 1)) <|
    (idx l1 (x1 - 1)).bind fun x6 =>
    bif (!Op.bytesLess x6.name x2.name) then
     some (Out.ret false)
    else
     grd (InR (x1 + 1)) <|
     m_store_named_l1 kind1 l1 n (x1 + 1)) else (grd (InR (x1 + 1)) <|
    m_store_named_l1 kind1 l1 n (x1 + 1))
  else
   some (Out.go (()))
def m_store_named (kind1 : Int) (l1 : (List AFd)) : Option Bool :=
 ((m_store_named_l1 kind1 l1 FU 0 : Option (Out Bool Unit))).bind (fun oo => oo.on (fun r1 => some r1) (fun _ =>
 some (decide ((l1.length : Int) <= 30))))
theorem w_store_named {kind1 : Int} {l1 : (List AFd)} {r_1 : Bool} (hm : m_store_named kind1 l1 = some r_1) : Fn0 Try.prog 17 [.i64 kind1, .list 2 AFd.d l1] (.bool r_1) := by
 unfold m_store_named at hm;refine fn_intro Try.func17 rfl Try.ntmps17 rfl fun H0 fr w0 => ?_;refine g_seq (gRg ?_);refine go_p rfl rfl rfl (oAs rfl) ?_;refine gNl (g_seq (g_seq (gRg ?_)));refine go_p rfl rfl rfl (oMv rfl) ?_;refine go_p rfl rfl rfl (o_len Try.runUnderlying22 rfl) ?_;refine go_p rfl rfl rfl (oMv rfl) ?_;refine gNl ?_;obtain ⟨o_1, hj1, hm1⟩ := bS hm;refine g_cut_m [(1, _)] [] (fun (st : Unit) (hid : Unit) => match st, hid with | _, _ => []) (fun F (st : Unit) (hid : Unit) => match st, hid with | _, _ => []) (fun st => Out.go (st) = o_1) ⟨rfl, trivial⟩ trivial ?_ ?_
 ·skip
  refine g_block ?_;refine g_loop_m [(0, _), (1, _), (7, _), (8, _)] [] (fun (st : Int) (hid : Unit) => match st, hid with | x1, _ => [(9, .i64 x1)]) (fun F (st : Int) (hid : Unit) => match st, hid with | x1, _ => []) () hj1 (fun _ => rfl) ⟨rfl, rfl, rfl, rfl, trivial⟩ trivial ⟨rfl, trivial⟩ rfl ?_;rintro n x1 _ hj1;rw [m_store_named_l1] at hj1;refine g_norm (L' := [(9, .i64 x1), (0, _), (1, _), (7, _), (8, _)]) (ms' := []) rfl rfl ?_;refine g_seq (gRg ?_);refine go_p rfl rfl rfl (o_cmp rfl rfl rfl) ?_;refine gNl (g_seq ?_);refine gCd rfl (fun hc1 => ?_) (fun hc1 => ?_)
  ·replace hj1 := cond_t hc1 hj1
   refine gSp (g_seq (g_block (g_seq (gRg ?_))));refine go_p rfl rfl rfl (oMv rfl) ?_;obtain ⟨x2, hx1, hj1⟩ := bS hj1;refine go_p rfl rfl rfl (oIm Try.runUnderlying22 Try.sizeOf31 rfl rfl hx1) ?_;refine go_p rfl rfl rfl (o_load_agg Try.isAgg31 Try.sizeOf31 rfl rfl) ?_;refine go_op rfl rfl rfl (o_alloc_own Try.zeroValue31 (cs := [.str ([] : List UInt8), .i64 0]) rfl) ?_;rintro _ _ ⟨b1, rfl, rfl⟩;refine go_p rfl rfl rfl (oAs rfl) ?_;refine go_u rfl rfl (oSb 0 Try.sizeOf31 rfl rfl rfl rfl rfl rfl rfl rfl (nB rfl)) ?_;rintro _ _ rfl;refine go_ms (ms' := [box b1 31 [_, _]]) rfl ?_;refine gNl (g_block (g_seq (g_seq (gRg ?_))));refine go_p rfl rfl rfl (oMv rfl) ?_;refine go_p rfl rfl rfl (o_cmp rfl rfl rfl) ?_;refine go_p rfl rfl rfl (oMv rfl) ?_;obtain ⟨p1, hp_1, hj1⟩ := bS hj1;refine go_two [(0, _), (1, _), (5, _), (6, _), (7, _), (8, _), (9, _)] 5 22 p1 (t := 17) ⟨rfl, rfl, rfl, rfl, rfl, rfl, rfl, trivial⟩ rfl (fun hg_1 hk1 => ?_) (fun hg_1 hk1 => ?_) ?_
   ·replace hp_1 := cond_t hg_1 hp_1
    refine gWp rfl rfl rfl hg_1 rfl rfl (oFb fi_31_0 rfl) ?_;refine gWp rfl rfl rfl hg_1 rfl rfl (oLb 0 Try.isAgg9 rfl rfl rfl rfl) ?_;obtain ⟨x3, hx2, hp_1⟩ := bS hp_1;refine gWp rfl rfl rfl hg_1 rfl rfl (o_call0 Try.call25 rfl (w_name_Name hx2)) ?_;refine gWp rfl rfl rfl hg_1 rfl rfl (o_not rfl) ?_;refine go_p rfl rfl rfl (o_pickT rfl hg_1 rfl) ?_;exact gMt hk1 (congrArg (fun b => some (D.bool b)) (some_eq hp_1)) ⟨rfl, rfl, rfl, rfl, rfl, rfl, rfl, trivial⟩
   ·replace hp_1 := cond_f hg_1 hp_1
    refine gKp rfl rfl rfl hg_1 rfl rfl ?_;refine gKp rfl rfl rfl hg_1 rfl rfl ?_;refine gKp rfl rfl rfl hg_1 rfl rfl ?_;refine gKp rfl rfl rfl hg_1 rfl rfl ?_;refine go_p rfl rfl rfl (o_pickF rfl hg_1 rfl) ?_;exact gMt hk1 (congrArg (fun b => some (D.bool b)) (some_eq hp_1)) ⟨rfl, rfl, rfl, rfl, rfl, rfl, rfl, trivial⟩
   refine go_p rfl rfl rfl (oAs rfl) ?_;refine gNl ?_;obtain ⟨o_2, hj2, hm2⟩ := bS hj1;refine g_cut_m [(0, _), (1, _), (5, _), (6, _), (7, _), (8, _), (9, _)] [(0, _)] (fun (st : Bool) (hid : Unit) => match st, hid with | x4, _ => [(14, .bool x4)]) (fun F (st : Bool) (hid : Unit) => match st, hid with | x4, _ => [(nthF F 0)]) (fun st => st = o_2) ⟨rfl, rfl, rfl, rfl, rfl, rfl, rfl, trivial⟩ ⟨rfl, trivial⟩ ?_ ?_
   ·skip
    refine gCd rfl (fun hc2 => ?_) (fun hc2 => ?_)
    ·replace hj2 := cond_t hc2 hj2
     refine gSp ?_;exact ⟨_, (), some_eq hj2, ⟨rfl, trivial⟩, ⟨rfl, rfl, rfl, rfl, rfl, rfl, rfl, trivial⟩, [], rfl⟩
    ·replace hj2 := cond_f hc2 hj2
     refine gRg ?_;refine go_p rfl rfl rfl (oMv rfl) ?_;refine go_p rfl rfl rfl (o_cmp rfl rfl rfl) ?_;refine go_p rfl rfl rfl (oMv rfl) ?_;obtain ⟨p2, hp_2, hj2⟩ := bS hj2;refine go_two [(0, _), (1, _), (5, _), (6, _), (7, _), (8, _), (9, _)] 5 30 p2 (t := 25) ⟨rfl, rfl, rfl, rfl, rfl, rfl, rfl, trivial⟩ rfl (fun hg_2 hk2 => ?_) (fun hg_2 hk2 => ?_) ?_
     ·replace hp_2 := cond_t hg_2 hp_2
      refine gWp rfl rfl rfl hg_2 rfl rfl (oFb fi_31_0 rfl) ?_;refine gWp rfl rfl rfl hg_2 rfl rfl (oLb 0 Try.isAgg9 rfl rfl rfl rfl) ?_;obtain ⟨x5, hx3, hp_2⟩ := bS hp_2;refine gWp rfl rfl rfl hg_2 rfl rfl (o_call0 Try.call26 rfl (w_name_Tag hx3)) ?_;refine gWp rfl rfl rfl hg_2 rfl rfl (o_not rfl) ?_;refine go_p rfl rfl rfl (o_pickT rfl hg_2 rfl) ?_;exact gMt hk2 (congrArg (fun b => some (D.bool b)) (some_eq hp_2)) ⟨rfl, rfl, rfl, rfl, rfl, rfl, rfl, trivial⟩
     ·replace hp_2 := cond_f hg_2 hp_2
      refine gKp rfl rfl rfl hg_2 rfl rfl ?_;refine gKp rfl rfl rfl hg_2 rfl rfl ?_;refine gKp rfl rfl rfl hg_2 rfl rfl ?_;refine gKp rfl rfl rfl hg_2 rfl rfl ?_;refine go_p rfl rfl rfl (o_pickF rfl hg_2 rfl) ?_;exact gMt hk2 (congrArg (fun b => some (D.bool b)) (some_eq hp_2)) ⟨rfl, rfl, rfl, rfl, rfl, rfl, rfl, trivial⟩
     refine go_p rfl rfl rfl (oAs rfl) ?_;refine gNl ?_;exact ⟨_, (), some_eq hj2, ⟨rfl, trivial⟩, ⟨rfl, rfl, rfl, rfl, rfl, rfl, rfl, trivial⟩, [], rfl⟩
   ·rintro x4 _ hst
    subst hst;refine k_norm (L' := [(14, .bool x4), (0, _), (1, _), (5, _), (6, _), (7, _), (8, _), (9, _)]) (ms' := [_]) rfl rfl ?_;refine gCd rfl (fun hc3 => ?_) (fun hc3 => ?_)
    ·replace hm2 := cond_t hc3 hm2
     refine g_seq (gRg ?_);refine go_p rfl rfl rfl (oAs rfl) ?_;refine gNl (g_ret ?_);obtain rfl := some_eq hm2
     replace hm1 := on_ret hm1
     exact retK (ret_one' rfl (ret_tmp rfl) (perm_drop _)) (congrArg (fun (p : Bool) => (.bool p : D)) (some_eq hm1))
    ·replace hm2 := cond_f hc3 hm2
     refine g_seq ?_
     rcases cond_split hm2 with ⟨hg_3, hm2⟩ | ⟨hg_3, hm2⟩
     ·
      skip
      obtain ⟨hg4, hm2⟩ := grd_some hm2;obtain ⟨x6, hx5, hm2⟩ := bS hm2;refine g_draw 14 Try_mixed (by decide +kernel) ?_;refine gd_p rfl rfl rfl (oMv rfl) ?_;refine gd_p rfl rfl rfl (o_cmp rfl rfl rfl) ?_;refine gd_p rfl rfl rfl (oMv rfl) ?_;refine gd_want rfl rfl rfl hg_3 rfl rfl (oMv rfl) ?_;refine gd_want rfl rfl rfl hg_3 rfl rfl (oMv rfl) ?_;refine gd_want rfl rfl rfl hg_3 rfl rfl (o_sub rfl rfl (i64_id hg4)) ?_;refine gd_want rfl rfl rfl hg_3 rfl rfl (oIm Try.runUnderlying22 Try.sizeOf31 rfl rfl hx5) ?_;refine gd_want rfl rfl rfl hg_3 rfl rfl (oFa fi_31_0 rfl rfl rfl) ?_;refine gd_want rfl rfl rfl hg_3 rfl rfl (o_load Try.isAgg9 rfl rfl) ?_;refine gd_want rfl rfl rfl hg_3 rfl rfl (oFb fi_31_0 rfl) ?_;refine gd_want rfl rfl rfl hg_3 rfl rfl (oLb 0 Try.isAgg9 rfl rfl rfl rfl) ?_;refine gd_want rfl rfl rfl hg_3 rfl rfl (o_cmps rfl rfl rfl) ?_;refine gd_p rfl rfl rfl (o_pickT rfl hg_3 rfl) ?_;refine gd_p rfl rfl rfl (oAs rfl) ?_;refine gd_nil ?_;refine gNl ?_;refine gCd rfl (fun hc4 => ?_) (fun hc4 => ?_)
      ·replace hm2 := cond_t hc4 hm2
       refine g_seq (gRg ?_);refine go_p rfl rfl rfl (oAs rfl) ?_;refine gNl (g_ret ?_);obtain rfl := some_eq hm2
       replace hm1 := on_ret hm1
       exact retK (ret_one' rfl (ret_tmp rfl) (perm_drop _)) (congrArg (fun (p : Bool) => (.bool p : D)) (some_eq hm1))
      ·replace hm2 := cond_f hc4 hm2
       refine gSp (gRg ?_);obtain ⟨hg6, hm2⟩ := grd_some hm2;refine go_p rfl rfl rfl (o_add rfl rfl (i64_id hg6)) ?_;refine go_p rfl rfl rfl (oMv rfl) ?_;refine gNl ?_;exact ⟨_, (), hm2, ⟨rfl, trivial⟩, ⟨rfl, rfl, rfl, rfl, trivial⟩, [_], rfl⟩
     ·
      skip
      refine g_draw 14 Try_mixed (by decide +kernel) ?_;refine gd_p rfl rfl rfl (oMv rfl) ?_;refine gd_p rfl rfl rfl (o_cmp rfl rfl rfl) ?_;refine gd_p rfl rfl rfl (oMv rfl) ?_;refine gd_skip rfl rfl rfl hg_3 rfl rfl ?_;refine gd_skip rfl rfl rfl hg_3 rfl rfl ?_;refine gd_skip rfl rfl rfl hg_3 rfl rfl ?_;refine gd_skip rfl rfl rfl hg_3 rfl rfl ?_;refine gd_skip rfl rfl rfl hg_3 rfl rfl ?_;refine gd_skip rfl rfl rfl hg_3 rfl rfl ?_;refine gd_skip rfl rfl rfl hg_3 rfl rfl ?_;refine gd_skip rfl rfl rfl hg_3 rfl rfl ?_;refine gd_skip rfl rfl rfl hg_3 rfl rfl ?_;refine gd_p rfl rfl rfl (o_pickF rfl hg_3 rfl) ?_;refine gd_p rfl rfl rfl (oAs rfl) ?_;refine gd_nil ?_;refine gNl ?_;refine g_cond_false rfl rfl ?_;refine gSp (gRg ?_);obtain ⟨hg7, hm2⟩ := grd_some hm2;refine go_p rfl rfl rfl (o_add rfl rfl (i64_id hg7)) ?_;refine go_p rfl rfl rfl (oMv rfl) ?_;refine gNl ?_;exact ⟨_, (), hm2, ⟨rfl, trivial⟩, ⟨rfl, rfl, rfl, rfl, trivial⟩, [_], rfl⟩
  ·replace hj1 := cond_f hc1 hj1
   refine g_exit ?_;exact ⟨_, (), some_eq hj1, trivial, ⟨rfl, trivial⟩, [], rfl⟩
 ·rintro _ _ hst
  subst hst
  replace hm1 := on_go hm1
  refine k_norm (L' := [(1, _)]) (ms' := []) rfl rfl ?_;refine g_seq (gRg ?_);refine go_p rfl rfl rfl (oMv rfl) ?_;refine go_p rfl rfl rfl (o_len Try.runUnderlying22 rfl) ?_;refine go_p rfl rfl rfl (o_cmp rfl rfl rfl) ?_;refine go_p rfl rfl rfl (oAs rfl) ?_;refine gNl (g_ret ?_);exact retK (ret_one' rfl (ret_tmp rfl) (perm_drop _)) (congrArg (fun (p : Bool) => (.bool p : D)) (some_eq hm1))
theorem fi_70_1 : FieldIs Try.prog 70 1 1 1 false := ⟨⟨_, _, Try.runUnderlying70, rfl, rfl, Try.sizeOf68, by decide, Try.isAgg68⟩⟩
theorem fi_70_0 : FieldIs Try.prog 70 0 0 1 false := ⟨⟨_, _, Try.runUnderlying70, rfl, rfl, Try.sizeOf67, by decide, Try.isAgg67⟩⟩
def m_queue_Queue_store_pair_fill_l1  : Nat -> ((Nat × List StorePair) × (List StorePair)) -> Option QueuePairs
 | 0, _ => none
 | n + 1, (ch1, l1) =>
  bif (decide (0 < (l1.length : Int))) then
   (idx l1 0).bind fun x1 =>
   bif (decide (ch1.1 <= ch1.2.length)) then
    some (⟨ch1, l1⟩ : QueuePairs)
   else
    (sli l1 1 (l1.length : Int)).bind fun l2 =>
    m_queue_Queue_store_pair_fill_l1 n ((ch1.1, (ch1.2 ++ [x1])), l2)
  else
   some (⟨ch1, l1⟩ : QueuePairs)
def m_queue_Queue_store_pair_fill (q1 : QueuePairs)  : Option QueuePairs :=
 m_queue_Queue_store_pair_fill_l1 FU (q1.first, q1.more)
theorem w_queue_Queue_store_pair_fill {q1 : QueuePairs}  {s_1 : QueuePairs} {b_q0 : Nat} {c_q0c0 : Nat} {a_q0c1 : Option Addr} {cap_q0c1 : Nat} (hm : m_queue_Queue_store_pair_fill q1 = some s_1) : Go.V.Fn Try.prog 37 [.v (.pointer (some ⟨b_q0, 0, none⟩))] [box b_q0 70 [.v (.chan (some c_q0c0)), .v (.slice a_q0c1 q1.more.length cap_q0c1)], chn c_q0c0 q1.first.1 StorePair.d q1.first.2, que a_q0c1 cap_q0c1 47 2 StorePair.d q1.more] (fun d ms' => ∃ c_s_1c0 a_s_1c1 cap_s_1c1, d = .tup [] /\ ms' = [box b_q0 70 [.v (.chan (some c_s_1c0)), .v (.slice a_s_1c1 s_1.more.length cap_s_1c1)], chn c_s_1c0 s_1.first.1 StorePair.d s_1.first.2, que a_s_1c1 cap_s_1c1 47 2 StorePair.d s_1.more]) := by
 unfold m_queue_Queue_store_pair_fill at hm;refine fn_intro Try.func37 rfl Try.ntmps37 rfl fun H0 fr w0 => ?_;refine g_block ?_;refine g_loop_m [(0, _)] [] (fun (st : ((Nat × List StorePair) × (List StorePair))) (hid : Nat × (Option Addr × Nat)) => match st, hid with | (ch1, l1), (c_q0c0, (a_q0c1, cap_q0c1)) => []) (fun F (st : ((Nat × List StorePair) × (List StorePair))) (hid : Nat × (Option Addr × Nat)) => match st, hid with | (ch1, l1), (c_q0c0, (a_q0c1, cap_q0c1)) => [box b_q0 70 [.v (.chan (some c_q0c0)), .v (.slice a_q0c1 l1.length cap_q0c1)], chn c_q0c0 ch1.1 StorePair.d ch1.2, que a_q0c1 cap_q0c1 47 2 StorePair.d l1]) (_, (_, _)) hm (fun _ => rfl) ⟨rfl, trivial⟩ trivial trivial rfl ?_;rintro n ⟨ch1, l1⟩ ⟨c_q0c0, ⟨a_q0c1, cap_q0c1⟩⟩ hm;rw [m_queue_Queue_store_pair_fill_l1] at hm;refine g_norm (L' := [(0, _)]) (ms' := [box b_q0 70 [.v (.chan (some c_q0c0)), .v (.slice a_q0c1 l1.length cap_q0c1)], chn c_q0c0 ch1.1 StorePair.d ch1.2, que a_q0c1 cap_q0c1 47 2 StorePair.d l1]) rfl rfl ?_;refine g_seq (g_seq (gRg ?_));refine go_p rfl rfl rfl (oMv rfl) ?_;refine go_p rfl rfl rfl (o_nilCheck_box rfl) ?_;refine go_p rfl rfl rfl (oFb fi_70_1 rfl) ?_;refine go_p rfl rfl rfl (oLb 0 Try.isAgg68 rfl rfl rfl rfl) ?_;refine go_p rfl rfl rfl (.view (peekQ (i := 5) 2 rfl rfl rfl) (o_len Try.runUnderlying68 rfl)) ?_;refine go_p rfl rfl rfl (o_cmp rfl rfl rfl) ?_;refine gNl ?_;refine gCd rfl (fun hc1 => ?_) (fun hc1 => ?_)
 ·replace hm := cond_t hc1 hm
  refine gSp (g_block (g_seq (g_seq (gRg ?_))));refine go_p rfl rfl rfl (oMv rfl) ?_;refine go_p rfl rfl rfl (o_nilCheck_box rfl) ?_;refine go_p rfl rfl rfl (oFb fi_70_0 rfl) ?_;refine go_p rfl rfl rfl (oLb 0 Try.isAgg67 rfl rfl rfl rfl) ?_;refine gNl (gRg ?_);refine go_p rfl rfl rfl (oMv rfl) ?_;refine go_p rfl rfl rfl (o_nilCheck_box rfl) ?_;refine go_p rfl rfl rfl (oFb fi_70_1 rfl) ?_;refine go_p rfl rfl rfl (oLb 0 Try.isAgg68 rfl rfl rfl rfl) ?_;obtain ⟨x1, hx1, hm⟩ := bS hm;refine go_p rfl rfl rfl (.view (peekQ (i := 15) 2 rfl rfl rfl) (oIm Try.runUnderlying68 Try.sizeOf47 rfl rfl hx1)) ?_;refine go_p rfl rfl rfl (o_load_agg Try.isAgg47 Try.sizeOf47 rfl rfl) ?_;refine gNl (g_seq ?_)
  rcases cond_split hm with ⟨hc2, hm⟩ | ⟨hc2, hm⟩
  ·skip
   refine g_selp rfl rfl (s_send_full (q := x1) 1 Try.zeroValue47 rfl rfl rfl hc2) (fun _ _ => rfl) ?_;refine go_ms (ms' := [box b_q0 70 [_, _], _, _]) rfl ?_;refine go_p rfl rfl rfl (o_extract rfl rfl) ?_;refine go_p rfl rfl rfl (o_cmp rfl rfl rfl) ?_;refine gNl (g_block ?_);refine g_cond_false rfl rfl ?_;refine g_ret ?_;obtain rfl := some_eq hm;exact retK (ret_none rfl (permA 0 rfl (permA 0 rfl (permA 0 rfl permN)))) ⟨_, _, _, rfl, rfl⟩
  ·skip
   refine g_selp rfl rfl (s_send_room (q := x1) 1 Try.zeroValue47 rfl rfl rfl hc2) (fun _ _ => rfl) ?_;refine go_ms (ms' := [box b_q0 70 [_, _], _, _]) rfl ?_;refine go_p rfl rfl rfl (o_extract rfl rfl) ?_;refine go_p rfl rfl rfl (o_cmp rfl rfl rfl) ?_;refine gNl (g_block ?_);refine g_cond_true rfl rfl ?_;refine gRg ?_;refine go_p rfl rfl rfl (oMv rfl) ?_;refine go_p rfl rfl rfl (oMv rfl) ?_;refine go_p rfl rfl rfl (o_nilCheck_box rfl) ?_;refine go_p rfl rfl rfl (oFb fi_70_1 rfl) ?_;refine go_p rfl rfl rfl (oLb 0 Try.isAgg68 rfl rfl rfl rfl) ?_;obtain ⟨l2, hx2, hm⟩ := bS hm;refine go_op rfl rfl rfl (o_slice_que 2 Try.runUnderlying68 Try.sizeOf47 rfl rfl rfl rfl hx2) ?_;rintro _ _ ⟨a_q0c1, cap_q0c1, rfl, rfl⟩;refine go_p rfl rfl rfl (o_nilCheck_box rfl) ?_;refine go_p rfl rfl rfl (oFb fi_70_1 rfl) ?_;refine go_u rfl rfl (oSb 0 Try.sizeOf68 rfl rfl rfl rfl rfl rfl rfl rfl (nB rfl)) ?_;rintro _ _ rfl;refine go_ms (ms' := [box b_q0 70 [_, _], _, _]) rfl ?_;refine gNl ?_;exact ⟨_, (_, (_, _)), hm, trivial, ⟨rfl, trivial⟩, [], rfl⟩
 ·replace hm := cond_f hc1 hm
  refine g_exit ?_;obtain rfl := some_eq hm;exact retKn (ret_none rfl (permA 0 rfl (permA 0 rfl (permA 0 rfl permN)))) ⟨_, _, _, rfl, rfl⟩
def m_queue_Queue_store_pair_Push (q1 : QueuePairs) (l1 : (List StorePair))  : Option QueuePairs :=
 grd ((q1.more.length + l1.length) * 16 <= 140737488355328) <|
 (m_queue_Queue_store_pair_fill (⟨q1.first, (q1.more ++ l1)⟩ : QueuePairs)).bind fun s1 =>
 some (⟨s1.first, s1.more⟩ : QueuePairs)
theorem w_queue_Queue_store_pair_Push {q1 : QueuePairs} {l1 : (List StorePair)}  {s_1 : QueuePairs} {b_q0 : Nat} {c_q0c0 : Nat} {a_q0c1 : Option Addr} {cap_q0c1 : Nat} (hm : m_queue_Queue_store_pair_Push q1 l1 = some s_1) : Go.V.Fn Try.prog 27 [.v (.pointer (some ⟨b_q0, 0, none⟩)), .list 2 StorePair.d l1] [box b_q0 70 [.v (.chan (some c_q0c0)), .v (.slice a_q0c1 q1.more.length cap_q0c1)], chn c_q0c0 q1.first.1 StorePair.d q1.first.2, que a_q0c1 cap_q0c1 47 2 StorePair.d q1.more] (fun d ms' => ∃ c_s_1c0 a_s_1c1 cap_s_1c1, d = .tup [] /\ ms' = [box b_q0 70 [.v (.chan (some c_s_1c0)), .v (.slice a_s_1c1 s_1.more.length cap_s_1c1)], chn c_s_1c0 s_1.first.1 StorePair.d s_1.first.2, que a_s_1c1 cap_s_1c1 47 2 StorePair.d s_1.more]) := by
 unfold m_queue_Queue_store_pair_Push at hm;refine fn_intro Try.func27 rfl Try.ntmps27 rfl fun H0 fr w0 => ?_;refine g_seq (g_seq (gRg ?_));refine go_p rfl rfl rfl (oMv rfl) ?_;refine go_p rfl rfl rfl (o_eqnil Try.runUnderlying44 rfl nilP_ptr rfl) ?_;refine gNl ?_;refine g_cond_false rfl rfl ?_;refine gSp (g_seq (gRg ?_));refine go_p rfl rfl rfl (oMv rfl) ?_;refine go_p rfl rfl rfl (oMv rfl) ?_;refine go_p rfl rfl rfl (o_nilCheck_box rfl) ?_;refine go_p rfl rfl rfl (oFb fi_70_1 rfl) ?_;refine go_p rfl rfl rfl (oLb 0 Try.isAgg68 rfl rfl rfl rfl) ?_;refine go_p rfl rfl rfl (oMv rfl) ?_;obtain ⟨hg1, hm⟩ := grd_some hm;refine go_op rfl rfl rfl (o_append_que (a := _) 2 Try.underlying68 Try.type47 rfl rfl rfl rfl rfl rfl rfl (fun _ => rfl) (fun _ => rfl) hg1 (app_len hg1 rfl)) ?_;rintro _ _ ⟨a_q0c1, cap_q0c1, rfl, rfl⟩;refine go_ms (ms' := [box b_q0 70 [_, _], _, _]) rfl ?_;refine go_p rfl rfl rfl (o_nilCheck_box rfl) ?_;refine go_p rfl rfl rfl (oFb fi_70_1 rfl) ?_;refine go_u rfl rfl (oSb 0 Try.sizeOf68 rfl rfl rfl rfl rfl rfl rfl rfl (nB rfl)) ?_;rintro _ _ rfl;refine go_ms (ms' := [box b_q0 70 [_, _], _, _]) rfl ?_;refine gNl (gRg ?_);refine go_p rfl rfl rfl (oMv rfl) ?_;obtain ⟨s1, hx2, hm⟩ := bS hm;refine go_op rfl rfl rfl (o_call_own [0, 1, 2] Try.call37 rfl rfl (getL_c rfl (getL_c rfl (getL_c rfl getL_n))) (w_queue_Queue_store_pair_fill hx2) (by rintro _ _ ⟨_, _, _, rfl, rfl⟩; rfl)) ?_;rintro _ _ ⟨_, ⟨c_q0c0, a_q0c1, cap_q0c1, rfl, rfl⟩, rfl⟩;refine go_ms (ms' := [box b_q0 70 [_, _], _, _]) rfl ?_;refine gNl ?_;obtain rfl := some_eq hm;exact retKn (ret_none rfl (permA 0 rfl (permA 0 rfl (permA 0 rfl permN)))) ⟨_, _, _, rfl, rfl⟩
def m_queue_Queue_store_pair_Pop (q1 : QueuePairs)  : Option (StorePair × Bool × QueuePairs) :=
 bif q1.first.2.isEmpty then
  bif (decide ((q1.more.length : Int) = 0)) then
   some ((⟨0, 0⟩ : StorePair), false, (⟨q1.first, q1.more⟩ : QueuePairs))
  else
   (idx q1.more 0).bind fun x1 =>
   (sli q1.more 1 (q1.more.length : Int)).bind fun l1 =>
   some ((⟨x1.p, x1.q⟩ : StorePair), true, (⟨q1.first, l1⟩ : QueuePairs))
 else
  (idx q1.first.2 0).bind fun x2 =>
  (sli q1.first.2 1 (q1.first.2.length : Int)).bind fun l2 =>
  (m_queue_Queue_store_pair_fill (⟨(q1.first.1, l2), q1.more⟩ : QueuePairs)).bind fun s1 =>
  some ((⟨x2.p, x2.q⟩ : StorePair), true, (⟨s1.first, s1.more⟩ : QueuePairs))
theorem w_queue_Queue_store_pair_Pop {q1 : QueuePairs}  {r_1 : StorePair} {r_2 : Bool} {s_1 : QueuePairs} {b_q0 : Nat} {c_q0c0 : Nat} {a_q0c1 : Option Addr} {cap_q0c1 : Nat} (hm : m_queue_Queue_store_pair_Pop q1 = some (r_1, r_2, s_1)) : Go.V.Fn Try.prog 28 [.v (.pointer (some ⟨b_q0, 0, none⟩))] [box b_q0 70 [.v (.chan (some c_q0c0)), .v (.slice a_q0c1 q1.more.length cap_q0c1)], chn c_q0c0 q1.first.1 StorePair.d q1.first.2, que a_q0c1 cap_q0c1 47 2 StorePair.d q1.more] (fun d ms' => ∃ c_s_1c0 a_s_1c1 cap_s_1c1, d = .tup [StorePair.d r_1, .bool r_2] /\ ms' = [box b_q0 70 [.v (.chan (some c_s_1c0)), .v (.slice a_s_1c1 s_1.more.length cap_s_1c1)], chn c_s_1c0 s_1.first.1 StorePair.d s_1.first.2, que a_s_1c1 cap_s_1c1 47 2 StorePair.d s_1.more]) := by
 unfold m_queue_Queue_store_pair_Pop at hm;refine fn_intro Try.func28 rfl Try.ntmps28 rfl fun H0 fr w0 => ?_;refine g_seq (gRg ?_);refine go_op rfl rfl rfl (o_alloc_own Try.zeroValue47 (cs := [.i64 0, .i64 0]) rfl) ?_;rintro _ _ ⟨b1, rfl, rfl⟩;refine go_p rfl rfl rfl (oAs rfl) ?_;refine gNl (g_seq (gRg ?_));refine go_op rfl rfl rfl (o_alloc_own Try.zeroValue47 (cs := [.i64 0, .i64 0]) rfl) ?_;rintro _ _ ⟨b2, rfl, rfl⟩;refine gNl (g_seq (g_seq (gRg ?_)));refine go_p rfl rfl rfl (oMv rfl) ?_;refine go_p rfl rfl rfl (o_eqnil Try.runUnderlying44 rfl nilP_ptr rfl) ?_;refine gNl ?_;refine g_cond_false rfl rfl ?_;refine gSp (g_seq (g_seq (gRg ?_)));refine go_p rfl rfl rfl (oMv rfl) ?_;refine go_p rfl rfl rfl (o_nilCheck_box rfl) ?_;refine go_p rfl rfl rfl (oFb fi_70_0 rfl) ?_;refine go_p rfl rfl rfl (oLb 2 Try.isAgg67 rfl rfl rfl rfl) ?_;refine gNl (g_seq ?_)
 rcases cond_split hm with ⟨hc1, hm⟩ | ⟨hc1, hm⟩
 ·skip
  refine g_selp rfl rfl (s_recv_none 3 Try.zeroValue47 rfl rfl hc1) (fun _ _ => rfl) ?_;refine go_ms (ms' := [box b2 47 [_, _], box b1 47 [_, _], box b_q0 70 [_, _], _, _]) rfl ?_;refine go_p rfl rfl rfl (o_extract rfl rfl) ?_;refine go_p rfl rfl rfl (o_cmp rfl rfl rfl) ?_;refine gNl (g_block ?_);refine g_cond_false rfl rfl ?_;refine gSp (g_seq (g_seq (gRg ?_)));refine go_p rfl rfl rfl (oMv rfl) ?_;refine go_p rfl rfl rfl (o_nilCheck_box rfl) ?_;refine go_p rfl rfl rfl (oFb fi_70_1 rfl) ?_;refine go_p rfl rfl rfl (oLb 2 Try.isAgg68 rfl rfl rfl rfl) ?_;refine go_p rfl rfl rfl (.view (peekQ (i := 24) 4 rfl rfl rfl) (o_len Try.runUnderlying68 rfl)) ?_;refine go_p rfl rfl rfl (o_cmp rfl rfl rfl) ?_;refine gNl ?_;refine gCd rfl (fun hc2 => ?_) (fun hc2 => ?_)
  ·replace hm := cond_t hc2 hm
   refine g_seq (gRg ?_);refine go_p rfl rfl rfl (oLg 0 Try.isAgg47 Try.sizeOf47 rfl rfl rfl rfl (nB rfl)) ?_;refine go_u rfl rfl (oSb 1 Try.sizeOf47 rfl rfl rfl rfl rfl rfl rfl rfl (nB rfl)) ?_;rintro _ _ rfl;refine go_ms (ms' := [box b2 47 [_, _], box b1 47 [_, _], box b_q0 70 [_, _], _, _]) rfl ?_;refine go_p rfl rfl rfl (oAs rfl) ?_;refine gNl (g_ret ?_)
   have hq1 := some_eq hm
   obtain ⟨rfl, hq2⟩ := Prod.mk.inj hq1;obtain ⟨rfl, rfl⟩ := Prod.mk.inj hq2;exact retK (ret_many (ds := [_, _]) rfl (by decide) ⟨ret_cell 1 rfl rfl rfl Try.isAgg47 Try.sizeOf47 rfl, ⟨ret_tmp rfl, rfl⟩⟩ (permA 2 rfl (permA 2 rfl (permA 2 rfl permN)))) ⟨_, _, _, rfl, rfl⟩
  ·replace hm := cond_f hc2 hm
   refine gSp (g_seq (gRg ?_));refine go_p rfl rfl rfl (oMv rfl) ?_;refine go_p rfl rfl rfl (o_nilCheck_box rfl) ?_;refine go_p rfl rfl rfl (oFb fi_70_1 rfl) ?_;refine go_p rfl rfl rfl (oLb 2 Try.isAgg68 rfl rfl rfl rfl) ?_;obtain ⟨x1, hx1, hm⟩ := bS hm;refine go_p rfl rfl rfl (.view (peekQ (i := 31) 4 rfl rfl rfl) (oIm Try.runUnderlying68 Try.sizeOf47 rfl rfl hx1)) ?_;refine go_p rfl rfl rfl (o_load_agg Try.isAgg47 Try.sizeOf47 rfl rfl) ?_;refine go_op rfl rfl rfl (o_alloc_own Try.zeroValue47 (cs := [.i64 0, .i64 0]) rfl) ?_;rintro _ _ ⟨b3, rfl, rfl⟩;refine go_u rfl rfl (oSb 0 Try.sizeOf47 rfl rfl rfl rfl rfl rfl rfl rfl (nB rfl)) ?_;rintro _ _ rfl;refine go_ms (ms' := [box b3 47 [_, _], box b2 47 [_, _], box b1 47 [_, _], box b_q0 70 [_, _], _, _]) rfl ?_;refine gNl (g_seq (gRg ?_));refine go_p rfl rfl rfl (oMv rfl) ?_;refine go_p rfl rfl rfl (oMv rfl) ?_;refine go_p rfl rfl rfl (o_nilCheck_box rfl) ?_;refine go_p rfl rfl rfl (oFb fi_70_1 rfl) ?_;refine go_p rfl rfl rfl (oLb 3 Try.isAgg68 rfl rfl rfl rfl) ?_;obtain ⟨l1, hx2, hm⟩ := bS hm;refine go_op rfl rfl rfl (o_slice_que 5 Try.runUnderlying68 Try.sizeOf47 rfl rfl rfl rfl hx2) ?_;rintro _ _ ⟨a_q0c1, cap_q0c1, rfl, rfl⟩;refine go_p rfl rfl rfl (o_nilCheck_box rfl) ?_;refine go_p rfl rfl rfl (oFb fi_70_1 rfl) ?_;refine go_u rfl rfl (oSb 3 Try.sizeOf68 rfl rfl rfl rfl rfl rfl rfl rfl (nB rfl)) ?_;rintro _ _ rfl;refine go_ms (ms' := [box b3 47 [_, _], box b2 47 [_, _], box b1 47 [_, _], box b_q0 70 [_, _], _, _]) rfl ?_;refine gNl (g_seq (gRg ?_));refine go_p rfl rfl rfl (oLg 0 Try.isAgg47 Try.sizeOf47 rfl rfl rfl rfl (nB rfl)) ?_;refine go_u rfl rfl (oSb 2 Try.sizeOf47 rfl rfl rfl rfl rfl rfl rfl rfl (nB rfl)) ?_;rintro _ _ rfl;refine go_ms (ms' := [box b3 47 [_, _], box b2 47 [_, _], box b1 47 [_, _], box b_q0 70 [_, _], _, _]) rfl ?_;refine go_p rfl rfl rfl (oAs rfl) ?_;refine gNl (g_ret ?_)
   have hq1 := some_eq hm
   obtain ⟨rfl, hq2⟩ := Prod.mk.inj hq1;obtain ⟨rfl, rfl⟩ := Prod.mk.inj hq2;exact retK (ret_many (ds := [_, _]) rfl (by decide) ⟨ret_cell 2 rfl rfl rfl Try.isAgg47 Try.sizeOf47 rfl, ⟨ret_tmp rfl, rfl⟩⟩ (permA 3 rfl (permA 3 rfl (permA 3 rfl permN)))) ⟨_, _, _, rfl, rfl⟩
 ·skip
  obtain ⟨x2, hx3, hm⟩ := bS hm;obtain ⟨l2, hx4, hm⟩ := bS hm;refine g_selp rfl rfl (s_recv_some 3 Try.zeroValue47 rfl rfl hx3 hx4) (fun _ _ => rfl) ?_;refine go_ms (ms' := [box b2 47 [_, _], box b1 47 [_, _], box b_q0 70 [_, _], _, _]) rfl ?_;refine go_p rfl rfl rfl (o_extract rfl rfl) ?_;refine go_p rfl rfl rfl (o_cmp rfl rfl rfl) ?_;refine gNl (g_block ?_);refine g_cond_true rfl rfl ?_;refine g_seq (gRg ?_);refine go_p rfl rfl rfl (o_extract rfl rfl) ?_;refine go_op rfl rfl rfl (o_alloc_own Try.zeroValue47 (cs := [.i64 0, .i64 0]) rfl) ?_;rintro _ _ ⟨b4, rfl, rfl⟩;refine go_u rfl rfl (oSb 0 Try.sizeOf47 rfl rfl rfl rfl rfl rfl rfl rfl (nB rfl)) ?_;rintro _ _ rfl;refine go_ms (ms' := [box b4 47 [_, _], box b2 47 [_, _], box b1 47 [_, _], box b_q0 70 [_, _], _, _]) rfl ?_;refine gNl (g_seq (gRg ?_));refine go_p rfl rfl rfl (oMv rfl) ?_;obtain ⟨s1, hx5, hm⟩ := bS hm;refine go_op rfl rfl rfl (o_call_own [3, 4, 5] Try.call37 rfl rfl (getL_c rfl (getL_c rfl (getL_c rfl getL_n))) (w_queue_Queue_store_pair_fill hx5) (by rintro _ _ ⟨_, _, _, rfl, rfl⟩; rfl)) ?_;rintro _ _ ⟨_, ⟨c_q0c0, a_q0c1, cap_q0c1, rfl, rfl⟩, rfl⟩;refine go_ms (ms' := [box b4 47 [_, _], box b2 47 [_, _], box b1 47 [_, _], box b_q0 70 [_, _], _, _]) rfl ?_;refine gNl (g_seq (gRg ?_));refine go_p rfl rfl rfl (oLg 0 Try.isAgg47 Try.sizeOf47 rfl rfl rfl rfl (nB rfl)) ?_;refine go_u rfl rfl (oSb 2 Try.sizeOf47 rfl rfl rfl rfl rfl rfl rfl rfl (nB rfl)) ?_;rintro _ _ rfl;refine go_ms (ms' := [box b4 47 [_, _], box b2 47 [_, _], box b1 47 [_, _], box b_q0 70 [_, _], _, _]) rfl ?_;refine go_p rfl rfl rfl (oAs rfl) ?_;refine gNl (g_ret ?_)
  have hq1 := some_eq hm
  obtain ⟨rfl, hq2⟩ := Prod.mk.inj hq1;obtain ⟨rfl, rfl⟩ := Prod.mk.inj hq2;exact retK (ret_many (ds := [_, _]) rfl (by decide) ⟨ret_cell 2 rfl rfl rfl Try.isAgg47 Try.sizeOf47 rfl, ⟨ret_tmp rfl, rfl⟩⟩ (permA 3 rfl (permA 3 rfl (permA 3 rfl permN)))) ⟨_, _, _, rfl, rfl⟩
end Go.Proofs.Ytcoghblhdjmbfaa
namespace Go.Proofs.Ytcoghblhdjmbfaa
open Go.V
theorem fh_51_0 : FieldIs Try.prog 51 0 0 1 false := ⟨⟨_, _, Try.runUnderlying51, rfl, rfl, Try.sizeOf33, by decide, Try.isAgg33⟩⟩
theorem fh_51_1 : FieldIs Try.prog 51 1 1 1 false := ⟨⟨_, _, Try.runUnderlying51, rfl, rfl, Try.sizeOf48, by decide, Try.isAgg48⟩⟩
theorem fh_54_0 : FieldIs Try.prog 54 0 0 1 false := ⟨⟨_, _, Try.runUnderlying54, rfl, rfl, Try.sizeOf3, by decide, Try.isAgg3⟩⟩
theorem fh_54_1 : FieldIs Try.prog 54 1 1 1 false := ⟨⟨_, _, Try.runUnderlying54, rfl, rfl, Try.sizeOf3, by decide, Try.isAgg3⟩⟩
def m_there1 (n : Nat) (i : Int) : Option Bool := some (decide (i < 0) || decide ((n : Int) <= i))
def m_there (s : StoreStore) (l : List Int) : Option Bool := (m_cnI l (m_there1 s.nodes.length)).bind fun b => some (!b)
def m_thereN (l : List Int) : Option Bool := some false
theorem w_there1 {s1 : StoreStore} {b_q0 : Nat} {a_q0c0 : Option Addr} {cap_q0c0 : Nat} {a_q0c1 : Option Addr} {m_q0c1 : Nat} {cap_q0c1 : Nat} {a_q0c2 : Option Addr} {cap_q0c2 : Nat} {b_q0c3 : Nat} {b_q0c4 : Nat} {c_q0c4c0 : Nat} {a_q0c4c1 : Option Addr} {cap_q0c4c1 : Nat} {i : Int} : FnT Try.prog 24 [.i64 i, .ref (.v (.pointer (some ⟨b_q0, 0, none⟩)))] [box b_q0 51 [.v (.slice a_q0c0 s1.nodes.length cap_q0c0), .v (.slice a_q0c1 m_q0c1 cap_q0c1), .v (.slice a_q0c2 s1.levels.length cap_q0c2), .v (.map (some b_q0c3)), .v (.pointer (some ⟨b_q0c4, 0, none⟩)), .bool s1.dead], row a_q0c0 cap_q0c0 54 4 ANd.d s1.nodes, arr a_q0c1 m_q0c1 cap_q0c1 56 3 StoreVariable.d s1.vars, row a_q0c2 cap_q0c2 3 1 D.i64 s1.levels, mp b_q0c3 kStorePair D.bool s1.seen, box b_q0c4 70 [.v (.chan (some c_q0c4c0)), .v (.slice a_q0c4c1 s1.wait.more.length cap_q0c4c1)], chn c_q0c4c0 s1.wait.first.1 StorePair.d s1.wait.first.2, que a_q0c4c1 cap_q0c4c1 47 2 StorePair.d s1.wait.more] (.bool (decide (i < 0) || decide ((s1.nodes.length : Int) <= i))) := by
 refine fn_intro Try.func24 rfl Try.ntmps24 rfl fun H0 fr w0 => ?_;refine g_seq (gRg ?_);refine go_p rfl rfl rfl (oAs rfl) ?_;refine gNl (g_seq (gRg ?_));refine go_p rfl rfl rfl (oMv rfl) ?_;refine go_p rfl rfl rfl (o_cmp rfl rfl rfl) ?_;refine go_p rfl rfl rfl (oMv rfl) ?_
 have hsp : decide (i < 0) = false \/ decide (i < 0) = true := by cases decide (i < 0) <;> simp
 rcases hsp with hg_1 | hg_1
 ·refine gWp rfl rfl rfl hg_1 rfl rfl (oMv rfl) ?_
  refine gWp rfl rfl rfl hg_1 rfl rfl (o_load Try.isAgg23 rfl rfl) ?_;refine gWp rfl rfl rfl hg_1 rfl rfl (o_nilCheck_box rfl) ?_;refine gWp rfl rfl rfl hg_1 rfl rfl (oFb fh_51_0 rfl) ?_;refine gWp rfl rfl rfl hg_1 rfl rfl (oLb 0 Try.isAgg33 rfl rfl rfl rfl) ?_;refine gWp rfl rfl rfl hg_1 rfl rfl (.view (peekE (i := 11) 1 rfl rfl rfl) (o_len Try.runUnderlying33 rfl)) ?_;refine gWp rfl rfl rfl hg_1 rfl rfl (o_cmp rfl rfl rfl) ?_;refine go_p rfl rfl rfl (o_pickF rfl hg_1 rfl) ?_;refine go_p rfl rfl rfl (oAs rfl) ?_;refine gNl (g_ret ?_);exact retK (ret_one' (ms' := [_, _, _, _, _, _, _, _]) (drop := []) rfl (ret_tmp rfl) (List.Perm.refl _)) ⟨by rw [hg_1, Bool.false_or], rfl⟩
 ·refine gKp rfl rfl rfl hg_1 rfl rfl ?_
  refine gKp rfl rfl rfl hg_1 rfl rfl ?_;refine gKp rfl rfl rfl hg_1 rfl rfl ?_;refine gKp rfl rfl rfl hg_1 rfl rfl ?_;refine gKp rfl rfl rfl hg_1 rfl rfl ?_;refine gKp rfl rfl rfl hg_1 rfl rfl ?_;refine gKp rfl rfl rfl hg_1 rfl rfl ?_;refine go_p rfl rfl rfl (o_pickT rfl hg_1 rfl) ?_;refine go_p rfl rfl rfl (oAs rfl) ?_;refine gNl (g_ret ?_);exact retK (ret_one' (ms' := [_, _, _, _, _, _, _, _]) (drop := []) rfl (ret_tmp rfl) (List.Perm.refl _)) ⟨by rw [hg_1, Bool.true_or], rfl⟩
theorem w_there {s1 : StoreStore} {l1 : List Int} {r_1 : Bool} {b_q0 : Nat} {a_q0c0 : Option Addr} {cap_q0c0 : Nat} {a_q0c1 : Option Addr} {m_q0c1 : Nat} {cap_q0c1 : Nat} {a_q0c2 : Option Addr} {cap_q0c2 : Nat} {b_q0c3 : Nat} {b_q0c4 : Nat} {c_q0c4c0 : Nat} {a_q0c4c1 : Option Addr} {cap_q0c4c1 : Nat} (hm : m_there s1 l1 = some r_1) : Go.V.Fn Try.prog 16 [.v (.pointer (some ⟨b_q0, 0, none⟩)), .list 1 D.i64 l1] [box b_q0 51 [.v (.slice a_q0c0 s1.nodes.length cap_q0c0), .v (.slice a_q0c1 m_q0c1 cap_q0c1), .v (.slice a_q0c2 s1.levels.length cap_q0c2), .v (.map (some b_q0c3)), .v (.pointer (some ⟨b_q0c4, 0, none⟩)), .bool s1.dead], row a_q0c0 cap_q0c0 54 4 ANd.d s1.nodes, arr a_q0c1 m_q0c1 cap_q0c1 56 3 StoreVariable.d s1.vars, row a_q0c2 cap_q0c2 3 1 D.i64 s1.levels, mp b_q0c3 kStorePair D.bool s1.seen, box b_q0c4 70 [.v (.chan (some c_q0c4c0)), .v (.slice a_q0c4c1 s1.wait.more.length cap_q0c4c1)], chn c_q0c4c0 s1.wait.first.1 StorePair.d s1.wait.first.2, que a_q0c4c1 cap_q0c4c1 47 2 StorePair.d s1.wait.more] (fun d ms' => d = .bool r_1 /\ ms' = [box b_q0 51 [.v (.slice a_q0c0 s1.nodes.length cap_q0c0), .v (.slice a_q0c1 m_q0c1 cap_q0c1), .v (.slice a_q0c2 s1.levels.length cap_q0c2), .v (.map (some b_q0c3)), .v (.pointer (some ⟨b_q0c4, 0, none⟩)), .bool s1.dead], row a_q0c0 cap_q0c0 54 4 ANd.d s1.nodes, arr a_q0c1 m_q0c1 cap_q0c1 56 3 StoreVariable.d s1.vars, row a_q0c2 cap_q0c2 3 1 D.i64 s1.levels, mp b_q0c3 kStorePair D.bool s1.seen, box b_q0c4 70 [.v (.chan (some c_q0c4c0)), .v (.slice a_q0c4c1 s1.wait.more.length cap_q0c4c1)], chn c_q0c4c0 s1.wait.first.1 StorePair.d s1.wait.first.2, que a_q0c4c1 cap_q0c4c1 47 2 StorePair.d s1.wait.more]) := by
 unfold m_there at hm;refine fn_intro Try.func16 rfl Try.ntmps16 rfl fun H0 fr w0 => ?_;refine g_seq (gRg ?_);refine go_p rfl rfl rfl (o_box rfl rfl) ?_;refine go_p rfl rfl rfl (oAs rfl) ?_;refine gNl (g_seq (gRg ?_));refine go_p rfl rfl rfl (o_load Try.isAgg23 rfl rfl) ?_;refine go_p rfl rfl rfl (o_neqnil Try.runUnderlying23 rfl nilP_ptr rfl) ?_;refine go_p rfl rfl rfl (oMv rfl) ?_;refine gWp rfl rfl rfl rfl rfl rfl (oMv rfl) ?_;refine gWp rfl rfl rfl rfl rfl rfl (o_makeFunc rfl rfl) ?_;obtain ⟨x1, hx1, hm⟩ := bS hm;refine gWp rfl rfl rfl rfl rfl rfl (o_call_t [0, 1, 2, 3, 4, 5, 6, 7] Try.call23 rfl rfl (getL_c rfl (getL_c rfl (getL_c rfl (getL_c rfl (getL_c rfl (getL_c rfl (getL_c rfl (getL_c rfl getL_n)))))))) (w_cnI (f1 := m_there1 s1.nodes.length) (fun x y h => by cases h; exact fv_clo Try.call24 w_there1) hx1)) ?_;refine gWp rfl rfl rfl rfl rfl rfl (o_not rfl) ?_;refine go_p rfl rfl rfl (o_pickT rfl rfl rfl) ?_;refine go_p rfl rfl rfl (oAs rfl) ?_;refine gNl (g_ret ?_);obtain rfl := some_eq hm;exact retK (ret_one' rfl (ret_tmp rfl) (permA 0 rfl (permA 0 rfl (permA 0 rfl (permA 0 rfl (permA 0 rfl (permA 0 rfl (permA 0 rfl (permA 0 rfl permN))))))))) ⟨rfl, rfl⟩
theorem w_thereN {l1 : List Int} {r_1 : Bool} (hm : m_thereN l1 = some r_1) : Fn0 Try.prog 16 [.v (.pointer none), .list 1 D.i64 l1] (.bool r_1) := by
 unfold m_thereN at hm;refine fn_intro Try.func16 rfl Try.ntmps16 rfl fun H0 fr w0 => ?_;refine g_seq (gRg ?_);refine go_p rfl rfl rfl (o_box rfl rfl) ?_;refine go_p rfl rfl rfl (oAs rfl) ?_;refine gNl (g_seq (gRg ?_));refine go_p rfl rfl rfl (o_load Try.isAgg23 rfl rfl) ?_;refine go_p rfl rfl rfl (o_neqnil Try.runUnderlying23 rfl nilP_nil rfl) ?_;refine go_p rfl rfl rfl (oMv rfl) ?_;refine gKp rfl rfl rfl rfl rfl rfl ?_;refine gKp rfl rfl rfl rfl rfl rfl ?_;refine gKp rfl rfl rfl rfl rfl rfl ?_;refine gKp rfl rfl rfl rfl rfl rfl ?_;refine go_p rfl rfl rfl (o_pickF rfl rfl rfl) ?_;refine go_p rfl rfl rfl (oAs rfl) ?_;refine gNl (g_ret ?_);exact retK (ret_one' rfl (ret_tmp rfl) (perm_drop _)) (congrArg (fun (p : Bool) => (.bool p : D)) (some_eq hm))
theorem w_variableOf {s1 : StoreStore} {i1 : Int} {x1 : ANd} {v1 : StoreVariable} {b_q0 : Nat} {a_q0c0 : Option Addr} {cap_q0c0 : Nat} {a_q0c1 : Option Addr} {m_q0c1 : Nat} {cap_q0c1 : Nat} {a_q0c2 : Option Addr} {cap_q0c2 : Nat} {b_q0c3 : Nat} {b_q0c4 : Nat} {c_q0c4c0 : Nat} {a_q0c4c1 : Option Addr} {cap_q0c4c1 : Nat} (hx1 : idx s1.nodes i1 = some x1) (hg1 : x1.kind = 11) (hx2 : idx s1.vars x1.a = some v1) :
  Go.V.Fn Try.prog 46 [.v (.pointer (some ⟨b_q0, 0, none⟩)), .i64 i1] [box b_q0 51 [.v (.slice a_q0c0 s1.nodes.length cap_q0c0), .v (.slice a_q0c1 m_q0c1 cap_q0c1), .v (.slice a_q0c2 s1.levels.length cap_q0c2), .v (.map (some b_q0c3)), .v (.pointer (some ⟨b_q0c4, 0, none⟩)), .bool s1.dead], row a_q0c0 cap_q0c0 54 4 ANd.d s1.nodes, arr a_q0c1 m_q0c1 cap_q0c1 56 3 StoreVariable.d s1.vars, row a_q0c2 cap_q0c2 3 1 D.i64 s1.levels, mp b_q0c3 kStorePair D.bool s1.seen, box b_q0c4 70 [.v (.chan (some c_q0c4c0)), .v (.slice a_q0c4c1 s1.wait.more.length cap_q0c4c1)], chn c_q0c4c0 s1.wait.first.1 StorePair.d s1.wait.first.2, que a_q0c4c1 cap_q0c4c1 47 2 StorePair.d s1.wait.more] (fun d ms' => d = .tup [.v (.pointer (apt a_q0c1 (x1.a.toNat * 3))), .bool true] /\ ms' = [box b_q0 51 [.v (.slice a_q0c0 s1.nodes.length cap_q0c0), .v (.slice a_q0c1 m_q0c1 cap_q0c1), .v (.slice a_q0c2 s1.levels.length cap_q0c2), .v (.map (some b_q0c3)), .v (.pointer (some ⟨b_q0c4, 0, none⟩)), .bool s1.dead], row a_q0c0 cap_q0c0 54 4 ANd.d s1.nodes, arr a_q0c1 m_q0c1 cap_q0c1 56 3 StoreVariable.d s1.vars, row a_q0c2 cap_q0c2 3 1 D.i64 s1.levels, mp b_q0c3 kStorePair D.bool s1.seen, box b_q0c4 70 [.v (.chan (some c_q0c4c0)), .v (.slice a_q0c4c1 s1.wait.more.length cap_q0c4c1)], chn c_q0c4c0 s1.wait.first.1 StorePair.d s1.wait.first.2, que a_q0c4c1 cap_q0c4c1 47 2 StorePair.d s1.wait.more]) := by
 refine fn_intro Try.func46 rfl Try.ntmps46 rfl fun H0 fr w0 => ?_;refine g_seq (gRg ?_);refine go_p rfl rfl rfl (oAs rfl) ?_;refine go_p rfl rfl rfl (oAs rfl) ?_;refine gNl (g_seq (g_seq (gRg ?_)));refine go_p rfl rfl rfl (oMv rfl) ?_;refine go_p rfl rfl rfl (o_nilCheck_box rfl) ?_;refine go_p rfl rfl rfl (oFb fh_51_0 rfl) ?_;refine go_p rfl rfl rfl (oLb 0 Try.isAgg33 rfl rfl rfl rfl) ?_;refine go_p rfl rfl rfl (oMv rfl) ?_;refine go_p rfl rfl rfl (.view (peekE (i := 10) 1 rfl rfl rfl) (oIm Try.runUnderlying33 Try.sizeOf54 rfl rfl hx1)) ?_;refine go_p rfl rfl rfl (o_load_agg Try.isAgg54 Try.sizeOf54 rfl rfl) ?_;refine go_op rfl rfl rfl (o_alloc_own Try.zeroValue54 (cs := [.i64 0, .i64 0, .i64 0, .list 2 AFd.d []]) rfl) ?_;rintro _ _ ⟨b1, rfl, rfl⟩;refine go_u rfl rfl (oSb 0 Try.sizeOf54 rfl rfl rfl rfl rfl rfl rfl rfl (nB rfl)) ?_;rintro _ _ rfl;refine go_ms (ms' := [box b1 54 [.i64 x1.kind, .i64 x1.a, .i64 x1.b, .list 2 AFd.d x1.l], box b_q0 51 [.v (.slice a_q0c0 s1.nodes.length cap_q0c0), .v (.slice a_q0c1 m_q0c1 cap_q0c1), .v (.slice a_q0c2 s1.levels.length cap_q0c2), .v (.map (some b_q0c3)), .v (.pointer (some ⟨b_q0c4, 0, none⟩)), .bool s1.dead], row a_q0c0 cap_q0c0 54 4 ANd.d s1.nodes, arr a_q0c1 m_q0c1 cap_q0c1 56 3 StoreVariable.d s1.vars, row a_q0c2 cap_q0c2 3 1 D.i64 s1.levels, mp b_q0c3 kStorePair D.bool s1.seen, box b_q0c4 70 [.v (.chan (some c_q0c4c0)), .v (.slice a_q0c4c1 s1.wait.more.length cap_q0c4c1)], chn c_q0c4c0 s1.wait.first.1 StorePair.d s1.wait.first.2, que a_q0c4c1 cap_q0c4c1 47 2 StorePair.d s1.wait.more]) rfl ?_;refine gNl (g_seq (gRg ?_));refine go_p rfl rfl rfl (oFb fh_54_0 rfl) ?_;refine go_p rfl rfl rfl (oLb 0 Try.isAgg3 rfl rfl rfl rfl) ?_;refine go_p rfl rfl rfl (o_cmp rfl rfl rfl) ?_;refine gNl ?_;refine gCd rfl (fun hc1 => ?_) (fun hc1 => absurd hg1 (of_decide_eq_false hc1));refine g_seq ?_;refine g_draw 9 Try_mixed (by decide +kernel) ?_;refine gd_p rfl rfl rfl (oMv rfl) ?_;refine gd_p rfl rfl rfl (o_nilCheck_box rfl) ?_;refine gd_p rfl rfl rfl (oFb fh_51_1 rfl) ?_;refine gd_p rfl rfl rfl (oLb 1 Try.isAgg48 rfl rfl rfl rfl) ?_;refine gd_p rfl rfl rfl (oFb fh_54_1 rfl) ?_;refine gd_p rfl rfl rfl (oLb 0 Try.isAgg3 rfl rfl rfl rfl) ?_;refine gd_p rfl rfl rfl (o_indexAddr_arr 3 Try.runUnderlying48 Try.sizeOf56 rfl rfl rfl hx2) ?_;refine gd_p rfl rfl rfl (oAs rfl) ?_;refine gd_p rfl rfl rfl (oAs rfl) ?_;refine gd_nil ?_;refine gNl (g_ret ?_);exact retK (ret_many (ds := [_, _]) rfl (by decide) ⟨ret_tmp rfl, ⟨ret_tmp rfl, rfl⟩⟩ (permA 1 rfl (permA 1 rfl (permA 1 rfl (permA 1 rfl (permA 1 rfl (permA 1 rfl (permA 1 rfl (permA 1 rfl permN))))))))) ⟨rfl, rfl⟩
end Go.Proofs.Ytcoghblhdjmbfaa
