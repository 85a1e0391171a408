/- Part 3 of the proof: a program logic, what the functions compute, and what these answer; no condition. -/
import Derived.Test.Ytafphfokopkhdaap2
import Derived.Shelf.Sort.Plain
import Derived.Ground.Names2Prog
import Derived.Shelf.Slices.CompactI
import Derived.Shelf.Slices.In.SortNone
import Derived.Test.YtafphfokopkhdaaProg
set_option linter.unusedVariables false
set_option linter.unusedSimpArgs false
set_option maxRecDepth 100000
set_option maxHeartbeats 2000000
namespace Go.Proofs.Ytafphfokopkhdaa
open Go.V
theorem Try_mixed : Try.prog.follows .mixedOrders = true := by kernel_rfl
structure ApiTField where
  name : (List UInt8)
  at_ : Int
def ApiTField.d (x : ApiTField) : D := .agg [.str x.name, .i64 x.at_]
structure ApiTNode where
  kind : Int
  a : Int
  b : Int
  l : (List ApiTField)
def ApiTNode.d (x : ApiTNode) : D := .agg [.i64 x.kind, .i64 x.a, .i64 x.b, .list 2 ApiTField.d x.l]
structure AutoEdge where
  name : (List UInt8)
  to_ : Int
def AutoEdge.d (x : AutoEdge) : D := .agg [.str x.name, .i64 x.to_]
structure ApiType where
  l : (List ApiTNode)
  root : Int
def ApiType.d (x : ApiType) : D := .agg [.list 4 ApiTNode.d x.l, .i64 x.root]
theorem w_Clone_83 {l : List ApiTNode} (hl : l.length * 48 ≤ 140737488355328) :
    Go.V.Fn Try.prog 83 [.list 4 ApiTNode.d l] [] (fun d ms' => ∃ a cap, d = .v (.slice a l.length cap) ∧ ms' = [arr a l.length cap 56 4 ApiTNode.d l]) := by
  refine fn_intro Try.func83 rfl Try.ntmps83 rfl fun H0 fr w0 => ?_
  refine g_seq ?_
  refine g_region ?_
  refine go_p rfl rfl rfl (o_assign rfl) ?_
  refine go_nil ?_
  refine g_seq ?_
  refine g_seq ?_
  refine g_region ?_
  refine go_p rfl rfl rfl (o_move rfl) ?_
  refine go_op rfl rfl rfl (o_eqnil_slice Try.underlying51 rfl rfl) ?_
  rintro _ _ ⟨b, rfl, rfl, hb⟩
  refine go_nil ?_
  refine g_cond rfl (fun hc1 => ?_) (fun hc1 => ?_)
  · -- 1T
    skip
    obtain rfl := hb hc1
    refine g_conv (refines_newarr (T := 56) (sz := 4) (f := ApiTNode.d)) ?_
    refine g_seq ?_
    refine g_region ?_
    refine go_p rfl rfl rfl (o_assign rfl) ?_
    refine go_nil ?_
    refine g_ret ?_
    exact retK (ret_one' rfl (ret_tmp rfl) (perm_none _)) (⟨none, 0, rfl, rfl⟩) -- ret1 1T.
  · -- 1F
    skip
    refine g_skip ?_
    refine g_seq ?_
    refine g_region ?_
    refine go_op rfl rfl rfl (o_buildSlice_row (xs := []) (f := ApiTNode.d) (l := []) Try.runUnderlying51 Try.sizeOf56 Try.zeroValue56 rfl rfl rfl (fun _ => ⟨rfl, rfl, rfl⟩) rfl (by simp [maxLen])) ?_
    rintro _ _ ⟨a1, rfl, rfl⟩
    refine go_p rfl rfl rfl (o_move rfl) ?_
    refine go_op rfl rfl rfl (o_append_arr (a := _) 0 Try.underlying51 Try.type56 rfl rfl rfl rfl rfl rfl rfl rfl hl (app_len hl rfl)) ?_
    rintro _ _ ⟨a2, cap2, rfl, rfl⟩
    refine go_p rfl rfl rfl (o_assign rfl) ?_
    refine go_nil ?_
    refine g_ret ?_
    exact retK (ret_one' rfl (ret_tmp rfl) (perm_none _)) (⟨_, _, rfl, rfl⟩) -- ret2 1F.
theorem w_Clone_106 {l : List ApiTField} (hl : l.length * 24 ≤ 140737488355328) :
    Go.V.Fn Try.prog 106 [.list 2 ApiTField.d l] [] (fun d ms' => ∃ a cap, d = .v (.slice a l.length cap) ∧ ms' = [arr a l.length cap 100 2 ApiTField.d l]) := by
  refine fn_intro Try.func106 rfl Try.ntmps106 rfl fun H0 fr w0 => ?_
  refine g_seq ?_
  refine g_region ?_
  refine go_p rfl rfl rfl (o_assign rfl) ?_
  refine go_nil ?_
  refine g_seq ?_
  refine g_seq ?_
  refine g_region ?_
  refine go_p rfl rfl rfl (o_move rfl) ?_
  refine go_op rfl rfl rfl (o_eqnil_slice Try.underlying54 rfl rfl) ?_
  rintro _ _ ⟨b, rfl, rfl, hb⟩
  refine go_nil ?_
  refine g_cond rfl (fun hc1 => ?_) (fun hc1 => ?_)
  · -- 1T
    skip
    obtain rfl := hb hc1
    refine g_conv (refines_newarr (T := 100) (sz := 2) (f := ApiTField.d)) ?_
    refine g_seq ?_
    refine g_region ?_
    refine go_p rfl rfl rfl (o_assign rfl) ?_
    refine go_nil ?_
    refine g_ret ?_
    exact retK (ret_one' rfl (ret_tmp rfl) (perm_none _)) (⟨none, 0, rfl, rfl⟩) -- ret1 1T.
  · -- 1F
    skip
    refine g_skip ?_
    refine g_seq ?_
    refine g_region ?_
    refine go_op rfl rfl rfl (o_buildSlice_row (xs := []) (f := ApiTField.d) (l := []) Try.runUnderlying54 Try.sizeOf100 Try.zeroValue100 rfl rfl rfl (fun _ => ⟨rfl, rfl, rfl⟩) rfl (by simp [maxLen])) ?_
    rintro _ _ ⟨a1, rfl, rfl⟩
    refine go_p rfl rfl rfl (o_move rfl) ?_
    refine go_op rfl rfl rfl (o_append_arr (a := _) 0 Try.underlying54 Try.type100 rfl rfl rfl rfl rfl rfl rfl rfl hl (app_len hl rfl)) ?_
    rintro _ _ ⟨a2, cap2, rfl, rfl⟩
    refine go_p rfl rfl rfl (o_assign rfl) ?_
    refine go_nil ?_
    refine g_ret ?_
    exact retK (ret_one' rfl (ret_tmp rfl) (perm_none _)) (⟨_, _, rfl, rfl⟩) -- ret2 1F.
theorem w_Clone_119 {l : List Int} (hl : l.length * 8 ≤ 140737488355328) :
    Go.V.Fn Try.prog 119 [.list 1 D.i64 l] [] (fun d ms' => ∃ a cap, d = .v (.slice a l.length cap) ∧ ms' = [arr a l.length cap 3 1 D.i64 l]) := by
  refine fn_intro Try.func119 rfl Try.ntmps119 rfl fun H0 fr w0 => ?_
  refine g_seq ?_
  refine g_region ?_
  refine go_p rfl rfl rfl (o_assign rfl) ?_
  refine go_nil ?_
  refine g_seq ?_
  refine g_seq ?_
  refine g_region ?_
  refine go_p rfl rfl rfl (o_move rfl) ?_
  refine go_op rfl rfl rfl (o_eqnil_slice Try.underlying28 rfl rfl) ?_
  rintro _ _ ⟨b, rfl, rfl, hb⟩
  refine go_nil ?_
  refine g_cond rfl (fun hc1 => ?_) (fun hc1 => ?_)
  · -- 1T
    skip
    obtain rfl := hb hc1
    refine g_conv (refines_newarr (T := 3) (sz := 1) (f := D.i64)) ?_
    refine g_seq ?_
    refine g_region ?_
    refine go_p rfl rfl rfl (o_assign rfl) ?_
    refine go_nil ?_
    refine g_ret ?_
    exact retK (ret_one' rfl (ret_tmp rfl) (perm_none _)) (⟨none, 0, rfl, rfl⟩) -- ret1 1T.
  · -- 1F
    skip
    refine g_skip ?_
    refine g_seq ?_
    refine g_region ?_
    refine go_op rfl rfl rfl (o_buildSlice_row (xs := []) (f := D.i64) (l := []) Try.runUnderlying28 Try.sizeOf3 Try.zeroValue3 rfl rfl rfl (fun _ => ⟨rfl, rfl, rfl⟩) rfl (by simp [maxLen])) ?_
    rintro _ _ ⟨a1, rfl, rfl⟩
    refine go_p rfl rfl rfl (o_move rfl) ?_
    refine go_op rfl rfl rfl (o_append_arr (a := _) 0 Try.underlying28 Try.type3 rfl rfl rfl rfl rfl rfl rfl rfl hl (app_len hl rfl)) ?_
    rintro _ _ ⟨a2, cap2, rfl, rfl⟩
    refine go_p rfl rfl rfl (o_assign rfl) ?_
    refine go_nil ?_
    refine g_ret ?_
    exact retK (ret_one' rfl (ret_tmp rfl) (perm_none _)) (⟨_, _, rfl, rfl⟩) -- ret2 1F.
section
open Go.Shelf Go.Proofs
def sh_lays189_ren : Go.Shelf.Ren := ⟨fun | 189 => 80 | 125 => 122 | 257 => 121 | 128 => 153 | 129 => 154 | 294 => 144 | 295 => 145 | 296 => 146 | 297 => 147 | 298 => 148 | 299 => 149 | 216 => 150 | 300 => 151 | 301 => 152 | 328 => 173 | 329 => 174 | 330 => 175 | 331 => 176 | 332 => 177 | 215 => 178 | 343 => 195 | n => n, fun | 28 => 28 | 3 => 3 | 46 => 175 | 0 => 0 | 51 => 201 | 53 => 111 | 4 => 4 | 183 => 194 | 182 => 193 | 131 => 34 | 5 => 5 | 9 => 9 | 218 => 212 | 222 => 216 | 228 => 231 | 229 => 232 | n => n, fun | n => n⟩
theorem sh_lays189 : Go.Proofs.Lays.n189 Try.prog sh_lays189_ren := {
  mixed := by kernel_rfl
  f125 := Try.func122.trans (congrArg some (by kernel_rfl))
  f128 := Try.func153.trans (congrArg some (by kernel_rfl))
  f129 := Try.func154.trans (congrArg some (by kernel_rfl))
  f189 := Try.func80.trans (congrArg some (by kernel_rfl))
  f215 := Try.func178.trans (congrArg some (by kernel_rfl))
  f216 := Try.func150.trans (congrArg some (by kernel_rfl))
  f257 := Try.func121.trans (congrArg some (by kernel_rfl))
  f294 := Try.func144.trans (congrArg some (by kernel_rfl))
  f295 := Try.func145.trans (congrArg some (by kernel_rfl))
  f296 := Try.func146.trans (congrArg some (by kernel_rfl))
  f297 := Try.func147.trans (congrArg some (by kernel_rfl))
  f298 := Try.func148.trans (congrArg some (by kernel_rfl))
  f299 := Try.func149.trans (congrArg some (by kernel_rfl))
  f300 := Try.func151.trans (congrArg some (by kernel_rfl))
  f301 := Try.func152.trans (congrArg some (by kernel_rfl))
  f328 := Try.func173.trans (congrArg some (by kernel_rfl))
  f329 := Try.func174.trans (congrArg some (by kernel_rfl))
  f330 := Try.func175.trans (congrArg some (by kernel_rfl))
  f331 := Try.func176.trans (congrArg some (by kernel_rfl))
  f332 := Try.func177.trans (congrArg some (by kernel_rfl))
  f343 := Try.func195.trans (congrArg some (by kernel_rfl))
  t0 := Try.underlying0
  a0 := Try.isAgg0
  z0 := Try.sizeOf0
  v0 := Try.zeroValue0
  t3 := Try.underlying3
  a3 := Try.isAgg3
  z3 := Try.sizeOf3
  v3 := Try.zeroValue3
  t4 := Try.underlying4
  a4 := Try.isAgg4
  z4 := Try.sizeOf4
  v4 := Try.zeroValue4
  t5 := Try.underlying5
  a5 := Try.isAgg5
  z5 := Try.sizeOf5
  v5 := Try.zeroValue5
  t9 := Try.underlying9
  a9 := Try.isAgg9
  z9 := Try.sizeOf9
  v9 := Try.zeroValue9
  t28 := Try.underlying28
  a28 := Try.isAgg28
  z28 := Try.sizeOf28
  v28 := Try.zeroValue28
  t46 := Try.underlying175
  a46 := Try.isAgg175
  z46 := Try.sizeOf175
  v46 := Try.zeroValue175
  t51 := Try.underlying201
  a51 := Try.isAgg201
  z51 := Try.sizeOf201
  v51 := Try.zeroValue201
  t53 := Try.underlying111
  a53 := Try.isAgg111
  z53 := Try.sizeOf111
  v53 := Try.zeroValue111
  t131 := Try.underlying34
  a131 := Try.isAgg34
  z131 := Try.sizeOf34
  v131 := Try.zeroValue34
  t182 := Try.underlying193
  a182 := Try.isAgg193
  z182 := Try.sizeOf193
  v182 := Try.zeroValue193
  t183 := Try.underlying194
  a183 := Try.isAgg194
  z183 := Try.sizeOf194
  v183 := Try.zeroValue194
  t218 := Try.underlying212
  a218 := Try.isAgg212
  z218 := Try.sizeOf212
  v218 := Try.zeroValue212
  t222 := Try.underlying216
  a222 := Try.isAgg216
  z222 := Try.sizeOf216
  v222 := Try.zeroValue216
  t228 := Try.underlying231
  a228 := Try.isAgg231
  z228 := Try.sizeOf231
  v228 := Try.zeroValue231
  t229 := Try.underlying232
  a229 := Try.isAgg232
  z229 := Try.sizeOf232
  v229 := Try.zeroValue232 }
open Go.Sort Go.RowKit in
theorem sh_slices_Sort_int (blk off cap : Nat) (zs : List Int) (w : World) (hH : Holds (Value.int .i64) w blk off zs.toArray) (hblk : blk < w.heap.size) (hsz : zs.length < 4611686018427387904) :
    Calls Try.prog 80 #[.slice (some ⟨blk, off, none⟩) zs.length cap] w fun e w' =>
      e = .returned (.tuple #[]) ∧ ∃ n os, w' = grow (putRow (Value.int .i64) (Sort.ahead w n) blk off (zs.mergeSort fun x y => decide (x ≤ y)).toArray) os := Any.slices_Sort_int sh_lays189 blk off cap zs w hH hblk hsz
def sh_laysNm220_ren : Go.Shelf.Ren := ⟨fun | 20 => 81 | n => n, fun | 22 => 28 | 3 => 3 | 4 => 4 | 0 => 0 | n => n, fun | n => n⟩
theorem sh_laysNm220 : Go.Proofs.Lays2.n20 Try.prog sh_laysNm220_ren := {
  mixed := by kernel_rfl
  f20 := Try.func81.trans (congrArg some (by kernel_rfl))
  t0 := Try.underlying0
  a0 := Try.isAgg0
  z0 := Try.sizeOf0
  v0 := Try.zeroValue0
  t3 := Try.underlying3
  a3 := Try.isAgg3
  z3 := Try.sizeOf3
  v3 := Try.zeroValue3
  t4 := Try.underlying4
  a4 := Try.isAgg4
  z4 := Try.sizeOf4
  v4 := Try.zeroValue4
  t22 := Try.underlying28
  a22 := Try.isAgg28
  z22 := Try.sizeOf28
  v22 := Try.zeroValue28
  i3 := by kernel_rfl }
open Go.RowKit Go.Lib Go.Sort in
/-- slices.Compact at []int: "Compact replaces consecutive runs of equal elements with a single copy. This is like the uniq command found on Unix. Compact modifies the contents of the slice s and returns the modified slice, which may have a smaller length. Compact zeroes the elements between the new length and the original length. The result preserves the nilness of s.": IT RETURNS THE SLICE CUT TO 'Lib.compact zs'; ITS CELLS HOLD 'Lib.compact zs', THEN ZERO VALUES up to the old length; all else is as it was, but for the count of draws. IN THE WORDS OF slices.Sort's CONTRACT ('Holds', 'putRow'): so the everyday 'slices.Sort(xs); xs = slices.Compact(xs)' goes from the one contract to the other. It asks 'zs.length ≤ cap' (every slice's: the reslicing 's[:k]' looks at it). Length 0, nil: '.._empty'. (LAID: no walk: one application.) -/
theorem sh_slices_Compact_int (blk off cap : Nat) (zs : List Int) (w : World) (hH : Holds (Value.int .i64) w blk off zs.toArray) (hsz : zs.length ≤ 9223372036854775807) (hcap : zs.length ≤ cap) :
    Calls Try.prog 81 #[.slice (some ⟨blk, off, none⟩) zs.length cap] w fun e w' => e = .returned (.slice (some ⟨blk, off, none⟩) (Lib.compact zs).length cap) ∧ ∃ q, w' = putRow (Value.int .i64) (Sort.ahead w q) blk off (Lib.compact zs ++ List.replicate (zs.length - (Lib.compact zs).length) 0).toArray := Any.slices_Compact_int sh_laysNm220 blk off cap zs w hH hsz hcap
open Go.RowKit Go.Lib Go.Sort in
/-- The same at a slice of length 0, a nil one too: it comes back as it is. (LAID: no walk: one application.) -/
theorem sh_slices_Compact_int_empty (a : Option Addr) (cap : Nat) (w : World) :
    Calls Try.prog 81 #[.slice a 0 cap] w fun e w' => e = .returned (.slice a 0 cap) ∧ w' = w := Any.slices_Compact_int_empty sh_laysNm220 a cap w
open Go.RowKit Go.Sort in
/-- .. and plain. (LAID: no walk: one application.) -/
theorem sh_slices_Sort_int_none (p : Option Addr) (cap : Nat) (w : World) :
    Calls Try.prog 80 #[.slice p 0 cap] w fun e w' => e = .returned (.tuple #[]) ∧ w' = w := Any.slices_Sort_int_none sh_lays189 p cap w
end
def m_slices_IndexFunc_api_TNode_api_TNode_l1 (s1 : (List ApiTNode)) (f1 : (ApiTNode → Option Bool)) : Nat → Int → Option (Out Int Unit)
  | 0, _ => none
  | n + 1, x1 =>
    bif (decide (x1 < (s1.length : Int))) then
      (idx s1 x1).bind fun x2 =>
      (f1 x2).bind fun x3 =>
      bif x3 then
        some (Out.ret x1)
      else
        grd (InR (x1 + 1)) <|
        m_slices_IndexFunc_api_TNode_api_TNode_l1 s1 f1 n (x1 + 1)
    else
      some (Out.go (()))
def m_slices_IndexFunc_api_TNode_api_TNode (s1 : (List ApiTNode)) (f1 : (ApiTNode → Option Bool)) : Option Int :=
  ((m_slices_IndexFunc_api_TNode_api_TNode_l1 s1 f1 FU 0 : Option (Out Int Unit))).bind (fun oo => oo.on (fun r1 => some r1) (fun _ =>
  some (-1)))
theorem w_slices_IndexFunc_api_TNode_api_TNode {s1 : (List ApiTNode)} {f1 : (ApiTNode → Option Bool)} {r_1 : Int} {fv_f1 : D} (hff1 : FunOk1 Try.prog fv_f1 ApiTNode.d D.bool f1) (hm : m_slices_IndexFunc_api_TNode_api_TNode s1 f1 = some r_1) : Fn0 Try.prog 112 [.list 4 ApiTNode.d s1, fv_f1] (.i64 r_1) := by
  unfold m_slices_IndexFunc_api_TNode_api_TNode at hm
  refine fn_intro Try.func112 rfl Try.ntmps112 rfl fun H0 fr w0 => ?_
  refine g_seq ?_
  refine g_region ?_
  refine go_p rfl rfl rfl (o_assign rfl) ?_
  refine go_nil ?_
  refine g_seq ?_
  refine g_seq ?_
  refine g_region ?_
  refine go_p rfl rfl rfl (o_move rfl) ?_
  refine go_p rfl rfl rfl (o_len Try.runUnderlying51 rfl) ?_
  refine go_p rfl rfl rfl (o_move rfl) ?_
  refine go_nil ?_
  obtain ⟨o_1, hj1, hm1⟩ := bind_some hm
  refine g_cut_m [] [] (fun (st : Unit) (hid : Unit) => match st, hid with | _, _ => []) (fun F (st : Unit) (hid : Unit) => match st, hid with | _, _ => []) (fun st => Out.go (st) = o_1) trivial trivial ?_ ?_
  · skip
    refine g_block ?_
    refine g_loop_m [(0, _), (1, _), (7, _)] [] (fun (st : Int) (hid : Unit) => match st, hid with | x1, _ => [(8, .i64 x1)]) (fun F (st : Int) (hid : Unit) => match st, hid with | x1, _ => []) () hj1 (fun _ => rfl) ⟨rfl, rfl, rfl, trivial⟩ trivial ⟨rfl, trivial⟩ rfl ?_
    rintro n x1 _ hj1
    rw [m_slices_IndexFunc_api_TNode_api_TNode_l1] at hj1
    refine g_norm (L' := [(8, .i64 x1), (0, _), (1, _), (7, _)]) (ms' := []) rfl rfl ?_
    refine g_seq ?_
    refine g_region ?_
    refine go_p rfl rfl rfl (o_cmp rfl rfl rfl) ?_
    refine go_nil ?_
    refine g_seq ?_
    refine g_cond rfl (fun hc1 => ?_) (fun hc1 => ?_)
    · replace hj1 := cond_t hc1 hj1
      refine g_skip ?_
      refine g_seq ?_
      refine g_block ?_
      refine g_seq ?_
      refine g_region ?_
      refine go_p rfl rfl rfl (o_move rfl) ?_
      refine go_p rfl rfl rfl (o_assign rfl) ?_
      refine go_nil ?_
      refine g_seq ?_
      refine g_region ?_
      refine go_p rfl rfl rfl (o_move rfl) ?_
      refine go_p rfl rfl rfl (o_move rfl) ?_
      refine go_p rfl rfl rfl (o_move rfl) ?_
      obtain ⟨x2, hx1, hj1⟩ := bind_some hj1
      refine go_p rfl rfl rfl (o_indexAddr_m Try.runUnderlying51 Try.sizeOf56 rfl rfl hx1) ?_
      refine go_p rfl rfl rfl (o_load_agg Try.isAgg56 Try.sizeOf56 rfl rfl) ?_
      obtain ⟨x3, hx2, hj1⟩ := bind_some hj1
      refine go_p rfl rfl rfl (o_callv0 rfl rfl (hff1 _ _ hx2)) ?_
      refine go_nil ?_
      refine g_cond rfl (fun hc2 => ?_) (fun hc2 => ?_)
      · replace hj1 := cond_t hc2 hj1
        refine g_seq ?_
        refine g_region ?_
        refine go_p rfl rfl rfl (o_move rfl) ?_
        refine go_p rfl rfl rfl (o_assign rfl) ?_
        refine go_nil ?_
        refine g_ret ?_
        obtain rfl := some_eq hj1
        replace hm1 := on_ret hm1
        exact retK (ret_one' rfl (ret_tmp rfl) (perm_drop _)) (congrArg (fun (p : Int) => (.i64 p : D)) (some_eq hm1))
      · replace hj1 := cond_f hc2 hj1
        refine g_skip ?_
        refine g_region ?_
        obtain ⟨hg3, hj1⟩ := grd_some hj1
        refine go_p rfl rfl rfl (o_add rfl rfl (i64_id hg3)) ?_
        refine go_p rfl rfl rfl (o_move rfl) ?_
        refine go_nil ?_
        exact ⟨_, (), hj1, ⟨rfl, trivial⟩, ⟨rfl, rfl, rfl, trivial⟩, [], rfl⟩
    · replace hj1 := cond_f hc1 hj1
      refine g_exit ?_
      exact ⟨_, (), some_eq hj1, trivial, trivial, [], rfl⟩
  · rintro _ _ hst
    subst hst
    replace hm1 := on_go hm1
    refine k_norm (L' := []) (ms' := []) rfl rfl ?_
    refine g_seq ?_
    refine g_region ?_
    refine go_p rfl rfl rfl (o_assign rfl) ?_
    refine go_nil ?_
    refine g_ret ?_
    exact retK (ret_one' rfl (ret_tmp rfl) (perm_drop _)) (congrArg (fun (p : Int) => (.i64 p : D)) (some_eq hm1))
def m_slices_ContainsFunc_api_TNode_api_TNode (s1 : (List ApiTNode)) (f1 : (ApiTNode → Option Bool)) : Option Bool :=
  (m_slices_IndexFunc_api_TNode_api_TNode s1 f1).bind fun x1 =>
  some (decide (0 ≤ x1))
theorem w_slices_ContainsFunc_api_TNode_api_TNode {s1 : (List ApiTNode)} {f1 : (ApiTNode → Option Bool)} {r_1 : Bool} {fv_f1 : D} (hff1 : FunOk1 Try.prog fv_f1 ApiTNode.d D.bool f1) (hm : m_slices_ContainsFunc_api_TNode_api_TNode s1 f1 = some r_1) : Fn0 Try.prog 73 [.list 4 ApiTNode.d s1, fv_f1] (.bool r_1) := by
  unfold m_slices_ContainsFunc_api_TNode_api_TNode at hm
  refine fn_intro Try.func73 rfl Try.ntmps73 rfl fun H0 fr w0 => ?_
  refine g_seq ?_
  refine g_region ?_
  refine go_p rfl rfl rfl (o_assign rfl) ?_
  refine go_nil ?_
  refine g_seq ?_
  refine g_region ?_
  refine go_p rfl rfl rfl (o_move rfl) ?_
  refine go_p rfl rfl rfl (o_move rfl) ?_
  obtain ⟨x1, hx1, hm⟩ := bind_some hm
  refine go_p rfl rfl rfl (o_call0 Try.call112 rfl (w_slices_IndexFunc_api_TNode_api_TNode hff1 hx1)) ?_
  refine go_p rfl rfl rfl (o_cmp rfl rfl rfl) ?_
  refine go_p rfl rfl rfl (o_assign rfl) ?_
  refine go_nil ?_
  refine g_ret ?_
  exact retK (ret_one' rfl (ret_tmp rfl) (perm_drop _)) (congrArg (fun (p : Bool) => (.bool p : D)) (some_eq hm))
def m_graph_pair (kind1 : Int) : Option Bool :=
  some (((decide (kind1 = 6)) || (decide (kind1 = 9))) || (decide (kind1 = 10)))
theorem w_graph_pair {kind1 : Int} {r_1 : Bool} (hm : m_graph_pair kind1 = some r_1) : Fn0 Try.prog 77 [.i64 kind1] (.bool r_1) := by
  unfold m_graph_pair at hm
  refine fn_intro Try.func77 rfl Try.ntmps77 rfl fun H0 fr w0 => ?_
  refine g_seq ?_
  refine g_region ?_
  refine go_p rfl rfl rfl (o_assign rfl) ?_
  refine go_nil ?_
  refine g_seq ?_
  refine g_region ?_
  refine go_p rfl rfl rfl (o_move rfl) ?_
  refine go_p rfl rfl rfl (o_cmp rfl rfl rfl) ?_
  refine go_p rfl rfl rfl (o_move rfl) ?_
  apply go_or [(0, _)] 3 8 (t := 5) ⟨rfl, trivial⟩ rfl
  · intro hg_1 hk1
    refine go_wantp rfl rfl rfl hg_1 rfl rfl (o_move rfl) ?_
    refine go_wantp rfl rfl rfl hg_1 rfl rfl (o_cmp rfl rfl rfl) ?_
    refine go_p rfl rfl rfl (o_pickF rfl hg_1 rfl) ?_
    exact go_meet hk1 (rfl) ⟨rfl, trivial⟩
  · intro hg_1 hk1
    refine go_skip rfl rfl rfl hg_1 rfl rfl ?_
    refine go_skip rfl rfl rfl hg_1 rfl rfl ?_
    refine go_p rfl rfl rfl (o_pickT rfl hg_1 rfl) ?_
    exact go_meet hk1 (rfl) ⟨rfl, trivial⟩
  refine go_p rfl rfl rfl (o_move rfl) ?_
  apply go_or [] 3 12 (t := 9) trivial rfl
  · intro hg_2 hk2
    refine go_wantp rfl rfl rfl hg_2 rfl rfl (o_move rfl) ?_
    refine go_wantp rfl rfl rfl hg_2 rfl rfl (o_cmp rfl rfl rfl) ?_
    refine go_p rfl rfl rfl (o_pickF rfl hg_2 rfl) ?_
    exact go_meet hk2 (rfl) trivial
  · intro hg_2 hk2
    refine go_skip rfl rfl rfl hg_2 rfl rfl ?_
    refine go_skip rfl rfl rfl hg_2 rfl rfl ?_
    refine go_p rfl rfl rfl (o_pickT rfl hg_2 rfl) ?_
    exact go_meet hk2 (rfl) trivial
  refine go_p rfl rfl rfl (o_assign rfl) ?_
  refine go_nil ?_
  refine g_ret ?_
  exact retK (ret_one' rfl (ret_tmp rfl) (perm_drop _)) (congrArg (fun (p : Bool) => (.bool p : D)) (some_eq hm))
def m_graph_wide (kind1 : Int) : Option Bool :=
  some ((decide (kind1 = 7)) || (decide (kind1 = 8)))
theorem w_graph_wide {kind1 : Int} {r_1 : Bool} (hm : m_graph_wide kind1 = some r_1) : Fn0 Try.prog 78 [.i64 kind1] (.bool r_1) := by
  unfold m_graph_wide at hm
  refine fn_intro Try.func78 rfl Try.ntmps78 rfl fun H0 fr w0 => ?_
  refine g_seq ?_
  refine g_region ?_
  refine go_p rfl rfl rfl (o_assign rfl) ?_
  refine go_nil ?_
  refine g_seq ?_
  refine g_region ?_
  refine go_p rfl rfl rfl (o_move rfl) ?_
  refine go_p rfl rfl rfl (o_cmp rfl rfl rfl) ?_
  refine go_p rfl rfl rfl (o_move rfl) ?_
  apply go_or [] 3 8 (t := 5) trivial rfl
  · intro hg_1 hk1
    refine go_wantp rfl rfl rfl hg_1 rfl rfl (o_move rfl) ?_
    refine go_wantp rfl rfl rfl hg_1 rfl rfl (o_cmp rfl rfl rfl) ?_
    refine go_p rfl rfl rfl (o_pickF rfl hg_1 rfl) ?_
    exact go_meet hk1 (rfl) trivial
  · intro hg_1 hk1
    refine go_skip rfl rfl rfl hg_1 rfl rfl ?_
    refine go_skip rfl rfl rfl hg_1 rfl rfl ?_
    refine go_p rfl rfl rfl (o_pickT rfl hg_1 rfl) ?_
    exact go_meet hk1 (rfl) trivial
  refine go_p rfl rfl rfl (o_assign rfl) ?_
  refine go_nil ?_
  refine g_ret ?_
  exact retK (ret_one' rfl (ret_tmp rfl) (perm_drop _)) (congrArg (fun (p : Bool) => (.bool p : D)) (some_eq hm))
theorem fi_56_0 : FieldIs Try.prog 56 0 0 1 false := ⟨⟨_, _, Try.runUnderlying56, rfl, rfl, Try.sizeOf3, by decide, Try.isAgg3⟩⟩
theorem fi_56_1 : FieldIs Try.prog 56 1 1 1 false := ⟨⟨_, _, Try.runUnderlying56, rfl, rfl, Try.sizeOf3, by decide, Try.isAgg3⟩⟩
theorem fi_56_2 : FieldIs Try.prog 56 2 2 1 false := ⟨⟨_, _, Try.runUnderlying56, rfl, rfl, Try.sizeOf3, by decide, Try.isAgg3⟩⟩
theorem fi_56_3 : FieldIs Try.prog 56 3 3 1 false := ⟨⟨_, _, Try.runUnderlying56, rfl, rfl, Try.sizeOf54, by decide, Try.isAgg54⟩⟩
theorem fi_100_1 : FieldIs Try.prog 100 1 1 1 false := ⟨⟨_, _, Try.runUnderlying100, rfl, rfl, Try.sizeOf3, by decide, Try.isAgg3⟩⟩
def m_graph_Kids_l1 (n1 : ApiTNode) : Nat → (Int × (List Int)) → Option (List Int)
  | 0, _ => none
  | n + 1, (x3, l2) =>
    bif (decide (x3 < (n1.l.length : Int))) then
      (idx n1.l x3).bind fun x4 =>
      grd ((l2.length + ([x4.at_] : List _).length) * 8 ≤ 140737488355328) <|
      grd (InR (x3 + 1)) <|
      m_graph_Kids_l1 n1 n ((x3 + 1), (l2 ++ [x4.at_]))
    else
      some l2
def m_graph_Kids (n1 : ApiTNode) : Option (List Int) :=
  (m_graph_pair n1.kind).bind fun x1 =>
  bif x1 then
    some [n1.a, n1.b]
  else
    (m_graph_wide n1.kind).bind fun x2 =>
    bif x2 then
      (m_graph_Kids_l1 n1 FU (0, []) : Option (List Int)).bind fun l1 =>
      some l1
    else
      some []
theorem w_graph_Kids {n1 : ApiTNode} {r_1 : (List Int)} (hm : m_graph_Kids n1 = some r_1) : Fn0 Try.prog 32 [ApiTNode.d n1] (.list 1 D.i64 r_1) := by
  unfold m_graph_Kids at hm
  refine fn_intro Try.func32 rfl Try.ntmps32 rfl fun H0 fr w0 => ?_
  refine g_seq ?_
  refine g_region ?_
  refine go_p rfl rfl rfl (o_box rfl rfl) ?_
  refine go_p rfl rfl rfl (o_assign rfl) ?_
  refine go_conv (nilE (i := 2) (sz := 1) (f := D.i64) rfl).refines ?_
  refine go_nil ?_
  refine g_seq ?_
  refine g_seq ?_
  refine g_region ?_
  refine go_p rfl rfl rfl (o_fieldAddr fi_56_0 rfl rfl rfl) ?_
  refine go_p rfl rfl rfl (o_load Try.isAgg3 rfl rfl) ?_
  obtain ⟨x1, hx1, hm⟩ := bind_some hm
  refine go_p rfl rfl rfl (o_call0 Try.call77 rfl (w_graph_pair hx1)) ?_
  refine go_nil ?_
  refine g_cond rfl (fun hc1 => ?_) (fun hc1 => ?_)
  · replace hm := cond_t hc1 hm
    refine g_seq ?_
    refine g_region ?_
    refine go_p rfl rfl rfl (o_fieldAddr fi_56_1 rfl rfl rfl) ?_
    refine go_p rfl rfl rfl (o_load Try.isAgg3 rfl rfl) ?_
    refine go_p rfl rfl rfl (o_fieldAddr fi_56_2 rfl rfl rfl) ?_
    refine go_p rfl rfl rfl (o_load Try.isAgg3 rfl rfl) ?_
    refine go_p rfl rfl rfl (o_buildSlice (xs := [_, _]) (f := D.i64) (l := [_, _]) Try.runUnderlying28 Try.sizeOf3 Try.zeroValue3 rfl rfl rfl (fun _ => ⟨rfl, rfl, rfl⟩) rfl) ?_
    refine go_p rfl rfl rfl (o_assign rfl) ?_
    refine go_nil ?_
    refine g_ret ?_
    exact retK (ret_one' rfl (ret_tmp rfl) (perm_drop _)) (congrArg (fun (p : (List Int)) => (.list 1 D.i64 p : D)) (some_eq hm))
  · replace hm := cond_f hc1 hm
    refine g_skip ?_
    refine g_seq ?_
    refine g_region ?_
    refine go_p rfl rfl rfl (o_assign rfl) ?_
    refine go_conv (refines_newrow (T := 3) (sz := 1) (f := D.i64)) ?_
    refine go_nil ?_
    refine g_seq ?_
    refine g_seq ?_
    refine g_region ?_
    refine go_p rfl rfl rfl (o_fieldAddr fi_56_0 rfl rfl rfl) ?_
    refine go_p rfl rfl rfl (o_load Try.isAgg3 rfl rfl) ?_
    obtain ⟨x2, hx2, hm⟩ := bind_some hm
    refine go_p rfl rfl rfl (o_call0 Try.call78 rfl (w_graph_wide hx2)) ?_
    refine go_nil ?_
    refine g_cond rfl (fun hc2 => ?_) (fun hc2 => ?_)
    · replace hm := cond_t hc2 hm
      refine g_seq ?_
      refine g_region ?_
      refine go_p rfl rfl rfl (o_fieldAddr fi_56_3 rfl rfl rfl) ?_
      refine go_p rfl rfl rfl (o_load Try.isAgg54 rfl rfl) ?_
      refine go_p rfl rfl rfl (o_len Try.runUnderlying54 rfl) ?_
      refine go_p rfl rfl rfl (o_move rfl) ?_
      refine go_nil ?_
      obtain ⟨o_1, hj1, hm1⟩ := bind_some hm
      refine g_cut_m [] [] (fun (st : (List Int)) (hid : (Option Addr × Nat)) => match st, hid with | l1, (a_r1, cap_r1) => [(3, .v (.slice a_r1 l1.length cap_r1))]) (fun F (st : (List Int)) (hid : (Option Addr × Nat)) => match st, hid with | l1, (a_r1, cap_r1) => [row a_r1 cap_r1 3 1 D.i64 l1]) (fun st => st = o_1) trivial trivial ?_ ?_
      · skip
        refine g_block ?_
        refine g_loop_m [(18, _), (19, _)] [] (fun (st : (Int × (List Int))) (hid : (Option Addr × Nat)) => match st, hid with | (x3, l2), (a_r1, cap_r1) => [(3, .v (.slice a_r1 l2.length cap_r1)), (20, .i64 x3)]) (fun F (st : (Int × (List Int))) (hid : (Option Addr × Nat)) => match st, hid with | (x3, l2), (a_r1, cap_r1) => [row a_r1 cap_r1 3 1 D.i64 l2]) (_, _) hj1 (fun _ => rfl) ⟨rfl, rfl, trivial⟩ trivial ⟨rfl, rfl, trivial⟩ rfl ?_
        rintro n ⟨x3, l2⟩ ⟨a_r1, cap_r1⟩ hj1
        rw [m_graph_Kids_l1] at hj1
        refine g_norm (L' := [(3, .v (.slice a_r1 l2.length cap_r1)), (20, .i64 x3), (18, _), (19, _)]) (ms' := [row a_r1 cap_r1 3 1 D.i64 l2]) rfl rfl ?_
        refine g_seq ?_
        refine g_region ?_
        refine go_p rfl rfl rfl (o_cmp rfl rfl rfl) ?_
        refine go_nil ?_
        refine g_seq ?_
        refine g_cond rfl (fun hc3 => ?_) (fun hc3 => ?_)
        · replace hj1 := cond_t hc3 hj1
          refine g_skip ?_
          refine g_seq ?_
          refine g_block ?_
          refine g_seq ?_
          refine g_region ?_
          obtain ⟨x4, hx3, hj1⟩ := bind_some hj1
          refine go_p rfl rfl rfl (o_indexAddr_m Try.runUnderlying54 Try.sizeOf100 rfl rfl hx3) ?_
          refine go_p rfl rfl rfl (o_load_agg Try.isAgg100 Try.sizeOf100 rfl rfl) ?_
          refine go_op rfl rfl rfl (o_alloc_own Try.zeroValue100 (cs := [.str ([] : List UInt8), .i64 0]) rfl) ?_
          rintro _ _ ⟨b1, rfl, rfl⟩
          refine go_u rfl rfl (o_store_box 0 Try.sizeOf100 rfl rfl rfl rfl rfl rfl rfl rfl (Nat.le_of_ble_eq_true rfl)) ?_
          rintro _ _ rfl
          refine go_ms (ms' := [box b1 100 [_, _], _]) rfl ?_
          refine go_nil ?_
          refine g_region ?_
          refine go_p rfl rfl rfl (o_move rfl) ?_
          refine go_p rfl rfl rfl (o_fieldAddr_box fi_100_1 rfl) ?_
          refine go_p rfl rfl rfl (o_load_box 0 Try.isAgg3 rfl rfl rfl rfl) ?_
          refine go_p rfl rfl rfl (o_buildSlice (xs := [_]) (f := D.i64) (l := [_]) Try.runUnderlying28 Try.sizeOf3 Try.zeroValue3 rfl rfl rfl (fun _ => ⟨rfl, rfl, rfl⟩) rfl) ?_
          obtain ⟨hg4, hj1⟩ := grd_some hj1
          refine go_op rfl rfl rfl (o_append (a := _) 1 Try.underlying28 Try.type3 rfl rfl rfl rfl rfl rfl rfl (fun _ => rfl) (fun _ => rfl) hg4 (app_len hg4 rfl)) ?_
          rintro _ _ ⟨a_r1, cap_r1, rfl, rfl⟩
          refine go_ms (ms' := [box b1 100 [_, _], _]) rfl ?_
          refine go_p rfl rfl rfl (o_assign rfl) ?_
          refine go_nil ?_
          refine g_region ?_
          obtain ⟨hg5, hj1⟩ := grd_some hj1
          refine go_p rfl rfl rfl (o_add rfl rfl (i64_id hg5)) ?_
          refine go_p rfl rfl rfl (o_move rfl) ?_
          refine go_nil ?_
          exact ⟨_, (_, _), hj1, ⟨rfl, rfl, trivial⟩, ⟨rfl, rfl, trivial⟩, [_], rfl⟩
        · replace hj1 := cond_f hc3 hj1
          refine g_exit ?_
          exact ⟨_, (_, _), some_eq hj1, ⟨rfl, trivial⟩, trivial, [], rfl⟩
      · rintro l1 ⟨a_r1, cap_r1⟩ hst
        subst hst
        refine k_norm (L' := [(3, .v (.slice a_r1 l1.length cap_r1))]) (ms' := [row a_r1 cap_r1 3 1 D.i64 l1]) rfl rfl ?_
        refine g_seq ?_
        refine g_region ?_
        refine go_p rfl rfl rfl (o_move rfl) ?_
        refine go_p rfl rfl rfl (o_assign rfl) ?_
        refine go_nil ?_
        refine g_conv (peekE (i := 2) 0 rfl rfl rfl).refines ?_
        refine g_ret ?_
        exact retK (ret_one' rfl (ret_tmp rfl) (perm_drop _)) (congrArg (fun (p : (List Int)) => (.list 1 D.i64 p : D)) (some_eq hm1))
    · replace hm := cond_f hc2 hm
      refine g_skip ?_
      refine g_seq ?_
      refine g_region ?_
      refine go_p rfl rfl rfl (o_move rfl) ?_
      refine go_p rfl rfl rfl (o_assign rfl) ?_
      refine go_nil ?_
      refine g_conv (peekE (i := 2) 0 rfl rfl rfl).refines ?_
      refine g_ret ?_
      exact retK (ret_one' rfl (ret_tmp rfl) (perm_drop _)) (congrArg (fun (p : (List Int)) => (.list 1 D.i64 p : D)) (some_eq hm))
def m_name_small (c1 : UInt8) : Option Bool :=
  some (((decide (97 ≤ (c1.toNat : Int))) && (decide ((c1.toNat : Int) ≤ 122))) || (decide ((c1.toNat : Int) = 95)))
theorem w_name_small {c1 : UInt8} {r_1 : Bool} (hm : m_name_small c1 = some r_1) : Fn0 Try.prog 163 [.u8 c1] (.bool r_1) := by
  unfold m_name_small at hm
  refine fn_intro Try.func163 rfl Try.ntmps163 rfl fun H0 fr w0 => ?_
  refine g_seq ?_
  refine g_region ?_
  refine go_p rfl rfl rfl (o_assign rfl) ?_
  refine go_nil ?_
  refine g_seq ?_
  refine g_region ?_
  refine go_p rfl rfl rfl (o_move rfl) ?_
  refine go_p rfl rfl rfl (o_cmp rfl rfl rfl) ?_
  refine go_p rfl rfl rfl (o_move rfl) ?_
  apply go_and [(0, _)] 3 8 (t := 5) ⟨rfl, trivial⟩ rfl
  · intro hg_1 hk1
    refine go_wantp rfl rfl rfl hg_1 rfl rfl (o_move rfl) ?_
    refine go_wantp rfl rfl rfl hg_1 rfl rfl (o_cmp rfl rfl rfl) ?_
    refine go_p rfl rfl rfl (o_pickT rfl hg_1 rfl) ?_
    exact go_meet hk1 (rfl) ⟨rfl, trivial⟩
  · intro hg_1 hk1
    refine go_skip rfl rfl rfl hg_1 rfl rfl ?_
    refine go_skip rfl rfl rfl hg_1 rfl rfl ?_
    refine go_p rfl rfl rfl (o_pickF rfl hg_1 rfl) ?_
    exact go_meet hk1 (rfl) ⟨rfl, trivial⟩
  refine go_p rfl rfl rfl (o_move rfl) ?_
  apply go_or [] 3 12 (t := 9) trivial rfl
  · intro hg_2 hk2
    refine go_wantp rfl rfl rfl hg_2 rfl rfl (o_move rfl) ?_
    refine go_wantp rfl rfl rfl hg_2 rfl rfl (o_cmp rfl rfl rfl) ?_
    refine go_p rfl rfl rfl (o_pickF rfl hg_2 rfl) ?_
    exact go_meet hk2 (rfl) trivial
  · intro hg_2 hk2
    refine go_skip rfl rfl rfl hg_2 rfl rfl ?_
    refine go_skip rfl rfl rfl hg_2 rfl rfl ?_
    refine go_p rfl rfl rfl (o_pickT rfl hg_2 rfl) ?_
    exact go_meet hk2 (rfl) trivial
  refine go_p rfl rfl rfl (o_assign rfl) ?_
  refine go_nil ?_
  refine g_ret ?_
  exact retK (ret_one' rfl (ret_tmp rfl) (perm_drop _)) (congrArg (fun (p : Bool) => (.bool p : D)) (some_eq hm))
def m_name_great (c1 : UInt8) : Option Bool :=
  some ((decide (65 ≤ (c1.toNat : Int))) && (decide ((c1.toNat : Int) ≤ 90)))
theorem w_name_great {c1 : UInt8} {r_1 : Bool} (hm : m_name_great c1 = some r_1) : Fn0 Try.prog 165 [.u8 c1] (.bool r_1) := by
  unfold m_name_great at hm
  refine fn_intro Try.func165 rfl Try.ntmps165 rfl fun H0 fr w0 => ?_
  refine g_seq ?_
  refine g_region ?_
  refine go_p rfl rfl rfl (o_assign rfl) ?_
  refine go_nil ?_
  refine g_seq ?_
  refine g_region ?_
  refine go_p rfl rfl rfl (o_move rfl) ?_
  refine go_p rfl rfl rfl (o_cmp rfl rfl rfl) ?_
  refine go_p rfl rfl rfl (o_move rfl) ?_
  apply go_and [] 3 8 (t := 5) trivial rfl
  · intro hg_1 hk1
    refine go_wantp rfl rfl rfl hg_1 rfl rfl (o_move rfl) ?_
    refine go_wantp rfl rfl rfl hg_1 rfl rfl (o_cmp rfl rfl rfl) ?_
    refine go_p rfl rfl rfl (o_pickT rfl hg_1 rfl) ?_
    exact go_meet hk1 (rfl) trivial
  · intro hg_1 hk1
    refine go_skip rfl rfl rfl hg_1 rfl rfl ?_
    refine go_skip rfl rfl rfl hg_1 rfl rfl ?_
    refine go_p rfl rfl rfl (o_pickF rfl hg_1 rfl) ?_
    exact go_meet hk1 (rfl) trivial
  refine go_p rfl rfl rfl (o_assign rfl) ?_
  refine go_nil ?_
  refine g_ret ?_
  exact retK (ret_one' rfl (ret_tmp rfl) (perm_drop _)) (congrArg (fun (p : Bool) => (.bool p : D)) (some_eq hm))
def m_name_more (c1 : UInt8) : Option Bool :=
  (m_name_small c1).bind fun x1 =>
  (bif x1 then (some true) else ((m_name_great c1).bind fun x2 =>
  some x2)).bind fun p1 =>
  some (p1 || ((decide (48 ≤ (c1.toNat : Int))) && (decide ((c1.toNat : Int) ≤ 57))))
theorem w_name_more {c1 : UInt8} {r_1 : Bool} (hm : m_name_more c1 = some r_1) : Fn0 Try.prog 197 [.u8 c1] (.bool r_1) := by
  unfold m_name_more at hm
  refine fn_intro Try.func197 rfl Try.ntmps197 rfl fun H0 fr w0 => ?_
  refine g_seq ?_
  refine g_region ?_
  refine go_p rfl rfl rfl (o_assign rfl) ?_
  refine go_nil ?_
  refine g_seq ?_
  refine g_region ?_
  refine go_p rfl rfl rfl (o_move rfl) ?_
  obtain ⟨x1, hx1, hm⟩ := bind_some hm
  refine go_p rfl rfl rfl (o_call0 Try.call163 rfl (w_name_small hx1)) ?_
  refine go_p rfl rfl rfl (o_move rfl) ?_
  obtain ⟨p1, hp_1, hm⟩ := bind_some hm
  refine go_two [(0, _)] 3 8 p1 (t := 5) ⟨rfl, trivial⟩ rfl (fun hg_1 hk1 => ?_) (fun hg_1 hk1 => ?_) ?_
  · replace hp_1 := cond_t hg_1 hp_1
    refine go_skip rfl rfl rfl hg_1 rfl rfl ?_
    refine go_skip rfl rfl rfl hg_1 rfl rfl ?_
    refine go_p rfl rfl rfl (o_pickT rfl hg_1 rfl) ?_
    exact go_meet hk1 (congrArg (fun b => some (D.bool b)) (some_eq hp_1)) ⟨rfl, trivial⟩
  · replace hp_1 := cond_f hg_1 hp_1
    refine go_wantp rfl rfl rfl hg_1 rfl rfl (o_move rfl) ?_
    obtain ⟨x2, hx2, hp_1⟩ := bind_some hp_1
    refine go_wantp rfl rfl rfl hg_1 rfl rfl (o_call0 Try.call165 rfl (w_name_great hx2)) ?_
    refine go_p rfl rfl rfl (o_pickF rfl hg_1 rfl) ?_
    exact go_meet hk1 (congrArg (fun b => some (D.bool b)) (some_eq hp_1)) ⟨rfl, trivial⟩
  refine go_p rfl rfl rfl (o_move rfl) ?_
  apply go_or [] 7 16 (t := 9) trivial rfl
  · intro hg_2 hk2
    refine go_wantp rfl rfl rfl hg_2 rfl rfl (o_move rfl) ?_
    refine go_wantp rfl rfl rfl hg_2 rfl rfl (o_cmp rfl rfl rfl) ?_
    refine go_wantp rfl rfl rfl hg_2 rfl rfl (o_move rfl) ?_
    apply go_and [(9, _)] 3 15 (t := 12) ⟨rfl, trivial⟩ rfl
    · intro hg_3 hk3
      refine go_wantp rfl rfl rfl hg_3 rfl rfl (o_move rfl) ?_
      refine go_wantp rfl rfl rfl hg_3 rfl rfl (o_cmp rfl rfl rfl) ?_
      refine go_wantp rfl rfl rfl hg_2 rfl rfl (o_pickT rfl hg_3 rfl) ?_
      exact go_meet hk3 (rfl) ⟨rfl, trivial⟩
    · intro hg_3 hk3
      refine go_skip rfl rfl rfl hg_3 rfl rfl ?_
      refine go_skip rfl rfl rfl hg_3 rfl rfl ?_
      refine go_wantp rfl rfl rfl hg_2 rfl rfl (o_pickF rfl hg_3 rfl) ?_
      exact go_meet hk3 (rfl) ⟨rfl, trivial⟩
    refine go_p rfl rfl rfl (o_pickF rfl hg_2 rfl) ?_
    exact go_meet hk2 (rfl) trivial
  · intro hg_2 hk2
    refine go_skip rfl rfl rfl hg_2 rfl rfl ?_
    refine go_skip rfl rfl rfl hg_2 rfl rfl ?_
    refine go_skip rfl rfl rfl hg_2 rfl rfl ?_
    refine go_skipu rfl rfl rfl rfl rfl ?_
    refine go_skipu rfl rfl rfl rfl rfl ?_
    refine go_skip rfl rfl rfl hg_2 rfl rfl ?_
    refine go_p rfl rfl rfl (o_pickT rfl hg_2 rfl) ?_
    exact go_meet hk2 (rfl) trivial
  refine go_p rfl rfl rfl (o_assign rfl) ?_
  refine go_nil ?_
  refine g_ret ?_
  exact retK (ret_one' rfl (ret_tmp rfl) (perm_drop _)) (congrArg (fun (p : Bool) => (.bool p : D)) (some_eq hm))
def m_name_Word_l1 (s1 : (List UInt8)) : Nat → Int → Option Int
  | 0, _ => none
  | n + 1, n2 =>
    (bif (decide (n2 < (s1.length : Int))) then ((idx s1 n2).bind fun c3 =>
    (m_name_more c3).bind fun x3 =>
    some x3) else (some false)).bind fun p3 =>
    bif p3 then
      grd (InR (n2 + 1)) <|
      m_name_Word_l1 s1 n (n2 + 1)
    else
      some n2
def m_name_Word (s1 : (List UInt8)) : Option Int :=
  (bif (decide ((s1 : List UInt8) = ([] : List UInt8))) then (some true) else ((idx s1 0).bind fun c1 =>
  (m_name_small c1).bind fun x1 =>
  (bif (!x1) then ((idx s1 0).bind fun c2 =>
  (m_name_great c2).bind fun x2 =>
  some (!x2)) else (some false)).bind fun p2 =>
  some p2)).bind fun p1 =>
  bif p1 then
    some 0
  else
    (m_name_Word_l1 s1 FU 1 : Option Int).bind fun n1 =>
    some n1
theorem w_name_Word {s1 : (List UInt8)} {r_1 : Int} (hm : m_name_Word s1 = some r_1) : Fn0 Try.prog 189 [.str s1] (.i64 r_1) := by
  unfold m_name_Word at hm
  refine fn_intro Try.func189 rfl Try.ntmps189 rfl fun H0 fr w0 => ?_
  refine g_seq ?_
  refine g_region ?_
  refine go_p rfl rfl rfl (o_assign rfl) ?_
  refine go_nil ?_
  refine g_seq ?_
  refine g_seq ?_
  refine g_region ?_
  refine go_p rfl rfl rfl (o_move rfl) ?_
  refine go_p rfl rfl rfl (o_cmps rfl rfl rfl) ?_
  refine go_p rfl rfl rfl (o_move rfl) ?_
  obtain ⟨p1, hp_1, hm⟩ := bind_some hm
  refine go_two [(0, _)] 11 17 p1 (t := 6) ⟨rfl, trivial⟩ rfl (fun hg_1 hk1 => ?_) (fun hg_1 hk1 => ?_) ?_
  · replace hp_1 := cond_t hg_1 hp_1
    refine go_skip rfl rfl rfl hg_1 rfl rfl ?_
    refine go_skip rfl rfl rfl hg_1 rfl rfl ?_
    refine go_skip rfl rfl rfl hg_1 rfl rfl ?_
    refine go_skip rfl rfl rfl hg_1 rfl rfl ?_
    refine go_skip rfl rfl rfl hg_1 rfl rfl ?_
    refine go_skipu rfl rfl rfl rfl rfl ?_
    refine go_skipu rfl rfl rfl rfl rfl ?_
    refine go_skipu rfl rfl rfl rfl rfl ?_
    refine go_skipu rfl rfl rfl rfl rfl ?_
    refine go_skip rfl rfl rfl hg_1 rfl rfl ?_
    refine go_p rfl rfl rfl (o_pickT rfl hg_1 rfl) ?_
    exact go_meet hk1 (congrArg (fun b => some (D.bool b)) (some_eq hp_1)) ⟨rfl, trivial⟩
  · replace hp_1 := cond_f hg_1 hp_1
    refine go_wantp rfl rfl rfl hg_1 rfl rfl (o_move rfl) ?_
    obtain ⟨c1, hx1, hp_1⟩ := bind_some hp_1
    refine go_wantp rfl rfl rfl hg_1 rfl rfl (o_index_m Try.runUnderlying9 rfl rfl hx1) ?_
    obtain ⟨x1, hx2, hp_1⟩ := bind_some hp_1
    refine go_wantp rfl rfl rfl hg_1 rfl rfl (o_call0 Try.call163 rfl (w_name_small hx2)) ?_
    refine go_wantp rfl rfl rfl hg_1 rfl rfl (o_not rfl) ?_
    refine go_wantp rfl rfl rfl hg_1 rfl rfl (o_move rfl) ?_
    obtain ⟨p2, hp_2, hp_1⟩ := bind_some hp_1
    refine go_two [(0, _), (6, _)] 5 16 p2 (t := 11) ⟨rfl, rfl, trivial⟩ rfl (fun hg_2 hk2 => ?_) (fun hg_2 hk2 => ?_) ?_
    · replace hp_2 := cond_t hg_2 hp_2
      refine go_wantp rfl rfl rfl hg_2 rfl rfl (o_move rfl) ?_
      obtain ⟨c2, hx3, hp_2⟩ := bind_some hp_2
      refine go_wantp rfl rfl rfl hg_2 rfl rfl (o_index_m Try.runUnderlying9 rfl rfl hx3) ?_
      obtain ⟨x2, hx4, hp_2⟩ := bind_some hp_2
      refine go_wantp rfl rfl rfl hg_2 rfl rfl (o_call0 Try.call165 rfl (w_name_great hx4)) ?_
      refine go_wantp rfl rfl rfl hg_2 rfl rfl (o_not rfl) ?_
      refine go_wantp rfl rfl rfl hg_1 rfl rfl (o_pickT rfl hg_2 rfl) ?_
      exact go_meet hk2 (congrArg (fun b => some (D.bool b)) (some_eq hp_2)) ⟨rfl, rfl, trivial⟩
    · replace hp_2 := cond_f hg_2 hp_2
      refine go_skip rfl rfl rfl hg_2 rfl rfl ?_
      refine go_skip rfl rfl rfl hg_2 rfl rfl ?_
      refine go_skip rfl rfl rfl hg_2 rfl rfl ?_
      refine go_skip rfl rfl rfl hg_2 rfl rfl ?_
      refine go_wantp rfl rfl rfl hg_1 rfl rfl (o_pickF rfl hg_2 rfl) ?_
      exact go_meet hk2 (congrArg (fun b => some (D.bool b)) (some_eq hp_2)) ⟨rfl, rfl, trivial⟩
    refine go_p rfl rfl rfl (o_pickF rfl hg_1 rfl) ?_
    exact go_meet hk1 (congrArg (fun b => some (D.bool b)) (some_eq hp_1)) ⟨rfl, trivial⟩
  refine go_nil ?_
  refine g_cond rfl (fun hc1 => ?_) (fun hc1 => ?_)
  · replace hm := cond_t hc1 hm
    refine g_seq ?_
    refine g_region ?_
    refine go_p rfl rfl rfl (o_assign rfl) ?_
    refine go_nil ?_
    refine g_ret ?_
    exact retK (ret_one' rfl (ret_tmp rfl) (perm_drop _)) (congrArg (fun (p : Int) => (.i64 p : D)) (some_eq hm))
  · replace hm := cond_f hc1 hm
    refine g_skip ?_
    refine g_seq ?_
    refine g_region ?_
    refine go_p rfl rfl rfl (o_assign rfl) ?_
    refine go_nil ?_
    refine g_seq ?_
    obtain ⟨o_1, hj1, hm1⟩ := bind_some hm
    refine g_cut_m [] [] (fun (st : Int) (hid : Unit) => match st, hid with | n1, _ => [(3, .i64 n1)]) (fun F (st : Int) (hid : Unit) => match st, hid with | n1, _ => []) (fun st => st = o_1) trivial trivial ?_ ?_
    · skip
      refine g_block ?_
      refine g_loop_m [(0, _)] [] (fun (st : Int) (hid : Unit) => match st, hid with | n2, _ => [(3, .i64 n2)]) (fun F (st : Int) (hid : Unit) => match st, hid with | n2, _ => []) () hj1 (fun _ => rfl) ⟨rfl, trivial⟩ trivial ⟨rfl, trivial⟩ rfl ?_
      rintro n n2 _ hj1
      rw [m_name_Word_l1] at hj1
      refine g_norm (L' := [(3, .i64 n2), (0, _)]) (ms' := []) rfl rfl ?_
      refine g_seq ?_
      refine g_seq ?_
      refine g_region ?_
      refine go_p rfl rfl rfl (o_move rfl) ?_
      refine go_p rfl rfl rfl (o_move rfl) ?_
      refine go_p rfl rfl rfl (o_len_str Try.runUnderlying9 rfl) ?_
      refine go_p rfl rfl rfl (o_cmp rfl rfl rfl) ?_
      refine go_p rfl rfl rfl (o_move rfl) ?_
      obtain ⟨p3, hp_3, hj1⟩ := bind_some hj1
      refine go_two [(0, _), (3, _)] 5 27 p3 (t := 22) ⟨rfl, rfl, trivial⟩ rfl (fun hg_3 hk3 => ?_) (fun hg_3 hk3 => ?_) ?_
      · replace hp_3 := cond_t hg_3 hp_3
        refine go_wantp rfl rfl rfl hg_3 rfl rfl (o_move rfl) ?_
        refine go_wantp rfl rfl rfl hg_3 rfl rfl (o_move rfl) ?_
        obtain ⟨c3, hx5, hp_3⟩ := bind_some hp_3
        refine go_wantp rfl rfl rfl hg_3 rfl rfl (o_index_m Try.runUnderlying9 rfl rfl hx5) ?_
        obtain ⟨x3, hx6, hp_3⟩ := bind_some hp_3
        refine go_wantp rfl rfl rfl hg_3 rfl rfl (o_call0 Try.call197 rfl (w_name_more hx6)) ?_
        refine go_p rfl rfl rfl (o_pickT rfl hg_3 rfl) ?_
        exact go_meet hk3 (congrArg (fun b => some (D.bool b)) (some_eq hp_3)) ⟨rfl, rfl, trivial⟩
      · replace hp_3 := cond_f hg_3 hp_3
        refine go_skip rfl rfl rfl hg_3 rfl rfl ?_
        refine go_skip rfl rfl rfl hg_3 rfl rfl ?_
        refine go_skip rfl rfl rfl hg_3 rfl rfl ?_
        refine go_skip rfl rfl rfl hg_3 rfl rfl ?_
        refine go_p rfl rfl rfl (o_pickF rfl hg_3 rfl) ?_
        exact go_meet hk3 (congrArg (fun b => some (D.bool b)) (some_eq hp_3)) ⟨rfl, rfl, trivial⟩
      refine go_nil ?_
      refine g_cond rfl (fun hc2 => ?_) (fun hc2 => ?_)
      · replace hj1 := cond_t hc2 hj1
        refine g_skip ?_
        refine g_block ?_
        refine g_region ?_
        refine go_p rfl rfl rfl (o_move rfl) ?_
        obtain ⟨hg7, hj1⟩ := grd_some hj1
        refine go_p rfl rfl rfl (o_add rfl rfl (i64_id hg7)) ?_
        refine go_p rfl rfl rfl (o_assign rfl) ?_
        refine go_nil ?_
        exact ⟨_, (), hj1, ⟨rfl, trivial⟩, ⟨rfl, trivial⟩, [], rfl⟩
      · replace hj1 := cond_f hc2 hj1
        refine g_exit ?_
        exact ⟨_, (), some_eq hj1, ⟨rfl, trivial⟩, trivial, [], rfl⟩
    · rintro n1 _ hst
      subst hst
      refine k_norm (L' := [(3, .i64 n1)]) (ms' := []) rfl rfl ?_
      refine g_seq ?_
      refine g_region ?_
      refine go_p rfl rfl rfl (o_move rfl) ?_
      refine go_p rfl rfl rfl (o_assign rfl) ?_
      refine go_nil ?_
      refine g_ret ?_
      exact retK (ret_one' rfl (ret_tmp rfl) (perm_drop _)) (congrArg (fun (p : Int) => (.i64 p : D)) (some_eq hm1))
def m_name_whole (s1 : (List UInt8)) : Option Bool :=
  (bif ((!decide ((s1 : List UInt8) = ([] : List UInt8))) && (decide ((s1.length : Int) ≤ 20))) then ((m_name_Word s1).bind fun x1 =>
  some (decide (x1 = (s1.length : Int)))) else (some false)).bind fun p1 =>
  some p1
theorem w_name_whole {s1 : (List UInt8)} {r_1 : Bool} (hm : m_name_whole s1 = some r_1) : Fn0 Try.prog 162 [.str s1] (.bool r_1) := by
  unfold m_name_whole at hm
  refine fn_intro Try.func162 rfl Try.ntmps162 rfl fun H0 fr w0 => ?_
  refine g_seq ?_
  refine g_region ?_
  refine go_p rfl rfl rfl (o_assign rfl) ?_
  refine go_nil ?_
  refine g_seq ?_
  refine g_region ?_
  refine go_p rfl rfl rfl (o_move rfl) ?_
  refine go_p rfl rfl rfl (o_cmps rfl rfl rfl) ?_
  refine go_p rfl rfl rfl (o_move rfl) ?_
  apply go_and [(0, _)] 4 9 (t := 5) ⟨rfl, trivial⟩ rfl
  · intro hg_1 hk1
    refine go_wantp rfl rfl rfl hg_1 rfl rfl (o_move rfl) ?_
    refine go_wantp rfl rfl rfl hg_1 rfl rfl (o_len_str Try.runUnderlying9 rfl) ?_
    refine go_wantp rfl rfl rfl hg_1 rfl rfl (o_cmp rfl rfl rfl) ?_
    refine go_p rfl rfl rfl (o_pickT rfl hg_1 rfl) ?_
    exact go_meet hk1 (rfl) ⟨rfl, trivial⟩
  · intro hg_1 hk1
    refine go_skip rfl rfl rfl hg_1 rfl rfl ?_
    refine go_skip rfl rfl rfl hg_1 rfl rfl ?_
    refine go_skip rfl rfl rfl hg_1 rfl rfl ?_
    refine go_p rfl rfl rfl (o_pickF rfl hg_1 rfl) ?_
    exact go_meet hk1 (rfl) ⟨rfl, trivial⟩
  refine go_p rfl rfl rfl (o_move rfl) ?_
  obtain ⟨p1, hp_2, hm⟩ := bind_some hm
  refine go_two [] 6 16 p1 (t := 10) trivial rfl (fun hg_2 hk2 => ?_) (fun hg_2 hk2 => ?_) ?_
  · replace hp_2 := cond_t hg_2 hp_2
    refine go_wantp rfl rfl rfl hg_2 rfl rfl (o_move rfl) ?_
    obtain ⟨x1, hx1, hp_2⟩ := bind_some hp_2
    refine go_wantp rfl rfl rfl hg_2 rfl rfl (o_call0 Try.call189 rfl (w_name_Word hx1)) ?_
    refine go_wantp rfl rfl rfl hg_2 rfl rfl (o_move rfl) ?_
    refine go_wantp rfl rfl rfl hg_2 rfl rfl (o_len_str Try.runUnderlying9 rfl) ?_
    refine go_wantp rfl rfl rfl hg_2 rfl rfl (o_cmp rfl rfl rfl) ?_
    refine go_p rfl rfl rfl (o_pickT rfl hg_2 rfl) ?_
    exact go_meet hk2 (congrArg (fun b => some (D.bool b)) (some_eq hp_2)) trivial
  · replace hp_2 := cond_f hg_2 hp_2
    refine go_skip rfl rfl rfl hg_2 rfl rfl ?_
    refine go_skip rfl rfl rfl hg_2 rfl rfl ?_
    refine go_skip rfl rfl rfl hg_2 rfl rfl ?_
    refine go_skip rfl rfl rfl hg_2 rfl rfl ?_
    refine go_skip rfl rfl rfl hg_2 rfl rfl ?_
    refine go_p rfl rfl rfl (o_pickF rfl hg_2 rfl) ?_
    exact go_meet hk2 (congrArg (fun b => some (D.bool b)) (some_eq hp_2)) trivial
  refine go_p rfl rfl rfl (o_assign rfl) ?_
  refine go_nil ?_
  refine g_ret ?_
  exact retK (ret_one' rfl (ret_tmp rfl) (perm_drop _)) (congrArg (fun (p : Bool) => (.bool p : D)) (some_eq hm))
def m_slices_Index_string_string_l1 (s1 : (List (List UInt8))) (v1 : (List UInt8)) : Nat → Int → Option (Out Int Unit)
  | 0, _ => none
  | n + 1, x1 =>
    bif (decide (x1 < (s1.length : Int))) then
      (idx s1 x1).bind fun x2 =>
      bif (decide ((v1 : List UInt8) = x2)) then
        some (Out.ret x1)
      else
        grd (InR (x1 + 1)) <|
        m_slices_Index_string_string_l1 s1 v1 n (x1 + 1)
    else
      some (Out.go (()))
def m_slices_Index_string_string (s1 : (List (List UInt8))) (v1 : (List UInt8)) : Option Int :=
  ((m_slices_Index_string_string_l1 s1 v1 FU 0 : Option (Out Int Unit))).bind (fun oo => oo.on (fun r1 => some r1) (fun _ =>
  some (-1)))
theorem w_slices_Index_string_string {s1 : (List (List UInt8))} {v1 : (List UInt8)} {r_1 : Int} (hm : m_slices_Index_string_string s1 v1 = some r_1) : Fn0 Try.prog 198 [.list 1 D.str s1, .str v1] (.i64 r_1) := by
  unfold m_slices_Index_string_string at hm
  refine fn_intro Try.func198 rfl Try.ntmps198 rfl fun H0 fr w0 => ?_
  refine g_seq ?_
  refine g_region ?_
  refine go_p rfl rfl rfl (o_assign rfl) ?_
  refine go_nil ?_
  refine g_seq ?_
  refine g_seq ?_
  refine g_region ?_
  refine go_p rfl rfl rfl (o_move rfl) ?_
  refine go_p rfl rfl rfl (o_len Try.runUnderlying41 rfl) ?_
  refine go_p rfl rfl rfl (o_move rfl) ?_
  refine go_nil ?_
  obtain ⟨o_1, hj1, hm1⟩ := bind_some hm
  refine g_cut_m [] [] (fun (st : Unit) (hid : Unit) => match st, hid with | _, _ => []) (fun F (st : Unit) (hid : Unit) => match st, hid with | _, _ => []) (fun st => Out.go (st) = o_1) trivial trivial ?_ ?_
  · skip
    refine g_block ?_
    refine g_loop_m [(0, _), (1, _), (7, _)] [] (fun (st : Int) (hid : Unit) => match st, hid with | x1, _ => [(8, .i64 x1)]) (fun F (st : Int) (hid : Unit) => match st, hid with | x1, _ => []) () hj1 (fun _ => rfl) ⟨rfl, rfl, rfl, trivial⟩ trivial ⟨rfl, trivial⟩ rfl ?_
    rintro n x1 _ hj1
    rw [m_slices_Index_string_string_l1] at hj1
    refine g_norm (L' := [(8, .i64 x1), (0, _), (1, _), (7, _)]) (ms' := []) rfl rfl ?_
    refine g_seq ?_
    refine g_region ?_
    refine go_p rfl rfl rfl (o_cmp rfl rfl rfl) ?_
    refine go_nil ?_
    refine g_seq ?_
    refine g_cond rfl (fun hc1 => ?_) (fun hc1 => ?_)
    · replace hj1 := cond_t hc1 hj1
      refine g_skip ?_
      refine g_seq ?_
      refine g_block ?_
      refine g_seq ?_
      refine g_region ?_
      refine go_p rfl rfl rfl (o_move rfl) ?_
      refine go_p rfl rfl rfl (o_assign rfl) ?_
      refine go_nil ?_
      refine g_seq ?_
      refine g_region ?_
      refine go_p rfl rfl rfl (o_move rfl) ?_
      refine go_p rfl rfl rfl (o_move rfl) ?_
      refine go_p rfl rfl rfl (o_move rfl) ?_
      obtain ⟨x2, hx1, hj1⟩ := bind_some hj1
      refine go_p rfl rfl rfl (o_indexAddr_m Try.runUnderlying41 Try.sizeOf9 rfl rfl hx1) ?_
      refine go_p rfl rfl rfl (o_load Try.isAgg9 rfl rfl) ?_
      refine go_p rfl rfl rfl (o_cmps rfl rfl rfl) ?_
      refine go_nil ?_
      refine g_cond rfl (fun hc2 => ?_) (fun hc2 => ?_)
      · replace hj1 := cond_t hc2 hj1
        refine g_seq ?_
        refine g_region ?_
        refine go_p rfl rfl rfl (o_move rfl) ?_
        refine go_p rfl rfl rfl (o_assign rfl) ?_
        refine go_nil ?_
        refine g_ret ?_
        obtain rfl := some_eq hj1
        replace hm1 := on_ret hm1
        exact retK (ret_one' rfl (ret_tmp rfl) (perm_drop _)) (congrArg (fun (p : Int) => (.i64 p : D)) (some_eq hm1))
      · replace hj1 := cond_f hc2 hj1
        refine g_skip ?_
        refine g_region ?_
        obtain ⟨hg2, hj1⟩ := grd_some hj1
        refine go_p rfl rfl rfl (o_add rfl rfl (i64_id hg2)) ?_
        refine go_p rfl rfl rfl (o_move rfl) ?_
        refine go_nil ?_
        exact ⟨_, (), hj1, ⟨rfl, trivial⟩, ⟨rfl, rfl, rfl, trivial⟩, [], rfl⟩
    · replace hj1 := cond_f hc1 hj1
      refine g_exit ?_
      exact ⟨_, (), some_eq hj1, trivial, trivial, [], rfl⟩
  · rintro _ _ hst
    subst hst
    replace hm1 := on_go hm1
    refine k_norm (L' := []) (ms' := []) rfl rfl ?_
    refine g_seq ?_
    refine g_region ?_
    refine go_p rfl rfl rfl (o_assign rfl) ?_
    refine go_nil ?_
    refine g_ret ?_
    exact retK (ret_one' rfl (ret_tmp rfl) (perm_drop _)) (congrArg (fun (p : Int) => (.i64 p : D)) (some_eq hm1))
def m_slices_Contains_string_string (s1 : (List (List UInt8))) (v1 : (List UInt8)) : Option Bool :=
  (m_slices_Index_string_string s1 v1).bind fun x1 =>
  some (decide (0 ≤ x1))
theorem w_slices_Contains_string_string {s1 : (List (List UInt8))} {v1 : (List UInt8)} {r_1 : Bool} (hm : m_slices_Contains_string_string s1 v1 = some r_1) : Fn0 Try.prog 190 [.list 1 D.str s1, .str v1] (.bool r_1) := by
  unfold m_slices_Contains_string_string at hm
  refine fn_intro Try.func190 rfl Try.ntmps190 rfl fun H0 fr w0 => ?_
  refine g_seq ?_
  refine g_region ?_
  refine go_p rfl rfl rfl (o_assign rfl) ?_
  refine go_nil ?_
  refine g_seq ?_
  refine g_region ?_
  refine go_p rfl rfl rfl (o_move rfl) ?_
  refine go_p rfl rfl rfl (o_move rfl) ?_
  obtain ⟨x1, hx1, hm⟩ := bind_some hm
  refine go_p rfl rfl rfl (o_call0 Try.call198 rfl (w_slices_Index_string_string hx1)) ?_
  refine go_p rfl rfl rfl (o_cmp rfl rfl rfl) ?_
  refine go_p rfl rfl rfl (o_assign rfl) ?_
  refine go_nil ?_
  refine g_ret ?_
  exact retK (ret_one' rfl (ret_tmp rfl) (perm_drop _)) (congrArg (fun (p : Bool) => (.bool p : D)) (some_eq hm))
def m_name_Keywords  : Option (List (List UInt8)) :=
  some [([102, 117, 110] : List UInt8), ([108, 101, 116] : List UInt8), ([114, 101, 99] : List UInt8), ([105, 110] : List UInt8), ([105, 102] : List UInt8), ([116, 104, 101, 110] : List UInt8), ([101, 108, 115, 101] : List UInt8), ([99, 97, 115, 101] : List UInt8), ([111, 102] : List UInt8), ([101, 110, 100] : List UInt8), ([116, 114, 117, 101] : List UInt8), ([102, 97, 108, 115, 101] : List UInt8), ([99, 104, 101, 99, 107] : List UInt8), ([97, 115, 107] : List UInt8), ([116, 111, 112] : List UInt8), ([98, 111, 116] : List UInt8), ([105, 110, 116] : List UInt8), ([98, 111, 111, 108] : List UInt8), ([115, 116, 114, 105, 110, 103] : List UInt8), ([109, 117] : List UInt8)]
theorem w_name_Keywords  {r_1 : (List (List UInt8))} (hm : m_name_Keywords = some r_1) : Fn0 Try.prog 191 [] (.list 1 D.str r_1) := by
  unfold m_name_Keywords at hm
  refine fn_intro Try.func191 rfl Try.ntmps191 rfl fun H0 fr w0 => ?_
  refine g_seq ?_
  refine g_region ?_
  refine go_p rfl rfl rfl (o_assign rfl) ?_
  refine go_conv (nilE (i := 0) (sz := 1) (f := D.str) rfl).refines ?_
  refine go_nil ?_
  refine g_seq ?_
  refine g_region ?_
  refine go_p rfl rfl rfl (o_buildSlice (xs := [_, _, _, _, _, _, _, _, _, _, _, _, _, _, _, _, _, _, _, _]) (f := D.str) (l := [_, _, _, _, _, _, _, _, _, _, _, _, _, _, _, _, _, _, _, _]) Try.runUnderlying41 Try.sizeOf9 Try.zeroValue9 rfl rfl rfl (fun _ => ⟨rfl, rfl, rfl⟩) rfl) ?_
  refine go_p rfl rfl rfl (o_assign rfl) ?_
  refine go_nil ?_
  refine g_ret ?_
  exact retK (ret_one' rfl (ret_tmp rfl) (perm_drop _)) (congrArg (fun (p : (List (List UInt8))) => (.list 1 D.str p : D)) (some_eq hm))
def m_name_Keyword (s1 : (List UInt8)) : Option Bool :=
  (m_name_Keywords).bind fun x1 =>
  (m_slices_Contains_string_string x1 s1).bind fun x2 =>
  some x2
theorem w_name_Keyword {s1 : (List UInt8)} {r_1 : Bool} (hm : m_name_Keyword s1 = some r_1) : Fn0 Try.prog 164 [.str s1] (.bool r_1) := by
  unfold m_name_Keyword at hm
  refine fn_intro Try.func164 rfl Try.ntmps164 rfl fun H0 fr w0 => ?_
  refine g_seq ?_
  refine g_region ?_
  refine go_p rfl rfl rfl (o_assign rfl) ?_
  refine go_nil ?_
  refine g_seq ?_
  refine g_region ?_
  obtain ⟨x1, hx1, hm⟩ := bind_some hm
  refine go_p rfl rfl rfl (o_call0 Try.call191 rfl (w_name_Keywords hx1)) ?_
  refine go_p rfl rfl rfl (o_move rfl) ?_
  obtain ⟨x2, hx2, hm⟩ := bind_some hm
  refine go_p rfl rfl rfl (o_call0 Try.call190 rfl (w_slices_Contains_string_string hx2)) ?_
  refine go_p rfl rfl rfl (o_assign rfl) ?_
  refine go_nil ?_
  refine g_ret ?_
  exact retK (ret_one' rfl (ret_tmp rfl) (perm_drop _)) (congrArg (fun (p : Bool) => (.bool p : D)) (some_eq hm))
def m_name_Name (s1 : (List UInt8)) : Option Bool :=
  (m_name_whole s1).bind fun x1 =>
  (bif x1 then ((idx s1 0).bind fun c1 =>
  (m_name_small c1).bind fun x2 =>
  some x2) else (some false)).bind fun p1 =>
  (bif p1 then ((m_name_Keyword s1).bind fun x3 =>
  some (!x3)) else (some false)).bind fun p2 =>
  some p2
theorem w_name_Name {s1 : (List UInt8)} {r_1 : Bool} (hm : m_name_Name s1 = some r_1) : Fn0 Try.prog 132 [.str s1] (.bool r_1) := by
  unfold m_name_Name at hm
  refine fn_intro Try.func132 rfl Try.ntmps132 rfl fun H0 fr w0 => ?_
  refine g_seq ?_
  refine g_region ?_
  refine go_p rfl rfl rfl (o_assign rfl) ?_
  refine go_nil ?_
  refine g_seq ?_
  refine g_region ?_
  refine go_p rfl rfl rfl (o_move rfl) ?_
  obtain ⟨x1, hx1, hm⟩ := bind_some hm
  refine go_p rfl rfl rfl (o_call0 Try.call162 rfl (w_name_whole hx1)) ?_
  refine go_p rfl rfl rfl (o_move rfl) ?_
  obtain ⟨p1, hp_1, hm⟩ := bind_some hm
  refine go_two [(0, _)] 4 9 p1 (t := 5) ⟨rfl, trivial⟩ rfl (fun hg_1 hk1 => ?_) (fun hg_1 hk1 => ?_) ?_
  · replace hp_1 := cond_t hg_1 hp_1
    refine go_wantp rfl rfl rfl hg_1 rfl rfl (o_move rfl) ?_
    obtain ⟨c1, hx2, hp_1⟩ := bind_some hp_1
    refine go_wantp rfl rfl rfl hg_1 rfl rfl (o_index_m Try.runUnderlying9 rfl rfl hx2) ?_
    obtain ⟨x2, hx3, hp_1⟩ := bind_some hp_1
    refine go_wantp rfl rfl rfl hg_1 rfl rfl (o_call0 Try.call163 rfl (w_name_small hx3)) ?_
    refine go_p rfl rfl rfl (o_pickT rfl hg_1 rfl) ?_
    exact go_meet hk1 (congrArg (fun b => some (D.bool b)) (some_eq hp_1)) ⟨rfl, trivial⟩
  · replace hp_1 := cond_f hg_1 hp_1
    refine go_skip rfl rfl rfl hg_1 rfl rfl ?_
    refine go_skip rfl rfl rfl hg_1 rfl rfl ?_
    refine go_skip rfl rfl rfl hg_1 rfl rfl ?_
    refine go_p rfl rfl rfl (o_pickF rfl hg_1 rfl) ?_
    exact go_meet hk1 (congrArg (fun b => some (D.bool b)) (some_eq hp_1)) ⟨rfl, trivial⟩
  refine go_p rfl rfl rfl (o_move rfl) ?_
  obtain ⟨p2, hp_2, hm⟩ := bind_some hm
  refine go_two [] 4 14 p2 (t := 10) trivial rfl (fun hg_2 hk2 => ?_) (fun hg_2 hk2 => ?_) ?_
  · replace hp_2 := cond_t hg_2 hp_2
    refine go_wantp rfl rfl rfl hg_2 rfl rfl (o_move rfl) ?_
    obtain ⟨x3, hx4, hp_2⟩ := bind_some hp_2
    refine go_wantp rfl rfl rfl hg_2 rfl rfl (o_call0 Try.call164 rfl (w_name_Keyword hx4)) ?_
    refine go_wantp rfl rfl rfl hg_2 rfl rfl (o_not rfl) ?_
    refine go_p rfl rfl rfl (o_pickT rfl hg_2 rfl) ?_
    exact go_meet hk2 (congrArg (fun b => some (D.bool b)) (some_eq hp_2)) trivial
  · replace hp_2 := cond_f hg_2 hp_2
    refine go_skip rfl rfl rfl hg_2 rfl rfl ?_
    refine go_skip rfl rfl rfl hg_2 rfl rfl ?_
    refine go_skip rfl rfl rfl hg_2 rfl rfl ?_
    refine go_p rfl rfl rfl (o_pickF rfl hg_2 rfl) ?_
    exact go_meet hk2 (congrArg (fun b => some (D.bool b)) (some_eq hp_2)) trivial
  refine go_p rfl rfl rfl (o_assign rfl) ?_
  refine go_nil ?_
  refine g_ret ?_
  exact retK (ret_one' rfl (ret_tmp rfl) (perm_drop _)) (congrArg (fun (p : Bool) => (.bool p : D)) (some_eq hm))
def m_name_Tag (s1 : (List UInt8)) : Option Bool :=
  (m_name_whole s1).bind fun x1 =>
  (bif x1 then ((idx s1 0).bind fun c1 =>
  (m_name_great c1).bind fun x2 =>
  some x2) else (some false)).bind fun p1 =>
  some p1
theorem w_name_Tag {s1 : (List UInt8)} {r_1 : Bool} (hm : m_name_Tag s1 = some r_1) : Fn0 Try.prog 133 [.str s1] (.bool r_1) := by
  unfold m_name_Tag at hm
  refine fn_intro Try.func133 rfl Try.ntmps133 rfl fun H0 fr w0 => ?_
  refine g_seq ?_
  refine g_region ?_
  refine go_p rfl rfl rfl (o_assign rfl) ?_
  refine go_nil ?_
  refine g_seq ?_
  refine g_region ?_
  refine go_p rfl rfl rfl (o_move rfl) ?_
  obtain ⟨x1, hx1, hm⟩ := bind_some hm
  refine go_p rfl rfl rfl (o_call0 Try.call162 rfl (w_name_whole hx1)) ?_
  refine go_p rfl rfl rfl (o_move rfl) ?_
  obtain ⟨p1, hp_1, hm⟩ := bind_some hm
  refine go_two [] 4 9 p1 (t := 5) trivial rfl (fun hg_1 hk1 => ?_) (fun hg_1 hk1 => ?_) ?_
  · replace hp_1 := cond_t hg_1 hp_1
    refine go_wantp rfl rfl rfl hg_1 rfl rfl (o_move rfl) ?_
    obtain ⟨c1, hx2, hp_1⟩ := bind_some hp_1
    refine go_wantp rfl rfl rfl hg_1 rfl rfl (o_index_m Try.runUnderlying9 rfl rfl hx2) ?_
    obtain ⟨x2, hx3, hp_1⟩ := bind_some hp_1
    refine go_wantp rfl rfl rfl hg_1 rfl rfl (o_call0 Try.call165 rfl (w_name_great hx3)) ?_
    refine go_p rfl rfl rfl (o_pickT rfl hg_1 rfl) ?_
    exact go_meet hk1 (congrArg (fun b => some (D.bool b)) (some_eq hp_1)) trivial
  · replace hp_1 := cond_f hg_1 hp_1
    refine go_skip rfl rfl rfl hg_1 rfl rfl ?_
    refine go_skip rfl rfl rfl hg_1 rfl rfl ?_
    refine go_skip rfl rfl rfl hg_1 rfl rfl ?_
    refine go_p rfl rfl rfl (o_pickF rfl hg_1 rfl) ?_
    exact go_meet hk1 (congrArg (fun b => some (D.bool b)) (some_eq hp_1)) trivial
  refine go_p rfl rfl rfl (o_assign rfl) ?_
  refine go_nil ?_
  refine g_ret ?_
  exact retK (ret_one' rfl (ret_tmp rfl) (perm_drop _)) (congrArg (fun (p : Bool) => (.bool p : D)) (some_eq hm))
theorem fi_100_0 : FieldIs Try.prog 100 0 0 1 false := ⟨⟨_, _, Try.runUnderlying100, rfl, rfl, Try.sizeOf9, by decide, Try.isAgg9⟩⟩
def m_graph_named_l1 (n1 : ApiTNode) : Nat → Int → Option (Out Bool Unit)
  | 0, _ => none
  | n + 1, x1 =>
    bif (decide (x1 < (n1.l.length : Int))) then
      (idx n1.l x1).bind fun x2 =>
      (bif (decide (n1.kind = 7)) then ((m_name_Name x2.name).bind fun x3 =>
      some (!x3)) else (some false)).bind fun p1 =>
      (bif p1 then (some true) else ((bif (decide (n1.kind = 8)) then ((m_name_Tag x2.name).bind fun x4 =>
      some (!x4)) else (some false)).bind fun p3 =>
      some p3)).bind fun p2 =>
      bif p2 then
        some (Out.ret false)
      else
        bif (decide (0 < x1)) then (grd (InR (x1 - 1)) <|
        (idx n1.l (x1 - 1)).bind fun x5 =>
        bif (!Op.bytesLess x5.name x2.name) then
          some (Out.ret false)
        else
          grd (InR (x1 + 1)) <|
          m_graph_named_l1 n1 n (x1 + 1)) else (grd (InR (x1 + 1)) <|
        m_graph_named_l1 n1 n (x1 + 1))
    else
      some (Out.go (()))
def m_graph_named (n1 : ApiTNode) : Option Bool :=
  ((m_graph_named_l1 n1 FU 0 : Option (Out Bool Unit))).bind (fun oo => oo.on (fun r1 => some r1) (fun _ =>
  some (decide ((n1.l.length : Int) ≤ 30))))
theorem w_graph_named {n1 : ApiTNode} {r_1 : Bool} (hm : m_graph_named n1 = some r_1) : Fn0 Try.prog 113 [ApiTNode.d n1] (.bool r_1) := by
  unfold m_graph_named at hm
  refine fn_intro Try.func113 rfl Try.ntmps113 rfl fun H0 fr w0 => ?_
  refine g_seq ?_
  refine g_region ?_
  refine go_p rfl rfl rfl (o_box rfl rfl) ?_
  refine go_p rfl rfl rfl (o_assign rfl) ?_
  refine go_nil ?_
  refine g_seq ?_
  refine g_seq ?_
  refine g_region ?_
  refine go_p rfl rfl rfl (o_fieldAddr fi_56_3 rfl rfl rfl) ?_
  refine go_p rfl rfl rfl (o_load Try.isAgg54 rfl rfl) ?_
  refine go_p rfl rfl rfl (o_len Try.runUnderlying54 rfl) ?_
  refine go_p rfl rfl rfl (o_move rfl) ?_
  refine go_nil ?_
  obtain ⟨o_1, hj1, hm1⟩ := bind_some hm
  refine g_cut_m [(1, _)] [] (fun (st : Unit) (hid : Unit) => match st, hid with | _, _ => []) (fun F (st : Unit) (hid : Unit) => match st, hid with | _, _ => []) (fun st => Out.go (st) = o_1) ⟨rfl, trivial⟩ trivial ?_ ?_
  · skip
    refine g_block ?_
    refine g_loop_m [(1, _), (6, _), (7, _)] [] (fun (st : Int) (hid : Unit) => match st, hid with | x1, _ => [(8, .i64 x1)]) (fun F (st : Int) (hid : Unit) => match st, hid with | x1, _ => []) () hj1 (fun _ => rfl) ⟨rfl, rfl, rfl, trivial⟩ trivial ⟨rfl, trivial⟩ rfl ?_
    rintro n x1 _ hj1
    rw [m_graph_named_l1] at hj1
    refine g_norm (L' := [(8, .i64 x1), (1, _), (6, _), (7, _)]) (ms' := []) rfl rfl ?_
    refine g_seq ?_
    refine g_region ?_
    refine go_p rfl rfl rfl (o_cmp rfl rfl rfl) ?_
    refine go_nil ?_
    refine g_seq ?_
    refine g_cond rfl (fun hc1 => ?_) (fun hc1 => ?_)
    · replace hj1 := cond_t hc1 hj1
      refine g_skip ?_
      refine g_seq ?_
      refine g_block ?_
      refine g_seq ?_
      refine g_region ?_
      refine go_p rfl rfl rfl (o_move rfl) ?_
      obtain ⟨x2, hx1, hj1⟩ := bind_some hj1
      refine go_p rfl rfl rfl (o_indexAddr_m Try.runUnderlying54 Try.sizeOf100 rfl rfl hx1) ?_
      refine go_p rfl rfl rfl (o_load_agg Try.isAgg100 Try.sizeOf100 rfl rfl) ?_
      refine go_op rfl rfl rfl (o_alloc_own Try.zeroValue100 (cs := [.str ([] : List UInt8), .i64 0]) rfl) ?_
      rintro _ _ ⟨b1, rfl, rfl⟩
      refine go_p rfl rfl rfl (o_assign rfl) ?_
      refine go_u rfl rfl (o_store_box 0 Try.sizeOf100 rfl rfl rfl rfl rfl rfl rfl rfl (Nat.le_of_ble_eq_true rfl)) ?_
      rintro _ _ rfl
      refine go_ms (ms' := [box b1 100 [_, _]]) rfl ?_
      refine go_nil ?_
      refine g_seq ?_
      refine g_seq ?_
      refine g_region ?_
      refine go_p rfl rfl rfl (o_fieldAddr fi_56_0 rfl rfl rfl) ?_
      refine go_p rfl rfl rfl (o_load Try.isAgg3 rfl rfl) ?_
      refine go_p rfl rfl rfl (o_cmp rfl rfl rfl) ?_
      refine go_p rfl rfl rfl (o_move rfl) ?_
      obtain ⟨p1, hp_1, hj1⟩ := bind_some hj1
      refine go_two [(1, _), (3, _), (4, _), (6, _), (7, _), (8, _)] 5 21 p1 (t := 16) ⟨rfl, rfl, rfl, rfl, rfl, rfl, trivial⟩ rfl (fun hg_1 hk1 => ?_) (fun hg_1 hk1 => ?_) ?_
      · replace hp_1 := cond_t hg_1 hp_1
        refine go_wantp rfl rfl rfl hg_1 rfl rfl (o_fieldAddr_box fi_100_0 rfl) ?_
        refine go_wantp rfl rfl rfl hg_1 rfl rfl (o_load_box 0 Try.isAgg9 rfl rfl rfl rfl) ?_
        obtain ⟨x3, hx2, hp_1⟩ := bind_some hp_1
        refine go_wantp rfl rfl rfl hg_1 rfl rfl (o_call0 Try.call132 rfl (w_name_Name hx2)) ?_
        refine go_wantp rfl rfl rfl hg_1 rfl rfl (o_not rfl) ?_
        refine go_p rfl rfl rfl (o_pickT rfl hg_1 rfl) ?_
        exact go_meet hk1 (congrArg (fun b => some (D.bool b)) (some_eq hp_1)) ⟨rfl, rfl, rfl, rfl, rfl, rfl, trivial⟩
      · replace hp_1 := cond_f hg_1 hp_1
        refine go_skip rfl rfl rfl hg_1 rfl rfl ?_
        refine go_skip rfl rfl rfl hg_1 rfl rfl ?_
        refine go_skip rfl rfl rfl hg_1 rfl rfl ?_
        refine go_skip rfl rfl rfl hg_1 rfl rfl ?_
        refine go_p rfl rfl rfl (o_pickF rfl hg_1 rfl) ?_
        exact go_meet hk1 (congrArg (fun b => some (D.bool b)) (some_eq hp_1)) ⟨rfl, rfl, rfl, rfl, rfl, rfl, trivial⟩
      refine go_p rfl rfl rfl (o_move rfl) ?_
      obtain ⟨p2, hp_2, hj1⟩ := bind_some hj1
      refine go_two [(1, _), (3, _), (4, _), (6, _), (7, _), (8, _)] 10 32 p2 (t := 22) ⟨rfl, rfl, rfl, rfl, rfl, rfl, trivial⟩ rfl (fun hg_2 hk2 => ?_) (fun hg_2 hk2 => ?_) ?_
      · replace hp_2 := cond_t hg_2 hp_2
        refine go_skip rfl rfl rfl hg_2 rfl rfl ?_
        refine go_skip rfl rfl rfl hg_2 rfl rfl ?_
        refine go_skip rfl rfl rfl hg_2 rfl rfl ?_
        refine go_skip rfl rfl rfl hg_2 rfl rfl ?_
        refine go_skipu rfl rfl rfl rfl rfl ?_
        refine go_skipu rfl rfl rfl rfl rfl ?_
        refine go_skipu rfl rfl rfl rfl rfl ?_
        refine go_skipu rfl rfl rfl rfl rfl ?_
        refine go_skip rfl rfl rfl hg_2 rfl rfl ?_
        refine go_p rfl rfl rfl (o_pickT rfl hg_2 rfl) ?_
        exact go_meet hk2 (congrArg (fun b => some (D.bool b)) (some_eq hp_2)) ⟨rfl, rfl, rfl, rfl, rfl, rfl, trivial⟩
      · replace hp_2 := cond_f hg_2 hp_2
        refine go_wantp rfl rfl rfl hg_2 rfl rfl (o_fieldAddr fi_56_0 rfl rfl rfl) ?_
        refine go_wantp rfl rfl rfl hg_2 rfl rfl (o_load Try.isAgg3 rfl rfl) ?_
        refine go_wantp rfl rfl rfl hg_2 rfl rfl (o_cmp rfl rfl rfl) ?_
        refine go_wantp rfl rfl rfl hg_2 rfl rfl (o_move rfl) ?_
        obtain ⟨p3, hp_3, hp_2⟩ := bind_some hp_2
        refine go_two [(1, _), (3, _), (4, _), (6, _), (7, _), (8, _), (22, _)] 5 31 p3 (t := 26) ⟨rfl, rfl, rfl, rfl, rfl, rfl, rfl, trivial⟩ rfl (fun hg_3 hk3 => ?_) (fun hg_3 hk3 => ?_) ?_
        · replace hp_3 := cond_t hg_3 hp_3
          refine go_wantp rfl rfl rfl hg_3 rfl rfl (o_fieldAddr_box fi_100_0 rfl) ?_
          refine go_wantp rfl rfl rfl hg_3 rfl rfl (o_load_box 0 Try.isAgg9 rfl rfl rfl rfl) ?_
          obtain ⟨x4, hx3, hp_3⟩ := bind_some hp_3
          refine go_wantp rfl rfl rfl hg_3 rfl rfl (o_call0 Try.call133 rfl (w_name_Tag hx3)) ?_
          refine go_wantp rfl rfl rfl hg_3 rfl rfl (o_not rfl) ?_
          refine go_wantp rfl rfl rfl hg_2 rfl rfl (o_pickT rfl hg_3 rfl) ?_
          exact go_meet hk3 (congrArg (fun b => some (D.bool b)) (some_eq hp_3)) ⟨rfl, rfl, rfl, rfl, rfl, rfl, rfl, trivial⟩
        · replace hp_3 := cond_f hg_3 hp_3
          refine go_skip rfl rfl rfl hg_3 rfl rfl ?_
          refine go_skip rfl rfl rfl hg_3 rfl rfl ?_
          refine go_skip rfl rfl rfl hg_3 rfl rfl ?_
          refine go_skip rfl rfl rfl hg_3 rfl rfl ?_
          refine go_wantp rfl rfl rfl hg_2 rfl rfl (o_pickF rfl hg_3 rfl) ?_
          exact go_meet hk3 (congrArg (fun b => some (D.bool b)) (some_eq hp_3)) ⟨rfl, rfl, rfl, rfl, rfl, rfl, rfl, trivial⟩
        refine go_p rfl rfl rfl (o_pickF rfl hg_2 rfl) ?_
        exact go_meet hk2 (congrArg (fun b => some (D.bool b)) (some_eq hp_2)) ⟨rfl, rfl, rfl, rfl, rfl, rfl, trivial⟩
      refine go_nil ?_
      refine g_cond rfl (fun hc2 => ?_) (fun hc2 => ?_)
      · replace hj1 := cond_t hc2 hj1
        refine g_seq ?_
        refine g_region ?_
        refine go_p rfl rfl rfl (o_assign rfl) ?_
        refine go_nil ?_
        refine g_ret ?_
        obtain rfl := some_eq hj1
        replace hm1 := on_ret hm1
        exact retK (ret_one' rfl (ret_tmp rfl) (perm_drop _)) (congrArg (fun (p : Bool) => (.bool p : D)) (some_eq hm1))
      · replace hj1 := cond_f hc2 hj1
        refine g_skip ?_
        refine g_seq ?_
        rcases cond_split hj1 with ⟨hg_4, hj1⟩ | ⟨hg_4, hj1⟩
        ·
          skip
          obtain ⟨hg4, hj1⟩ := grd_some hj1
          obtain ⟨x5, hx5, hj1⟩ := bind_some hj1
          refine g_draw 14 Try_mixed (by decide +kernel) ?_
          refine gd_p rfl rfl rfl (o_move rfl) ?_
          refine gd_p rfl rfl rfl (o_cmp rfl rfl rfl) ?_
          refine gd_p rfl rfl rfl (o_move rfl) ?_
          refine gd_want rfl rfl rfl hg_4 rfl rfl (o_fieldAddr fi_56_3 rfl rfl rfl) ?_
          refine gd_want rfl rfl rfl hg_4 rfl rfl (o_load Try.isAgg54 rfl rfl) ?_
          refine gd_want rfl rfl rfl hg_4 rfl rfl (o_move rfl) ?_
          refine gd_want rfl rfl rfl hg_4 rfl rfl (o_sub rfl rfl (i64_id hg4)) ?_
          refine gd_want rfl rfl rfl hg_4 rfl rfl (o_indexAddr_m Try.runUnderlying54 Try.sizeOf100 rfl rfl hx5) ?_
          refine gd_want rfl rfl rfl hg_4 rfl rfl (o_fieldAddr fi_100_0 rfl rfl rfl) ?_
          refine gd_want rfl rfl rfl hg_4 rfl rfl (o_load Try.isAgg9 rfl rfl) ?_
          refine gd_want rfl rfl rfl hg_4 rfl rfl (o_fieldAddr_box fi_100_0 rfl) ?_
          refine gd_want rfl rfl rfl hg_4 rfl rfl (o_load_box 0 Try.isAgg9 rfl rfl rfl rfl) ?_
          refine gd_want rfl rfl rfl hg_4 rfl rfl (o_cmps rfl rfl rfl) ?_
          refine gd_p rfl rfl rfl (o_pickT rfl hg_4 rfl) ?_
          refine gd_nil ?_
          refine go_nil ?_
          refine g_cond rfl (fun hc3 => ?_) (fun hc3 => ?_)
          · replace hj1 := cond_t hc3 hj1
            refine g_seq ?_
            refine g_region ?_
            refine go_p rfl rfl rfl (o_assign rfl) ?_
            refine go_nil ?_
            refine g_ret ?_
            obtain rfl := some_eq hj1
            replace hm1 := on_ret hm1
            exact retK (ret_one' rfl (ret_tmp rfl) (perm_drop _)) (congrArg (fun (p : Bool) => (.bool p : D)) (some_eq hm1))
          · replace hj1 := cond_f hc3 hj1
            refine g_skip ?_
            refine g_region ?_
            obtain ⟨hg6, hj1⟩ := grd_some hj1
            refine go_p rfl rfl rfl (o_add rfl rfl (i64_id hg6)) ?_
            refine go_p rfl rfl rfl (o_move rfl) ?_
            refine go_nil ?_
            exact ⟨_, (), hj1, ⟨rfl, trivial⟩, ⟨rfl, rfl, rfl, trivial⟩, [_], rfl⟩
        ·
          skip
          refine g_draw 14 Try_mixed (by decide +kernel) ?_
          refine gd_p rfl rfl rfl (o_move rfl) ?_
          refine gd_p rfl rfl rfl (o_cmp rfl rfl rfl) ?_
          refine gd_p rfl rfl rfl (o_move rfl) ?_
          refine gd_skip rfl rfl rfl hg_4 rfl rfl ?_
          refine gd_skip rfl rfl rfl hg_4 rfl rfl ?_
          refine gd_skip rfl rfl rfl hg_4 rfl rfl ?_
          refine gd_skip rfl rfl rfl hg_4 rfl rfl ?_
          refine gd_skip rfl rfl rfl hg_4 rfl rfl ?_
          refine gd_skip rfl rfl rfl hg_4 rfl rfl ?_
          refine gd_skip rfl rfl rfl hg_4 rfl rfl ?_
          refine gd_skip rfl rfl rfl hg_4 rfl rfl ?_
          refine gd_skip rfl rfl rfl hg_4 rfl rfl ?_
          refine gd_skip rfl rfl rfl hg_4 rfl rfl ?_
          refine gd_p rfl rfl rfl (o_pickF rfl hg_4 rfl) ?_
          refine gd_nil ?_
          refine go_nil ?_
          refine g_cond_false rfl rfl ?_
          refine g_skip ?_
          refine g_region ?_
          obtain ⟨hg7, hj1⟩ := grd_some hj1
          refine go_p rfl rfl rfl (o_add rfl rfl (i64_id hg7)) ?_
          refine go_p rfl rfl rfl (o_move rfl) ?_
          refine go_nil ?_
          exact ⟨_, (), hj1, ⟨rfl, trivial⟩, ⟨rfl, rfl, rfl, trivial⟩, [_], rfl⟩
    · replace hj1 := cond_f hc1 hj1
      refine g_exit ?_
      exact ⟨_, (), some_eq hj1, trivial, ⟨rfl, trivial⟩, [], rfl⟩
  · rintro _ _ hst
    subst hst
    replace hm1 := on_go hm1
    refine k_norm (L' := [(1, _)]) (ms' := []) rfl rfl ?_
    refine g_seq ?_
    refine g_region ?_
    refine go_p rfl rfl rfl (o_fieldAddr fi_56_3 rfl rfl rfl) ?_
    refine go_p rfl rfl rfl (o_load Try.isAgg54 rfl rfl) ?_
    refine go_p rfl rfl rfl (o_len Try.runUnderlying54 rfl) ?_
    refine go_p rfl rfl rfl (o_cmp rfl rfl rfl) ?_
    refine go_p rfl rfl rfl (o_assign rfl) ?_
    refine go_nil ?_
    refine g_ret ?_
    exact retK (ret_one' rfl (ret_tmp rfl) (perm_drop _)) (congrArg (fun (p : Bool) => (.bool p : D)) (some_eq hm1))
def m_slices_IndexFunc_int_int_l1 (s1 : (List Int)) (f1 : (Int → Option Bool)) : Nat → Int → Option (Out Int Unit)
  | 0, _ => none
  | n + 1, x1 =>
    bif (decide (x1 < (s1.length : Int))) then
      (idx s1 x1).bind fun x2 =>
      (f1 x2).bind fun x3 =>
      bif x3 then
        some (Out.ret x1)
      else
        grd (InR (x1 + 1)) <|
        m_slices_IndexFunc_int_int_l1 s1 f1 n (x1 + 1)
    else
      some (Out.go (()))
def m_slices_IndexFunc_int_int (s1 : (List Int)) (f1 : (Int → Option Bool)) : Option Int :=
  ((m_slices_IndexFunc_int_int_l1 s1 f1 FU 0 : Option (Out Int Unit))).bind (fun oo => oo.on (fun r1 => some r1) (fun _ =>
  some (-1)))
theorem w_slices_IndexFunc_int_int {s1 : (List Int)} {f1 : (Int → Option Bool)} {r_1 : Int} {fv_f1 : D} (hff1 : FunOk1 Try.prog fv_f1 D.i64 D.bool f1) (hm : m_slices_IndexFunc_int_int s1 f1 = some r_1) : Fn0 Try.prog 143 [.list 1 D.i64 s1, fv_f1] (.i64 r_1) := by
  unfold m_slices_IndexFunc_int_int at hm
  refine fn_intro Try.func143 rfl Try.ntmps143 rfl fun H0 fr w0 => ?_
  refine g_seq ?_
  refine g_region ?_
  refine go_p rfl rfl rfl (o_assign rfl) ?_
  refine go_nil ?_
  refine g_seq ?_
  refine g_seq ?_
  refine g_region ?_
  refine go_p rfl rfl rfl (o_move rfl) ?_
  refine go_p rfl rfl rfl (o_len Try.runUnderlying28 rfl) ?_
  refine go_p rfl rfl rfl (o_move rfl) ?_
  refine go_nil ?_
  obtain ⟨o_1, hj1, hm1⟩ := bind_some hm
  refine g_cut_m [] [] (fun (st : Unit) (hid : Unit) => match st, hid with | _, _ => []) (fun F (st : Unit) (hid : Unit) => match st, hid with | _, _ => []) (fun st => Out.go (st) = o_1) trivial trivial ?_ ?_
  · skip
    refine g_block ?_
    refine g_loop_m [(0, _), (1, _), (7, _)] [] (fun (st : Int) (hid : Unit) => match st, hid with | x1, _ => [(8, .i64 x1)]) (fun F (st : Int) (hid : Unit) => match st, hid with | x1, _ => []) () hj1 (fun _ => rfl) ⟨rfl, rfl, rfl, trivial⟩ trivial ⟨rfl, trivial⟩ rfl ?_
    rintro n x1 _ hj1
    rw [m_slices_IndexFunc_int_int_l1] at hj1
    refine g_norm (L' := [(8, .i64 x1), (0, _), (1, _), (7, _)]) (ms' := []) rfl rfl ?_
    refine g_seq ?_
    refine g_region ?_
    refine go_p rfl rfl rfl (o_cmp rfl rfl rfl) ?_
    refine go_nil ?_
    refine g_seq ?_
    refine g_cond rfl (fun hc1 => ?_) (fun hc1 => ?_)
    · replace hj1 := cond_t hc1 hj1
      refine g_skip ?_
      refine g_seq ?_
      refine g_block ?_
      refine g_seq ?_
      refine g_region ?_
      refine go_p rfl rfl rfl (o_move rfl) ?_
      refine go_p rfl rfl rfl (o_assign rfl) ?_
      refine go_nil ?_
      refine g_seq ?_
      refine g_region ?_
      refine go_p rfl rfl rfl (o_move rfl) ?_
      refine go_p rfl rfl rfl (o_move rfl) ?_
      refine go_p rfl rfl rfl (o_move rfl) ?_
      obtain ⟨x2, hx1, hj1⟩ := bind_some hj1
      refine go_p rfl rfl rfl (o_indexAddr_m Try.runUnderlying28 Try.sizeOf3 rfl rfl hx1) ?_
      refine go_p rfl rfl rfl (o_load Try.isAgg3 rfl rfl) ?_
      obtain ⟨x3, hx2, hj1⟩ := bind_some hj1
      refine go_p rfl rfl rfl (o_callv0 rfl rfl (hff1 _ _ hx2)) ?_
      refine go_nil ?_
      refine g_cond rfl (fun hc2 => ?_) (fun hc2 => ?_)
      · replace hj1 := cond_t hc2 hj1
        refine g_seq ?_
        refine g_region ?_
        refine go_p rfl rfl rfl (o_move rfl) ?_
        refine go_p rfl rfl rfl (o_assign rfl) ?_
        refine go_nil ?_
        refine g_ret ?_
        obtain rfl := some_eq hj1
        replace hm1 := on_ret hm1
        exact retK (ret_one' rfl (ret_tmp rfl) (perm_drop _)) (congrArg (fun (p : Int) => (.i64 p : D)) (some_eq hm1))
      · replace hj1 := cond_f hc2 hj1
        refine g_skip ?_
        refine g_region ?_
        obtain ⟨hg3, hj1⟩ := grd_some hj1
        refine go_p rfl rfl rfl (o_add rfl rfl (i64_id hg3)) ?_
        refine go_p rfl rfl rfl (o_move rfl) ?_
        refine go_nil ?_
        exact ⟨_, (), hj1, ⟨rfl, trivial⟩, ⟨rfl, rfl, rfl, trivial⟩, [], rfl⟩
    · replace hj1 := cond_f hc1 hj1
      refine g_exit ?_
      exact ⟨_, (), some_eq hj1, trivial, trivial, [], rfl⟩
  · rintro _ _ hst
    subst hst
    replace hm1 := on_go hm1
    refine k_norm (L' := []) (ms' := []) rfl rfl ?_
    refine g_seq ?_
    refine g_region ?_
    refine go_p rfl rfl rfl (o_assign rfl) ?_
    refine go_nil ?_
    refine g_ret ?_
    exact retK (ret_one' rfl (ret_tmp rfl) (perm_drop _)) (congrArg (fun (p : Int) => (.i64 p : D)) (some_eq hm1))
def m_slices_ContainsFunc_int_int (s1 : (List Int)) (f1 : (Int → Option Bool)) : Option Bool :=
  (m_slices_IndexFunc_int_int s1 f1).bind fun x1 =>
  some (decide (0 ≤ x1))
theorem w_slices_ContainsFunc_int_int {s1 : (List Int)} {f1 : (Int → Option Bool)} {r_1 : Bool} {fv_f1 : D} (hff1 : FunOk1 Try.prog fv_f1 D.i64 D.bool f1) (hm : m_slices_ContainsFunc_int_int s1 f1 = some r_1) : Fn0 Try.prog 114 [.list 1 D.i64 s1, fv_f1] (.bool r_1) := by
  unfold m_slices_ContainsFunc_int_int at hm
  refine fn_intro Try.func114 rfl Try.ntmps114 rfl fun H0 fr w0 => ?_
  refine g_seq ?_
  refine g_region ?_
  refine go_p rfl rfl rfl (o_assign rfl) ?_
  refine go_nil ?_
  refine g_seq ?_
  refine g_region ?_
  refine go_p rfl rfl rfl (o_move rfl) ?_
  refine go_p rfl rfl rfl (o_move rfl) ?_
  obtain ⟨x1, hx1, hm⟩ := bind_some hm
  refine go_p rfl rfl rfl (o_call0 Try.call143 rfl (w_slices_IndexFunc_int_int hff1 hx1)) ?_
  refine go_p rfl rfl rfl (o_cmp rfl rfl rfl) ?_
  refine go_p rfl rfl rfl (o_assign rfl) ?_
  refine go_nil ?_
  refine g_ret ?_
  exact retK (ret_one' rfl (ret_tmp rfl) (perm_drop _)) (congrArg (fun (p : Bool) => (.bool p : D)) (some_eq hm))
def m_graph_right_1 (k1 : Int) (c1 : Int) : Option Bool :=
  some ((decide (k1 < 0)) || (decide (c1 ≤ k1)))
theorem w_graph_right_1 {k1 : Int} {c1 : Int} {r_1 : Bool} (hm : m_graph_right_1 k1 c1 = some r_1) : Fn0 Try.prog 115 [.i64 k1, .ref (.i64 c1)] (.bool r_1) := by
  unfold m_graph_right_1 at hm
  refine fn_intro Try.func115 rfl Try.ntmps115 rfl fun H0 fr w0 => ?_
  refine g_seq ?_
  refine g_region ?_
  refine go_p rfl rfl rfl (o_assign rfl) ?_
  refine go_nil ?_
  refine g_seq ?_
  refine g_region ?_
  refine go_p rfl rfl rfl (o_move rfl) ?_
  refine go_p rfl rfl rfl (o_cmp rfl rfl rfl) ?_
  refine go_p rfl rfl rfl (o_move rfl) ?_
  apply go_or [] 4 10 (t := 6) trivial rfl
  · intro hg_1 hk1
    refine go_wantp rfl rfl rfl hg_1 rfl rfl (o_move rfl) ?_
    refine go_wantp rfl rfl rfl hg_1 rfl rfl (o_load Try.isAgg3 rfl rfl) ?_
    refine go_wantp rfl rfl rfl hg_1 rfl rfl (o_cmp rfl rfl rfl) ?_
    refine go_p rfl rfl rfl (o_pickF rfl hg_1 rfl) ?_
    exact go_meet hk1 (rfl) trivial
  · intro hg_1 hk1
    refine go_skip rfl rfl rfl hg_1 rfl rfl ?_
    refine go_skip rfl rfl rfl hg_1 rfl rfl ?_
    refine go_skip rfl rfl rfl hg_1 rfl rfl ?_
    refine go_p rfl rfl rfl (o_pickT rfl hg_1 rfl) ?_
    exact go_meet hk1 (rfl) trivial
  refine go_p rfl rfl rfl (o_assign rfl) ?_
  refine go_nil ?_
  refine g_ret ?_
  exact retK (ret_one' rfl (ret_tmp rfl) (perm_drop _)) (congrArg (fun (p : Bool) => (.bool p : D)) (some_eq hm))
def m_graph_right (n1 : ApiTNode) (all1 : Int) : Option Bool :=
  bif ((decide (n1.kind < 1)) || (decide (11 < n1.kind))) then
    some false
  else
    (m_graph_pair n1.kind).bind fun x1 =>
    bif ((!x1) && ((!decide (n1.b = 0)) || ((!decide (n1.kind = 11)) && (!decide (n1.a = 0))))) then
      some false
    else
      bif ((decide (n1.kind = 11)) && ((decide (n1.a < 0)) || (decide (999 < n1.a)))) then
        some false
      else
        (m_graph_wide n1.kind).bind fun x2 =>
        (bif ((!x2) && (decide (0 < (n1.l.length : Int)))) then (some true) else ((m_graph_named n1).bind fun x3 =>
        some (!x3))).bind fun p1 =>
        bif p1 then
          some false
        else
          (m_graph_Kids n1).bind fun x4 =>
          (m_slices_ContainsFunc_int_int x4 (fun y0 => m_graph_right_1 y0 all1)).bind fun x5 =>
          some (!x5)
theorem w_graph_right {n1 : ApiTNode} {all1 : Int} {r_1 : Bool} (hm : m_graph_right n1 all1 = some r_1) : Fn0 Try.prog 75 [ApiTNode.d n1, .i64 all1] (.bool r_1) := by
  unfold m_graph_right at hm
  refine fn_intro Try.func75 rfl Try.ntmps75 rfl fun H0 fr w0 => ?_
  refine g_seq ?_
  refine g_region ?_
  refine go_p rfl rfl rfl (o_box rfl rfl) ?_
  refine go_p rfl rfl rfl (o_box rfl rfl) ?_
  refine go_p rfl rfl rfl (o_assign rfl) ?_
  refine go_nil ?_
  refine g_seq ?_
  refine g_block ?_
  refine g_seq ?_
  refine g_region ?_
  refine go_p rfl rfl rfl (o_fieldAddr fi_56_0 rfl rfl rfl) ?_
  refine go_p rfl rfl rfl (o_load Try.isAgg3 rfl rfl) ?_
  refine go_p rfl rfl rfl (o_cmp rfl rfl rfl) ?_
  refine go_p rfl rfl rfl (o_move rfl) ?_
  apply go_or [(2, _), (3, _)] 4 13 (t := 9) ⟨rfl, rfl, trivial⟩ rfl
  · intro hg_1 hk1
    refine go_wantp rfl rfl rfl hg_1 rfl rfl (o_fieldAddr fi_56_0 rfl rfl rfl) ?_
    refine go_wantp rfl rfl rfl hg_1 rfl rfl (o_load Try.isAgg3 rfl rfl) ?_
    refine go_wantp rfl rfl rfl hg_1 rfl rfl (o_cmp rfl rfl rfl) ?_
    refine go_p rfl rfl rfl (o_pickF rfl hg_1 rfl) ?_
    exact go_meet hk1 (rfl) ⟨rfl, rfl, trivial⟩
  · intro hg_1 hk1
    refine go_skip rfl rfl rfl hg_1 rfl rfl ?_
    refine go_skip rfl rfl rfl hg_1 rfl rfl ?_
    refine go_skip rfl rfl rfl hg_1 rfl rfl ?_
    refine go_p rfl rfl rfl (o_pickT rfl hg_1 rfl) ?_
    exact go_meet hk1 (rfl) ⟨rfl, rfl, trivial⟩
  refine go_p rfl rfl rfl (o_assign rfl) ?_
  refine go_nil ?_
  refine g_cond rfl (fun hc1 => ?_) (fun hc1 => ?_)
  · replace hm := cond_t hc1 hm
    refine g_seq ?_
    refine g_region ?_
    refine go_p rfl rfl rfl (o_assign rfl) ?_
    refine go_nil ?_
    refine g_ret ?_
    exact retK (ret_one' rfl (ret_tmp rfl) (perm_drop _)) (congrArg (fun (p : Bool) => (.bool p : D)) (some_eq hm))
  · replace hm := cond_f hc1 hm
    refine g_seq ?_
    refine g_region ?_
    refine go_p rfl rfl rfl (o_fieldAddr fi_56_0 rfl rfl rfl) ?_
    refine go_p rfl rfl rfl (o_load Try.isAgg3 rfl rfl) ?_
    obtain ⟨x1, hx1, hm⟩ := bind_some hm
    refine go_p rfl rfl rfl (o_call0 Try.call77 rfl (w_graph_pair hx1)) ?_
    refine go_p rfl rfl rfl (o_not rfl) ?_
    refine go_p rfl rfl rfl (o_move rfl) ?_
    apply go_and [(2, _), (3, _)] 14 33 (t := 19) ⟨rfl, rfl, trivial⟩ rfl
    · intro hg_2 hk2
      refine go_wantp rfl rfl rfl hg_2 rfl rfl (o_fieldAddr fi_56_2 rfl rfl rfl) ?_
      refine go_wantp rfl rfl rfl hg_2 rfl rfl (o_load Try.isAgg3 rfl rfl) ?_
      refine go_wantp rfl rfl rfl hg_2 rfl rfl (o_cmp rfl rfl rfl) ?_
      refine go_wantp rfl rfl rfl hg_2 rfl rfl (o_move rfl) ?_
      apply go_or [(2, _), (3, _), (19, _)] 9 32 (t := 23) ⟨rfl, rfl, rfl, trivial⟩ rfl
      · intro hg_3 hk3
        refine go_wantp rfl rfl rfl hg_3 rfl rfl (o_fieldAddr fi_56_0 rfl rfl rfl) ?_
        refine go_wantp rfl rfl rfl hg_3 rfl rfl (o_load Try.isAgg3 rfl rfl) ?_
        refine go_wantp rfl rfl rfl hg_3 rfl rfl (o_cmp rfl rfl rfl) ?_
        refine go_wantp rfl rfl rfl hg_3 rfl rfl (o_move rfl) ?_
        apply go_and [(2, _), (3, _), (19, _), (23, _)] 4 31 (t := 27) ⟨rfl, rfl, rfl, rfl, trivial⟩ rfl
        · intro hg_4 hk4
          refine go_wantp rfl rfl rfl hg_4 rfl rfl (o_fieldAddr fi_56_1 rfl rfl rfl) ?_
          refine go_wantp rfl rfl rfl hg_4 rfl rfl (o_load Try.isAgg3 rfl rfl) ?_
          refine go_wantp rfl rfl rfl hg_4 rfl rfl (o_cmp rfl rfl rfl) ?_
          refine go_wantp rfl rfl rfl hg_3 rfl rfl (o_pickT rfl hg_4 rfl) ?_
          exact go_meet hk4 (rfl) ⟨rfl, rfl, rfl, rfl, trivial⟩
        · intro hg_4 hk4
          refine go_skip rfl rfl rfl hg_4 rfl rfl ?_
          refine go_skip rfl rfl rfl hg_4 rfl rfl ?_
          refine go_skip rfl rfl rfl hg_4 rfl rfl ?_
          refine go_wantp rfl rfl rfl hg_3 rfl rfl (o_pickF rfl hg_4 rfl) ?_
          exact go_meet hk4 (rfl) ⟨rfl, rfl, rfl, rfl, trivial⟩
        refine go_wantp rfl rfl rfl hg_2 rfl rfl (o_pickF rfl hg_3 rfl) ?_
        exact go_meet hk3 (rfl) ⟨rfl, rfl, rfl, trivial⟩
      · intro hg_3 hk3
        refine go_skip rfl rfl rfl hg_3 rfl rfl ?_
        refine go_skip rfl rfl rfl hg_3 rfl rfl ?_
        refine go_skip rfl rfl rfl hg_3 rfl rfl ?_
        refine go_skip rfl rfl rfl hg_3 rfl rfl ?_
        refine go_skipu rfl rfl rfl rfl rfl ?_
        refine go_skipu rfl rfl rfl rfl rfl ?_
        refine go_skipu rfl rfl rfl rfl rfl ?_
        refine go_skip rfl rfl rfl hg_3 rfl rfl ?_
        refine go_wantp rfl rfl rfl hg_2 rfl rfl (o_pickT rfl hg_3 rfl) ?_
        exact go_meet hk3 (rfl) ⟨rfl, rfl, rfl, trivial⟩
      refine go_p rfl rfl rfl (o_pickT rfl hg_2 rfl) ?_
      exact go_meet hk2 (rfl) ⟨rfl, rfl, trivial⟩
    · intro hg_2 hk2
      refine go_skip rfl rfl rfl hg_2 rfl rfl ?_
      refine go_skip rfl rfl rfl hg_2 rfl rfl ?_
      refine go_skip rfl rfl rfl hg_2 rfl rfl ?_
      refine go_skip rfl rfl rfl hg_2 rfl rfl ?_
      refine go_skipu rfl rfl rfl rfl rfl ?_
      refine go_skipu rfl rfl rfl rfl rfl ?_
      refine go_skipu rfl rfl rfl rfl rfl ?_
      refine go_skipu rfl rfl rfl rfl rfl ?_
      refine go_skipu rfl rfl rfl rfl rfl ?_
      refine go_skipu rfl rfl rfl rfl rfl ?_
      refine go_skipu rfl rfl rfl rfl rfl ?_
      refine go_skipu rfl rfl rfl rfl rfl ?_
      refine go_skip rfl rfl rfl hg_2 rfl rfl ?_
      refine go_p rfl rfl rfl (o_pickF rfl hg_2 rfl) ?_
      exact go_meet hk2 (rfl) ⟨rfl, rfl, trivial⟩
    refine go_p rfl rfl rfl (o_assign rfl) ?_
    refine go_nil ?_
    refine g_cond rfl (fun hc2 => ?_) (fun hc2 => ?_)
    · replace hm := cond_t hc2 hm
      refine g_seq ?_
      refine g_region ?_
      refine go_p rfl rfl rfl (o_assign rfl) ?_
      refine go_nil ?_
      refine g_ret ?_
      exact retK (ret_one' rfl (ret_tmp rfl) (perm_drop _)) (congrArg (fun (p : Bool) => (.bool p : D)) (some_eq hm))
    · replace hm := cond_f hc2 hm
      refine g_seq ?_
      refine g_region ?_
      refine go_p rfl rfl rfl (o_fieldAddr fi_56_0 rfl rfl rfl) ?_
      refine go_p rfl rfl rfl (o_load Try.isAgg3 rfl rfl) ?_
      refine go_p rfl rfl rfl (o_cmp rfl rfl rfl) ?_
      refine go_p rfl rfl rfl (o_move rfl) ?_
      apply go_and [(2, _), (3, _)] 9 47 (t := 38) ⟨rfl, rfl, trivial⟩ rfl
      · intro hg_5 hk5
        refine go_wantp rfl rfl rfl hg_5 rfl rfl (o_fieldAddr fi_56_1 rfl rfl rfl) ?_
        refine go_wantp rfl rfl rfl hg_5 rfl rfl (o_load Try.isAgg3 rfl rfl) ?_
        refine go_wantp rfl rfl rfl hg_5 rfl rfl (o_cmp rfl rfl rfl) ?_
        refine go_wantp rfl rfl rfl hg_5 rfl rfl (o_move rfl) ?_
        apply go_or [(2, _), (3, _), (38, _)] 4 46 (t := 42) ⟨rfl, rfl, rfl, trivial⟩ rfl
        · intro hg_6 hk6
          refine go_wantp rfl rfl rfl hg_6 rfl rfl (o_fieldAddr fi_56_1 rfl rfl rfl) ?_
          refine go_wantp rfl rfl rfl hg_6 rfl rfl (o_load Try.isAgg3 rfl rfl) ?_
          refine go_wantp rfl rfl rfl hg_6 rfl rfl (o_cmp rfl rfl rfl) ?_
          refine go_wantp rfl rfl rfl hg_5 rfl rfl (o_pickF rfl hg_6 rfl) ?_
          exact go_meet hk6 (rfl) ⟨rfl, rfl, rfl, trivial⟩
        · intro hg_6 hk6
          refine go_skip rfl rfl rfl hg_6 rfl rfl ?_
          refine go_skip rfl rfl rfl hg_6 rfl rfl ?_
          refine go_skip rfl rfl rfl hg_6 rfl rfl ?_
          refine go_wantp rfl rfl rfl hg_5 rfl rfl (o_pickT rfl hg_6 rfl) ?_
          exact go_meet hk6 (rfl) ⟨rfl, rfl, rfl, trivial⟩
        refine go_p rfl rfl rfl (o_pickT rfl hg_5 rfl) ?_
        exact go_meet hk5 (rfl) ⟨rfl, rfl, trivial⟩
      · intro hg_5 hk5
        refine go_skip rfl rfl rfl hg_5 rfl rfl ?_
        refine go_skip rfl rfl rfl hg_5 rfl rfl ?_
        refine go_skip rfl rfl rfl hg_5 rfl rfl ?_
        refine go_skip rfl rfl rfl hg_5 rfl rfl ?_
        refine go_skipu rfl rfl rfl rfl rfl ?_
        refine go_skipu rfl rfl rfl rfl rfl ?_
        refine go_skipu rfl rfl rfl rfl rfl ?_
        refine go_skip rfl rfl rfl hg_5 rfl rfl ?_
        refine go_p rfl rfl rfl (o_pickF rfl hg_5 rfl) ?_
        exact go_meet hk5 (rfl) ⟨rfl, rfl, trivial⟩
      refine go_p rfl rfl rfl (o_assign rfl) ?_
      refine go_nil ?_
      refine g_cond rfl (fun hc3 => ?_) (fun hc3 => ?_)
      · replace hm := cond_t hc3 hm
        refine g_seq ?_
        refine g_region ?_
        refine go_p rfl rfl rfl (o_assign rfl) ?_
        refine go_nil ?_
        refine g_ret ?_
        exact retK (ret_one' rfl (ret_tmp rfl) (perm_drop _)) (congrArg (fun (p : Bool) => (.bool p : D)) (some_eq hm))
      · replace hm := cond_f hc3 hm
        refine g_seq ?_
        refine g_region ?_
        refine go_p rfl rfl rfl (o_fieldAddr fi_56_0 rfl rfl rfl) ?_
        refine go_p rfl rfl rfl (o_load Try.isAgg3 rfl rfl) ?_
        obtain ⟨x2, hx2, hm⟩ := bind_some hm
        refine go_p rfl rfl rfl (o_call0 Try.call78 rfl (w_graph_wide hx2)) ?_
        refine go_p rfl rfl rfl (o_not rfl) ?_
        refine go_p rfl rfl rfl (o_move rfl) ?_
        apply go_and [(2, _), (3, _)] 5 58 (t := 53) ⟨rfl, rfl, trivial⟩ rfl
        · intro hg_7 hk7
          refine go_wantp rfl rfl rfl hg_7 rfl rfl (o_fieldAddr fi_56_3 rfl rfl rfl) ?_
          refine go_wantp rfl rfl rfl hg_7 rfl rfl (o_load Try.isAgg54 rfl rfl) ?_
          refine go_wantp rfl rfl rfl hg_7 rfl rfl (o_len Try.runUnderlying54 rfl) ?_
          refine go_wantp rfl rfl rfl hg_7 rfl rfl (o_cmp rfl rfl rfl) ?_
          refine go_p rfl rfl rfl (o_pickT rfl hg_7 rfl) ?_
          exact go_meet hk7 (rfl) ⟨rfl, rfl, trivial⟩
        · intro hg_7 hk7
          refine go_skip rfl rfl rfl hg_7 rfl rfl ?_
          refine go_skip rfl rfl rfl hg_7 rfl rfl ?_
          refine go_skip rfl rfl rfl hg_7 rfl rfl ?_
          refine go_skip rfl rfl rfl hg_7 rfl rfl ?_
          refine go_p rfl rfl rfl (o_pickF rfl hg_7 rfl) ?_
          exact go_meet hk7 (rfl) ⟨rfl, rfl, trivial⟩
        refine go_p rfl rfl rfl (o_move rfl) ?_
        obtain ⟨p1, hp_8, hm⟩ := bind_some hm
        refine go_two [(2, _), (3, _)] 4 63 p1 (t := 59) ⟨rfl, rfl, trivial⟩ rfl (fun hg_8 hk8 => ?_) (fun hg_8 hk8 => ?_) ?_
        · replace hp_8 := cond_t hg_8 hp_8
          refine go_skip rfl rfl rfl hg_8 rfl rfl ?_
          refine go_skip rfl rfl rfl hg_8 rfl rfl ?_
          refine go_skip rfl rfl rfl hg_8 rfl rfl ?_
          refine go_p rfl rfl rfl (o_pickT rfl hg_8 rfl) ?_
          exact go_meet hk8 (congrArg (fun b => some (D.bool b)) (some_eq hp_8)) ⟨rfl, rfl, trivial⟩
        · replace hp_8 := cond_f hg_8 hp_8
          refine go_wantp rfl rfl rfl hg_8 rfl rfl (o_load_agg Try.isAgg56 Try.sizeOf56 rfl rfl) ?_
          obtain ⟨x3, hx3, hp_8⟩ := bind_some hp_8
          refine go_wantp rfl rfl rfl hg_8 rfl rfl (o_call0 Try.call113 rfl (w_graph_named hx3)) ?_
          refine go_wantp rfl rfl rfl hg_8 rfl rfl (o_not rfl) ?_
          refine go_p rfl rfl rfl (o_pickF rfl hg_8 rfl) ?_
          exact go_meet hk8 (congrArg (fun b => some (D.bool b)) (some_eq hp_8)) ⟨rfl, rfl, trivial⟩
        refine go_p rfl rfl rfl (o_assign rfl) ?_
        refine go_nil ?_
        refine g_cond rfl (fun hc4 => ?_) (fun hc4 => ?_)
        · replace hm := cond_t hc4 hm
          refine g_seq ?_
          refine g_region ?_
          refine go_p rfl rfl rfl (o_assign rfl) ?_
          refine go_nil ?_
          refine g_ret ?_
          exact retK (ret_one' rfl (ret_tmp rfl) (perm_drop _)) (congrArg (fun (p : Bool) => (.bool p : D)) (some_eq hm))
        · replace hm := cond_f hc4 hm
          refine g_skip ?_
          refine g_seq ?_
          refine g_region ?_
          refine go_p rfl rfl rfl (o_load_agg Try.isAgg56 Try.sizeOf56 rfl rfl) ?_
          obtain ⟨x4, hx4, hm⟩ := bind_some hm
          refine go_p rfl rfl rfl (o_call0 Try.call32 rfl (w_graph_Kids hx4)) ?_
          refine go_p rfl rfl rfl (o_makeFunc rfl rfl) ?_
          obtain ⟨x5, hx5, hm⟩ := bind_some hm
          refine go_p rfl rfl rfl (o_call0 Try.call114 rfl (w_slices_ContainsFunc_int_int (fun _ _ h => fv_clo Try.call115 (w_graph_right_1 h)) hx5)) ?_
          refine go_p rfl rfl rfl (o_not rfl) ?_
          refine go_p rfl rfl rfl (o_assign rfl) ?_
          refine go_nil ?_
          refine g_ret ?_
          exact retK (ret_one' rfl (ret_tmp rfl) (perm_drop _)) (congrArg (fun (p : Bool) => (.bool p : D)) (some_eq hm))
theorem fi_53_0 : FieldIs Try.prog 53 0 0 1 false := ⟨⟨_, _, Try.runUnderlying53, rfl, rfl, Try.sizeOf51, by decide, Try.isAgg51⟩⟩
def m_graph_May_1 (n1 : ApiTNode) (c1 : ApiType) : Option Bool :=
  (m_graph_right n1 (c1.l.length : Int)).bind fun x1 =>
  some (!x1)
theorem w_graph_May_1 {n1 : ApiTNode} {c1 : ApiType} {r_1 : Bool} (hm : m_graph_May_1 n1 c1 = some r_1) : Fn0 Try.prog 74 [ApiTNode.d n1, .ref (ApiType.d c1)] (.bool r_1) := by
  unfold m_graph_May_1 at hm
  refine fn_intro Try.func74 rfl Try.ntmps74 rfl fun H0 fr w0 => ?_
  refine g_seq ?_
  refine g_region ?_
  refine go_p rfl rfl rfl (o_box rfl rfl) ?_
  refine go_p rfl rfl rfl (o_assign rfl) ?_
  refine go_nil ?_
  refine g_seq ?_
  refine g_region ?_
  refine go_p rfl rfl rfl (o_load_agg Try.isAgg56 Try.sizeOf56 rfl rfl) ?_
  refine go_p rfl rfl rfl (o_fieldAddr fi_53_0 rfl rfl rfl) ?_
  refine go_p rfl rfl rfl (o_load Try.isAgg51 rfl rfl) ?_
  refine go_p rfl rfl rfl (o_len Try.runUnderlying51 rfl) ?_
  obtain ⟨x1, hx1, hm⟩ := bind_some hm
  refine go_p rfl rfl rfl (o_call0 Try.call75 rfl (w_graph_right hx1)) ?_
  refine go_p rfl rfl rfl (o_not rfl) ?_
  refine go_p rfl rfl rfl (o_assign rfl) ?_
  refine go_nil ?_
  refine g_ret ?_
  exact retK (ret_one' rfl (ret_tmp rfl) (perm_drop _)) (congrArg (fun (p : Bool) => (.bool p : D)) (some_eq hm))
def m_graph_lattice (kind1 : Int) : Option Bool :=
  some ((decide (kind1 = 9)) || (decide (kind1 = 10)))
theorem w_graph_lattice {kind1 : Int} {r_1 : Bool} (hm : m_graph_lattice kind1 = some r_1) : Fn0 Try.prog 117 [.i64 kind1] (.bool r_1) := by
  unfold m_graph_lattice at hm
  refine fn_intro Try.func117 rfl Try.ntmps117 rfl fun H0 fr w0 => ?_
  refine g_seq ?_
  refine g_region ?_
  refine go_p rfl rfl rfl (o_assign rfl) ?_
  refine go_nil ?_
  refine g_seq ?_
  refine g_region ?_
  refine go_p rfl rfl rfl (o_move rfl) ?_
  refine go_p rfl rfl rfl (o_cmp rfl rfl rfl) ?_
  refine go_p rfl rfl rfl (o_move rfl) ?_
  apply go_or [] 3 8 (t := 5) trivial rfl
  · intro hg_1 hk1
    refine go_wantp rfl rfl rfl hg_1 rfl rfl (o_move rfl) ?_
    refine go_wantp rfl rfl rfl hg_1 rfl rfl (o_cmp rfl rfl rfl) ?_
    refine go_p rfl rfl rfl (o_pickF rfl hg_1 rfl) ?_
    exact go_meet hk1 (rfl) trivial
  · intro hg_1 hk1
    refine go_skip rfl rfl rfl hg_1 rfl rfl ?_
    refine go_skip rfl rfl rfl hg_1 rfl rfl ?_
    refine go_p rfl rfl rfl (o_pickT rfl hg_1 rfl) ?_
    exact go_meet hk1 (rfl) trivial
  refine go_p rfl rfl rfl (o_assign rfl) ?_
  refine go_nil ?_
  refine g_ret ?_
  exact retK (ret_one' rfl (ret_tmp rfl) (perm_drop _)) (congrArg (fun (p : Bool) => (.bool p : D)) (some_eq hm))
def m_graph_contractive_1_l1 (self : Int → (List Int) → Option (Bool × (List Int))) (x7 : (List Int)) : Nat → (Int × (List Int)) → Option (Out (Bool × (List Int)) (List Int))
  | 0, _ => none
  | n + 1, (x8, l2) =>
    bif (decide (x8 < (x7.length : Int))) then
      (idx x7 x8).bind fun x9 =>
      (self x9 l2).bind fun (x10, z2) =>
      bif (!x10) then
        some (Out.ret (false, z2))
      else
        grd (InR (x8 + 1)) <|
        m_graph_contractive_1_l1 self x7 n ((x8 + 1), z2)
    else
      some (Out.go (l2))
def m_graph_contractive_1F (self : Int → (List Int) → Option (Bool × (List Int))) (i1 : Int) (z1 : (List Int)) (c1 : ApiType) : Option (Bool × (List Int)) :=
  (idx c1.l i1).bind fun x1 =>
  (m_graph_lattice x1.kind).bind fun x2 =>
  (bif (!x2) then (some true) else ((idx z1 i1).bind fun x3 =>
  some (decide (x3 = 2)))).bind fun p1 =>
  bif p1 then
    some (true, z1)
  else
    (idx z1 i1).bind fun x4 =>
    bif (decide (x4 = 1)) then
      some (false, z1)
    else
      (idx z1 i1).bind fun x5 =>
      (idx c1.l i1).bind fun x6 =>
      (m_graph_Kids x6).bind fun x7 =>
      ((m_graph_contractive_1_l1 self x7 FU (0, (z1.set (i1).toNat 1)) : Option (Out (Bool × (List Int)) (List Int)))).bind (fun oo => oo.on (fun r1 => some r1) (fun l1 =>
      (idx l1 i1).bind fun x11 =>
      some (true, (l1.set (i1).toNat 2))))
def m_graph_contractive_1 (c1 : ApiType) : Nat → Int → (List Int) → Option (Bool × (List Int))
  | 0 => fun _ _ => none
  | n + 1 => fun i1 z1 => m_graph_contractive_1F (m_graph_contractive_1 c1 n) i1 z1 c1
theorem wF_graph_contractive_1 {c1 : ApiType} (self : Int → (List Int) → Option (Bool × (List Int))) (hself : ∀ {i1 : Int} {z1 : (List Int)} {r_1 : Bool} {s_1 : (List Int)} {b_q2 : Nat} {a_q2c0 : Option Addr} {m_q2c0 : Nat} {cap_q2c0 : Nat} {b_q3 : Nat}, self i1 z1 = some (r_1, s_1) → Go.V.Fn Try.prog 116 [.i64 i1, .ref (ApiType.d c1), .v (.pointer (some ⟨b_q2, 0, none⟩)), .v (.pointer (some ⟨b_q3, 0, none⟩))] [box b_q2 28 [.v (.slice a_q2c0 m_q2c0 cap_q2c0)], arr a_q2c0 m_q2c0 cap_q2c0 3 1 D.i64 z1, box b_q3 120 [.clo (.func 116) [] [.ref (ApiType.d c1), .v (.pointer (some ⟨b_q2, 0, none⟩)), .v (.pointer (some ⟨b_q3, 0, none⟩))]]] (fun d ms' => d = .bool r_1 ∧ ms' = [box b_q2 28 [.v (.slice a_q2c0 m_q2c0 cap_q2c0)], arr a_q2c0 m_q2c0 cap_q2c0 3 1 D.i64 s_1, box b_q3 120 [.clo (.func 116) [] [.ref (ApiType.d c1), .v (.pointer (some ⟨b_q2, 0, none⟩)), .v (.pointer (some ⟨b_q3, 0, none⟩))]]])) {i1 : Int} {z1 : (List Int)} {r_1 : Bool} {s_1 : (List Int)} {b_q2 : Nat} {a_q2c0 : Option Addr} {m_q2c0 : Nat} {cap_q2c0 : Nat} {b_q3 : Nat} (hm : m_graph_contractive_1F self i1 z1 c1 = some (r_1, s_1)) : Go.V.Fn Try.prog 116 [.i64 i1, .ref (ApiType.d c1), .v (.pointer (some ⟨b_q2, 0, none⟩)), .v (.pointer (some ⟨b_q3, 0, none⟩))] [box b_q2 28 [.v (.slice a_q2c0 m_q2c0 cap_q2c0)], arr a_q2c0 m_q2c0 cap_q2c0 3 1 D.i64 z1, box b_q3 120 [.clo (.func 116) [] [.ref (ApiType.d c1), .v (.pointer (some ⟨b_q2, 0, none⟩)), .v (.pointer (some ⟨b_q3, 0, none⟩))]]] (fun d ms' => d = .bool r_1 ∧ ms' = [box b_q2 28 [.v (.slice a_q2c0 m_q2c0 cap_q2c0)], arr a_q2c0 m_q2c0 cap_q2c0 3 1 D.i64 s_1, box b_q3 120 [.clo (.func 116) [] [.ref (ApiType.d c1), .v (.pointer (some ⟨b_q2, 0, none⟩)), .v (.pointer (some ⟨b_q3, 0, none⟩))]]]) := by
  unfold m_graph_contractive_1F at hm
  refine fn_intro Try.func116 rfl Try.ntmps116 rfl fun H0 fr w0 => ?_
  refine g_seq ?_
  refine g_region ?_
  refine go_p rfl rfl rfl (o_assign rfl) ?_
  refine go_nil ?_
  refine g_seq ?_
  refine g_seq ?_
  refine g_region ?_
  refine go_p rfl rfl rfl (o_fieldAddr fi_53_0 rfl rfl rfl) ?_
  refine go_p rfl rfl rfl (o_load Try.isAgg51 rfl rfl) ?_
  refine go_p rfl rfl rfl (o_move rfl) ?_
  obtain ⟨x1, hx1, hm⟩ := bind_some hm
  refine go_p rfl rfl rfl (o_indexAddr_m Try.runUnderlying51 Try.sizeOf56 rfl rfl hx1) ?_
  refine go_p rfl rfl rfl (o_fieldAddr fi_56_0 rfl rfl rfl) ?_
  refine go_p rfl rfl rfl (o_load Try.isAgg3 rfl rfl) ?_
  obtain ⟨x2, hx2, hm⟩ := bind_some hm
  refine go_p rfl rfl rfl (o_call0 Try.call117 rfl (w_graph_lattice hx2)) ?_
  refine go_p rfl rfl rfl (o_not rfl) ?_
  refine go_p rfl rfl rfl (o_move rfl) ?_
  obtain ⟨p1, hp_1, hm⟩ := bind_some hm
  refine go_two [(0, _), (1, _), (2, _), (3, _)] 6 22 p1 (t := 16) ⟨rfl, rfl, rfl, rfl, trivial⟩ rfl (fun hg_1 hk1 => ?_) (fun hg_1 hk1 => ?_) ?_
  · replace hp_1 := cond_t hg_1 hp_1
    refine go_skip rfl rfl rfl hg_1 rfl rfl ?_
    refine go_skip rfl rfl rfl hg_1 rfl rfl ?_
    refine go_skip rfl rfl rfl hg_1 rfl rfl ?_
    refine go_skip rfl rfl rfl hg_1 rfl rfl ?_
    refine go_skip rfl rfl rfl hg_1 rfl rfl ?_
    refine go_p rfl rfl rfl (o_pickT rfl hg_1 rfl) ?_
    exact go_meet hk1 (congrArg (fun b => some (D.bool b)) (some_eq hp_1)) ⟨rfl, rfl, rfl, rfl, trivial⟩
  · replace hp_1 := cond_f hg_1 hp_1
    refine go_wantp rfl rfl rfl hg_1 rfl rfl (o_load_box 0 Try.isAgg28 rfl rfl rfl rfl) ?_
    refine go_wantp rfl rfl rfl hg_1 rfl rfl (o_move rfl) ?_
    obtain ⟨x3, hx3, hp_1⟩ := bind_some hp_1
    refine go_wantp rfl rfl rfl hg_1 rfl rfl (o_indexAddr_arr 1 Try.runUnderlying28 Try.sizeOf3 rfl rfl rfl hx3) ?_
    refine go_wantp rfl rfl rfl hg_1 rfl rfl (o_load_arr (off := 0) 1 Try.isAgg3 rfl rfl (idx_some hx3).2 rfl rfl rfl) ?_
    refine go_wantp rfl rfl rfl hg_1 rfl rfl (o_cmp rfl rfl rfl) ?_
    refine go_p rfl rfl rfl (o_pickF rfl hg_1 rfl) ?_
    exact go_meet hk1 (congrArg (fun b => some (D.bool b)) (some_eq hp_1)) ⟨rfl, rfl, rfl, rfl, trivial⟩
  refine go_nil ?_
  refine g_cond rfl (fun hc1 => ?_) (fun hc1 => ?_)
  · replace hm := cond_t hc1 hm
    refine g_seq ?_
    refine g_region ?_
    refine go_p rfl rfl rfl (o_assign rfl) ?_
    refine go_nil ?_
    refine g_ret ?_
    have hq1 := some_eq hm
    obtain ⟨rfl, rfl⟩ := Prod.mk.inj hq1
    exact retK (ret_one' rfl (ret_tmp rfl) (permA 0 rfl (permA 0 rfl (permA 0 rfl permN)))) ⟨rfl, rfl⟩
  · replace hm := cond_f hc1 hm
    refine g_skip ?_
    refine g_seq ?_
    refine g_seq ?_
    refine g_region ?_
    refine go_p rfl rfl rfl (o_load_box 0 Try.isAgg28 rfl rfl rfl rfl) ?_
    refine go_p rfl rfl rfl (o_move rfl) ?_
    obtain ⟨x4, hx4, hm⟩ := bind_some hm
    refine go_p rfl rfl rfl (o_indexAddr_arr 1 Try.runUnderlying28 Try.sizeOf3 rfl rfl rfl hx4) ?_
    refine go_p rfl rfl rfl (o_load_arr (off := 0) 1 Try.isAgg3 rfl rfl (idx_some hx4).2 rfl rfl rfl) ?_
    refine go_p rfl rfl rfl (o_cmp rfl rfl rfl) ?_
    refine go_nil ?_
    refine g_cond rfl (fun hc2 => ?_) (fun hc2 => ?_)
    · replace hm := cond_t hc2 hm
      refine g_seq ?_
      refine g_region ?_
      refine go_p rfl rfl rfl (o_assign rfl) ?_
      refine go_nil ?_
      refine g_ret ?_
      have hq1 := some_eq hm
      obtain ⟨rfl, rfl⟩ := Prod.mk.inj hq1
      exact retK (ret_one' rfl (ret_tmp rfl) (permA 0 rfl (permA 0 rfl (permA 0 rfl permN)))) ⟨rfl, rfl⟩
    · replace hm := cond_f hc2 hm
      refine g_skip ?_
      refine g_seq ?_
      refine g_region ?_
      refine go_p rfl rfl rfl (o_load_box 0 Try.isAgg28 rfl rfl rfl rfl) ?_
      refine go_p rfl rfl rfl (o_move rfl) ?_
      obtain ⟨x5, hx5, hm⟩ := bind_some hm
      refine go_p rfl rfl rfl (o_indexAddr_arr 1 Try.runUnderlying28 Try.sizeOf3 rfl rfl rfl hx5) ?_
      refine go_u rfl rfl (o_store_arr (off := 0) (z' := 1) 1 Try.sizeOf3 rfl rfl (idx_some hx5).2 rfl rfl rfl rfl rfl rfl (Nat.le_of_ble_eq_true rfl) rfl rfl) ?_
      rintro _ _ rfl
      refine go_ms (ms' := [box b_q2 28 [_], _, box b_q3 120 [_]]) rfl ?_
      refine go_nil ?_
      refine g_seq ?_
      refine g_seq ?_
      refine g_region ?_
      refine go_p rfl rfl rfl (o_fieldAddr fi_53_0 rfl rfl rfl) ?_
      refine go_p rfl rfl rfl (o_load Try.isAgg51 rfl rfl) ?_
      refine go_p rfl rfl rfl (o_move rfl) ?_
      obtain ⟨x6, hx6, hm⟩ := bind_some hm
      refine go_p rfl rfl rfl (o_indexAddr_m Try.runUnderlying51 Try.sizeOf56 rfl rfl hx6) ?_
      refine go_p rfl rfl rfl (o_load_agg Try.isAgg56 Try.sizeOf56 rfl rfl) ?_
      obtain ⟨x7, hx7, hm⟩ := bind_some hm
      refine go_p rfl rfl rfl (o_call0 Try.call32 rfl (w_graph_Kids hx7)) ?_
      refine go_p rfl rfl rfl (o_len Try.runUnderlying28 rfl) ?_
      refine go_p rfl rfl rfl (o_move rfl) ?_
      refine go_nil ?_
      obtain ⟨o_1, hj1, hm1⟩ := bind_some hm
      refine g_cut_m [(0, _), (2, _)] [(2, _)] (fun (st : (List Int)) (hid : Unit) => match st, hid with | l1, _ => []) (fun F (st : (List Int)) (hid : Unit) => match st, hid with | l1, _ => [box b_q2 28 [.v (.slice a_q2c0 m_q2c0 cap_q2c0)], arr a_q2c0 m_q2c0 cap_q2c0 3 1 D.i64 l1, (nthF F 0)]) (fun st => Out.go (st) = o_1) ⟨rfl, rfl, trivial⟩ ⟨rfl, trivial⟩ ?_ ?_
      · skip
        refine g_block ?_
        refine g_loop_m [(0, _), (2, _), (3, _), (36, _), (37, _)] [(2, _)] (fun (st : (Int × (List Int))) (hid : Unit) => match st, hid with | (x8, l2), _ => [(38, .i64 x8)]) (fun F (st : (Int × (List Int))) (hid : Unit) => match st, hid with | (x8, l2), _ => [box b_q2 28 [.v (.slice a_q2c0 m_q2c0 cap_q2c0)], arr a_q2c0 m_q2c0 cap_q2c0 3 1 D.i64 l2, (nthF F 0)]) () hj1 (fun _ => rfl) ⟨rfl, rfl, rfl, rfl, rfl, trivial⟩ ⟨rfl, trivial⟩ ⟨rfl, trivial⟩ rfl ?_
        rintro n ⟨x8, l2⟩ ⟨⟩ hj1
        rw [m_graph_contractive_1_l1] at hj1
        refine g_norm (L' := [(38, .i64 x8), (0, _), (2, _), (3, _), (36, _), (37, _)]) (ms' := [box b_q2 28 [.v (.slice a_q2c0 m_q2c0 cap_q2c0)], arr a_q2c0 m_q2c0 cap_q2c0 3 1 D.i64 l2, _]) rfl rfl ?_
        refine g_seq ?_
        refine g_region ?_
        refine go_p rfl rfl rfl (o_cmp rfl rfl rfl) ?_
        refine go_nil ?_
        refine g_seq ?_
        refine g_cond rfl (fun hc3 => ?_) (fun hc3 => ?_)
        · replace hj1 := cond_t hc3 hj1
          refine g_skip ?_
          refine g_seq ?_
          refine g_block ?_
          refine g_seq ?_
          refine g_region ?_
          obtain ⟨x9, hx8, hj1⟩ := bind_some hj1
          refine go_p rfl rfl rfl (o_indexAddr_m Try.runUnderlying28 Try.sizeOf3 rfl rfl hx8) ?_
          refine go_p rfl rfl rfl (o_load Try.isAgg3 rfl rfl) ?_
          refine go_p rfl rfl rfl (o_assign rfl) ?_
          refine go_nil ?_
          refine g_seq ?_
          refine g_region ?_
          refine go_p rfl rfl rfl (o_load_box 2 Try.isAgg120 rfl rfl rfl rfl) ?_
          refine go_p rfl rfl rfl (o_move rfl) ?_
          obtain ⟨⟨x10, z2⟩, hx9, hj1⟩ := bind_some hj1
          refine go_op rfl rfl rfl (o_callv_own [0, 1, 2] rfl rfl rfl (getL_c rfl (getL_c rfl (getL_c rfl getL_n))) (fv_clo Try.call116 (hself hx9)) (by rintro _ _ ⟨rfl, rfl⟩; rfl)) ?_
          rintro _ _ ⟨_, ⟨rfl, rfl⟩, rfl⟩
          refine go_ms (ms' := [box b_q2 28 [_], _, box b_q3 120 [_]]) rfl ?_
          refine go_p rfl rfl rfl (o_not rfl) ?_
          refine go_nil ?_
          refine g_cond rfl (fun hc4 => ?_) (fun hc4 => ?_)
          · replace hj1 := cond_t hc4 hj1
            refine g_seq ?_
            refine g_region ?_
            refine go_p rfl rfl rfl (o_assign rfl) ?_
            refine go_nil ?_
            refine g_ret ?_
            obtain rfl := some_eq hj1
            replace hm1 := on_ret hm1
            have hq1 := some_eq hm1
            obtain ⟨rfl, rfl⟩ := Prod.mk.inj hq1
            exact retK (ret_one' rfl (ret_tmp rfl) (permA 0 rfl (permA 0 rfl (permA 0 rfl permN)))) ⟨rfl, rfl⟩
          · replace hj1 := cond_f hc4 hj1
            refine g_skip ?_
            refine g_region ?_
            obtain ⟨hg10, hj1⟩ := grd_some hj1
            refine go_p rfl rfl rfl (o_add rfl rfl (i64_id hg10)) ?_
            refine go_p rfl rfl rfl (o_move rfl) ?_
            refine go_nil ?_
            exact ⟨_, (), hj1, ⟨rfl, trivial⟩, ⟨rfl, rfl, rfl, rfl, rfl, trivial⟩, [], rfl⟩
        · replace hj1 := cond_f hc3 hj1
          refine g_exit ?_
          exact ⟨_, (), some_eq hj1, trivial, ⟨rfl, rfl, trivial⟩, [], rfl⟩
      · rintro l1 ⟨⟩ hst
        subst hst
        replace hm1 := on_go hm1
        refine k_norm (L' := [(0, _), (2, _)]) (ms' := [box b_q2 28 [.v (.slice a_q2c0 m_q2c0 cap_q2c0)], arr a_q2c0 m_q2c0 cap_q2c0 3 1 D.i64 l1, _]) rfl rfl ?_
        refine g_seq ?_
        refine g_region ?_
        refine go_p rfl rfl rfl (o_load_box 0 Try.isAgg28 rfl rfl rfl rfl) ?_
        refine go_p rfl rfl rfl (o_move rfl) ?_
        obtain ⟨x11, hx11, hm1⟩ := bind_some hm1
        refine go_p rfl rfl rfl (o_indexAddr_arr 1 Try.runUnderlying28 Try.sizeOf3 rfl rfl rfl hx11) ?_
        refine go_u rfl rfl (o_store_arr (off := 0) (z' := 2) 1 Try.sizeOf3 rfl rfl (idx_some hx11).2 rfl rfl rfl rfl rfl rfl (Nat.le_of_ble_eq_true rfl) rfl rfl) ?_
        rintro _ _ rfl
        refine go_ms (ms' := [box b_q2 28 [_], _, box b_q3 120 [_]]) rfl ?_
        refine go_nil ?_
        refine g_seq ?_
        refine g_region ?_
        refine go_p rfl rfl rfl (o_assign rfl) ?_
        refine go_nil ?_
        refine g_ret ?_
        have hq1 := some_eq hm1
        obtain ⟨rfl, rfl⟩ := Prod.mk.inj hq1
        exact retK (ret_one' rfl (ret_tmp rfl) (permA 0 rfl (permA 0 rfl (permA 0 rfl permN)))) ⟨rfl, rfl⟩
theorem wn_graph_contractive_1 {c1 : ApiType} : ∀ (n : Nat) {i1 : Int} {z1 : (List Int)} {r_1 : Bool} {s_1 : (List Int)} {b_q2 : Nat} {a_q2c0 : Option Addr} {m_q2c0 : Nat} {cap_q2c0 : Nat} {b_q3 : Nat}, m_graph_contractive_1 c1 n i1 z1 = some (r_1, s_1) → Go.V.Fn Try.prog 116 [.i64 i1, .ref (ApiType.d c1), .v (.pointer (some ⟨b_q2, 0, none⟩)), .v (.pointer (some ⟨b_q3, 0, none⟩))] [box b_q2 28 [.v (.slice a_q2c0 m_q2c0 cap_q2c0)], arr a_q2c0 m_q2c0 cap_q2c0 3 1 D.i64 z1, box b_q3 120 [.clo (.func 116) [] [.ref (ApiType.d c1), .v (.pointer (some ⟨b_q2, 0, none⟩)), .v (.pointer (some ⟨b_q3, 0, none⟩))]]] (fun d ms' => d = .bool r_1 ∧ ms' = [box b_q2 28 [.v (.slice a_q2c0 m_q2c0 cap_q2c0)], arr a_q2c0 m_q2c0 cap_q2c0 3 1 D.i64 s_1, box b_q3 120 [.clo (.func 116) [] [.ref (ApiType.d c1), .v (.pointer (some ⟨b_q2, 0, none⟩)), .v (.pointer (some ⟨b_q3, 0, none⟩))]]])
  | 0 => by intros; rename_i h; cases h
  | n + 1 => by intros; rename_i h; exact wF_graph_contractive_1 (m_graph_contractive_1 c1 n) (fun h => wn_graph_contractive_1 n h) h
theorem w_graph_contractive_1 {c1 : ApiType} {i1 : Int} {z1 : (List Int)} {r_1 : Bool} {s_1 : (List Int)} {b_q2 : Nat} {a_q2c0 : Option Addr} {m_q2c0 : Nat} {cap_q2c0 : Nat} {b_q3 : Nat} (hm : m_graph_contractive_1 c1 FU i1 z1 = some (r_1, s_1)) : Go.V.Fn Try.prog 116 [.i64 i1, .ref (ApiType.d c1), .v (.pointer (some ⟨b_q2, 0, none⟩)), .v (.pointer (some ⟨b_q3, 0, none⟩))] [box b_q2 28 [.v (.slice a_q2c0 m_q2c0 cap_q2c0)], arr a_q2c0 m_q2c0 cap_q2c0 3 1 D.i64 z1, box b_q3 120 [.clo (.func 116) [] [.ref (ApiType.d c1), .v (.pointer (some ⟨b_q2, 0, none⟩)), .v (.pointer (some ⟨b_q3, 0, none⟩))]]] (fun d ms' => d = .bool r_1 ∧ ms' = [box b_q2 28 [.v (.slice a_q2c0 m_q2c0 cap_q2c0)], arr a_q2c0 m_q2c0 cap_q2c0 3 1 D.i64 s_1, box b_q3 120 [.clo (.func 116) [] [.ref (ApiType.d c1), .v (.pointer (some ⟨b_q2, 0, none⟩)), .v (.pointer (some ⟨b_q3, 0, none⟩))]]]) := wn_graph_contractive_1 FU hm
def m_graph_contractive_l1 (t1 : ApiType) : Nat → (Int × (List Int)) → Option (Out Bool (List Int))
  | 0, _ => none
  | n + 1, (x1, l2) =>
    bif (decide (x1 < (t1.l.length : Int))) then
      (m_graph_contractive_1 t1 FU x1 l2).bind fun (x2, z1) =>
      bif (!x2) then
        some (Out.ret false)
      else
        grd (InR (x1 + 1)) <|
        m_graph_contractive_l1 t1 n ((x1 + 1), z1)
    else
      some (Out.go (l2))
def m_graph_contractive (t1 : ApiType) : Option Bool :=
  grd (0 ≤ (t1.l.length : Int)) <|
  grd (((t1.l.length : Int)).toNat * 8 ≤ 140737488355328) <|
  ((m_graph_contractive_l1 t1 FU (0, (List.replicate ((t1.l.length : Int)).toNat (0 : Int))) : Option (Out Bool (List Int)))).bind (fun oo => oo.on (fun r1 => some r1) (fun l1 =>
  some true))
theorem w_graph_contractive {t1 : ApiType} {r_1 : Bool} (hm : m_graph_contractive t1 = some r_1) : Fn0 Try.prog 76 [ApiType.d t1] (.bool r_1) := by
  unfold m_graph_contractive at hm
  refine fn_intro Try.func76 rfl Try.ntmps76 rfl fun H0 fr w0 => ?_
  refine g_seq ?_
  refine g_region ?_
  refine go_p rfl rfl rfl (o_box rfl rfl) ?_
  refine go_p rfl rfl rfl (o_assign rfl) ?_
  refine go_nil ?_
  refine g_seq ?_
  refine g_region ?_
  refine go_p rfl rfl rfl (o_fieldAddr fi_53_0 rfl rfl rfl) ?_
  refine go_p rfl rfl rfl (o_load Try.isAgg51 rfl rfl) ?_
  refine go_p rfl rfl rfl (o_len Try.runUnderlying51 rfl) ?_
  obtain ⟨hg1, hm⟩ := grd_some hm
  obtain ⟨hg2, hm⟩ := grd_some hm
  refine go_op rfl rfl rfl (o_makeSlice (f := D.i64) (z0 := 0) Try.underlying28 Try.type3 rfl rfl rfl (Nat.le_of_ble_eq_true rfl) rfl rfl hg1 hg2 (Nat.le_of_ble_eq_true rfl)) ?_
  rintro _ _ ⟨a_r1, m_r1, cap_r1, rfl, rfl⟩
  refine go_op rfl rfl rfl (o_alloc_own Try.zeroValue28 (cs := [.list 1 D.i64 []]) rfl) ?_
  rintro _ _ ⟨b1, rfl, rfl⟩
  refine go_u rfl rfl (o_store_box 0 Try.sizeOf28 rfl rfl rfl rfl rfl rfl rfl rfl (Nat.le_of_ble_eq_true rfl)) ?_
  rintro _ _ rfl
  refine go_ms (ms' := [box b1 28 [_], _]) rfl ?_
  refine go_nil ?_
  refine g_seq ?_
  refine g_region ?_
  refine go_op rfl rfl rfl (o_alloc_own Try.zeroValue120 (cs := [.v .nilFunc]) rfl) ?_
  rintro _ _ ⟨b2, rfl, rfl⟩
  refine go_nil ?_
  refine g_seq ?_
  refine g_region ?_
  refine go_p rfl rfl rfl (o_makeFunc rfl rfl) ?_
  refine go_u rfl rfl (o_store_box 0 Try.sizeOf120 rfl rfl rfl rfl rfl rfl rfl rfl (Nat.le_of_ble_eq_true rfl)) ?_
  rintro _ _ rfl
  refine go_ms (ms' := [box b2 120 [_], box b1 28 [_], _]) rfl ?_
  refine go_nil ?_
  refine g_seq ?_
  refine g_seq ?_
  refine g_region ?_
  refine go_p rfl rfl rfl (o_fieldAddr fi_53_0 rfl rfl rfl) ?_
  refine go_p rfl rfl rfl (o_load Try.isAgg51 rfl rfl) ?_
  refine go_p rfl rfl rfl (o_len Try.runUnderlying51 rfl) ?_
  refine go_p rfl rfl rfl (o_move rfl) ?_
  refine go_nil ?_
  obtain ⟨o_1, hj1, hm1⟩ := bind_some hm
  refine g_cut_m [] [(0, _)] (fun (st : (List Int)) (hid : Unit) => match st, hid with | l1, _ => []) (fun F (st : (List Int)) (hid : Unit) => match st, hid with | l1, _ => [(nthF F 0), box b1 28 [.v (.slice a_r1 m_r1 cap_r1)], arr a_r1 m_r1 cap_r1 3 1 D.i64 l1]) (fun st => Out.go (st) = o_1) trivial ⟨rfl, trivial⟩ ?_ ?_
  · skip
    refine g_block ?_
    refine g_loop_m [(4, _), (13, _)] [(0, _)] (fun (st : (Int × (List Int))) (hid : Unit) => match st, hid with | (x1, l2), _ => [(14, .i64 x1)]) (fun F (st : (Int × (List Int))) (hid : Unit) => match st, hid with | (x1, l2), _ => [(nthF F 0), box b1 28 [.v (.slice a_r1 m_r1 cap_r1)], arr a_r1 m_r1 cap_r1 3 1 D.i64 l2]) () hj1 (fun _ => rfl) ⟨rfl, rfl, trivial⟩ ⟨rfl, trivial⟩ ⟨rfl, trivial⟩ rfl ?_
    rintro n ⟨x1, l2⟩ ⟨⟩ hj1
    rw [m_graph_contractive_l1] at hj1
    refine g_norm (L' := [(14, .i64 x1), (4, _), (13, _)]) (ms' := [_, box b1 28 [.v (.slice a_r1 m_r1 cap_r1)], arr a_r1 m_r1 cap_r1 3 1 D.i64 l2]) rfl rfl ?_
    refine g_seq ?_
    refine g_region ?_
    refine go_p rfl rfl rfl (o_cmp rfl rfl rfl) ?_
    refine go_nil ?_
    refine g_seq ?_
    refine g_cond rfl (fun hc1 => ?_) (fun hc1 => ?_)
    · replace hj1 := cond_t hc1 hj1
      refine g_skip ?_
      refine g_seq ?_
      refine g_block ?_
      refine g_seq ?_
      refine g_region ?_
      refine go_p rfl rfl rfl (o_move rfl) ?_
      refine go_p rfl rfl rfl (o_assign rfl) ?_
      refine go_nil ?_
      refine g_seq ?_
      refine g_region ?_
      refine go_p rfl rfl rfl (o_load_box 0 Try.isAgg120 rfl rfl rfl rfl) ?_
      refine go_p rfl rfl rfl (o_move rfl) ?_
      obtain ⟨⟨x2, z1⟩, hx3, hj1⟩ := bind_some hj1
      refine go_op rfl rfl rfl (o_callv_own [1, 2, 0] rfl rfl rfl (getL_c rfl (getL_c rfl (getL_c rfl getL_n))) (fv_clo Try.call116 (w_graph_contractive_1 hx3)) (by rintro _ _ ⟨rfl, rfl⟩; rfl)) ?_
      rintro _ _ ⟨_, ⟨rfl, rfl⟩, rfl⟩
      refine go_ms (ms' := [box b2 120 [_], box b1 28 [_], _]) rfl ?_
      refine go_p rfl rfl rfl (o_not rfl) ?_
      refine go_nil ?_
      refine g_cond rfl (fun hc2 => ?_) (fun hc2 => ?_)
      · replace hj1 := cond_t hc2 hj1
        refine g_seq ?_
        refine g_region ?_
        refine go_p rfl rfl rfl (o_assign rfl) ?_
        refine go_nil ?_
        refine g_ret ?_
        obtain rfl := some_eq hj1
        replace hm1 := on_ret hm1
        exact retK (ret_one' rfl (ret_tmp rfl) (perm_drop _)) (congrArg (fun (p : Bool) => (.bool p : D)) (some_eq hm1))
      · replace hj1 := cond_f hc2 hj1
        refine g_skip ?_
        refine g_region ?_
        obtain ⟨hg4, hj1⟩ := grd_some hj1
        refine go_p rfl rfl rfl (o_add rfl rfl (i64_id hg4)) ?_
        refine go_p rfl rfl rfl (o_move rfl) ?_
        refine go_nil ?_
        exact ⟨_, (), hj1, ⟨rfl, trivial⟩, ⟨rfl, rfl, trivial⟩, [], rfl⟩
    · replace hj1 := cond_f hc1 hj1
      refine g_exit ?_
      exact ⟨_, (), some_eq hj1, trivial, trivial, [], rfl⟩
  · rintro l1 ⟨⟩ hst
    subst hst
    replace hm1 := on_go hm1
    refine k_norm (L' := []) (ms' := [_, box b1 28 [.v (.slice a_r1 m_r1 cap_r1)], arr a_r1 m_r1 cap_r1 3 1 D.i64 l1]) rfl rfl ?_
    refine g_seq ?_
    refine g_region ?_
    refine go_p rfl rfl rfl (o_assign rfl) ?_
    refine go_nil ?_
    refine g_ret ?_
    exact retK (ret_one' rfl (ret_tmp rfl) (perm_drop _)) (congrArg (fun (p : Bool) => (.bool p : D)) (some_eq hm1))
theorem fi_53_1 : FieldIs Try.prog 53 1 1 1 false := ⟨⟨_, _, Try.runUnderlying53, rfl, rfl, Try.sizeOf3, by decide, Try.isAgg3⟩⟩
def m_graph_May (t1 : ApiType) : Option Int :=
  bif ((decide ((t1.l.length : Int) = 0)) || (decide (2000 < (t1.l.length : Int)))) then
    some 8
  else
    bif ((decide (t1.root < 0)) || (decide ((t1.l.length : Int) ≤ t1.root))) then
      some 4
    else
      (m_slices_ContainsFunc_api_TNode_api_TNode t1.l (fun y0 => m_graph_May_1 y0 t1)).bind fun x1 =>
      (bif x1 then (some true) else ((m_graph_contractive t1).bind fun x2 =>
      some (!x2))).bind fun p1 =>
      bif p1 then
        some 4
      else
        some 0
theorem w_graph_May {t1 : ApiType} {r_1 : Int} (hm : m_graph_May t1 = some r_1) : Fn0 Try.prog 31 [ApiType.d t1] (.i64 r_1) := by
  unfold m_graph_May at hm
  refine fn_intro Try.func31 rfl Try.ntmps31 rfl fun H0 fr w0 => ?_
  refine g_seq ?_
  refine g_region ?_
  refine go_p rfl rfl rfl (o_box rfl rfl) ?_
  refine go_p rfl rfl rfl (o_assign rfl) ?_
  refine go_nil ?_
  refine g_seq ?_
  refine g_block ?_
  refine g_seq ?_
  refine g_region ?_
  refine go_p rfl rfl rfl (o_fieldAddr fi_53_0 rfl rfl rfl) ?_
  refine go_p rfl rfl rfl (o_load Try.isAgg51 rfl rfl) ?_
  refine go_p rfl rfl rfl (o_len Try.runUnderlying51 rfl) ?_
  refine go_p rfl rfl rfl (o_cmp rfl rfl rfl) ?_
  refine go_p rfl rfl rfl (o_move rfl) ?_
  apply go_or [(1, _)] 5 13 (t := 8) ⟨rfl, trivial⟩ rfl
  · intro hg_1 hk1
    refine go_wantp rfl rfl rfl hg_1 rfl rfl (o_fieldAddr fi_53_0 rfl rfl rfl) ?_
    refine go_wantp rfl rfl rfl hg_1 rfl rfl (o_load Try.isAgg51 rfl rfl) ?_
    refine go_wantp rfl rfl rfl hg_1 rfl rfl (o_len Try.runUnderlying51 rfl) ?_
    refine go_wantp rfl rfl rfl hg_1 rfl rfl (o_cmp rfl rfl rfl) ?_
    refine go_p rfl rfl rfl (o_pickF rfl hg_1 rfl) ?_
    exact go_meet hk1 (rfl) ⟨rfl, trivial⟩
  · intro hg_1 hk1
    refine go_skip rfl rfl rfl hg_1 rfl rfl ?_
    refine go_skip rfl rfl rfl hg_1 rfl rfl ?_
    refine go_skip rfl rfl rfl hg_1 rfl rfl ?_
    refine go_skip rfl rfl rfl hg_1 rfl rfl ?_
    refine go_p rfl rfl rfl (o_pickT rfl hg_1 rfl) ?_
    exact go_meet hk1 (rfl) ⟨rfl, trivial⟩
  refine go_p rfl rfl rfl (o_assign rfl) ?_
  refine go_nil ?_
  refine g_cond rfl (fun hc1 => ?_) (fun hc1 => ?_)
  · replace hm := cond_t hc1 hm
    refine g_seq ?_
    refine g_region ?_
    refine go_p rfl rfl rfl (o_assign rfl) ?_
    refine go_nil ?_
    refine g_ret ?_
    exact retK (ret_one' rfl (ret_tmp rfl) (perm_drop _)) (congrArg (fun (p : Int) => (.i64 p : D)) (some_eq hm))
  · replace hm := cond_f hc1 hm
    refine g_seq ?_
    refine g_region ?_
    refine go_p rfl rfl rfl (o_fieldAddr fi_53_1 rfl rfl rfl) ?_
    refine go_p rfl rfl rfl (o_load Try.isAgg3 rfl rfl) ?_
    refine go_p rfl rfl rfl (o_cmp rfl rfl rfl) ?_
    refine go_p rfl rfl rfl (o_move rfl) ?_
    apply go_or [(1, _)] 7 25 (t := 18) ⟨rfl, trivial⟩ rfl
    · intro hg_2 hk2
      refine go_wantp rfl rfl rfl hg_2 rfl rfl (o_fieldAddr fi_53_1 rfl rfl rfl) ?_
      refine go_wantp rfl rfl rfl hg_2 rfl rfl (o_load Try.isAgg3 rfl rfl) ?_
      refine go_wantp rfl rfl rfl hg_2 rfl rfl (o_fieldAddr fi_53_0 rfl rfl rfl) ?_
      refine go_wantp rfl rfl rfl hg_2 rfl rfl (o_load Try.isAgg51 rfl rfl) ?_
      refine go_wantp rfl rfl rfl hg_2 rfl rfl (o_len Try.runUnderlying51 rfl) ?_
      refine go_wantp rfl rfl rfl hg_2 rfl rfl (o_cmp rfl rfl rfl) ?_
      refine go_p rfl rfl rfl (o_pickF rfl hg_2 rfl) ?_
      exact go_meet hk2 (rfl) ⟨rfl, trivial⟩
    · intro hg_2 hk2
      refine go_skip rfl rfl rfl hg_2 rfl rfl ?_
      refine go_skip rfl rfl rfl hg_2 rfl rfl ?_
      refine go_skip rfl rfl rfl hg_2 rfl rfl ?_
      refine go_skip rfl rfl rfl hg_2 rfl rfl ?_
      refine go_skip rfl rfl rfl hg_2 rfl rfl ?_
      refine go_skip rfl rfl rfl hg_2 rfl rfl ?_
      refine go_p rfl rfl rfl (o_pickT rfl hg_2 rfl) ?_
      exact go_meet hk2 (rfl) ⟨rfl, trivial⟩
    refine go_p rfl rfl rfl (o_assign rfl) ?_
    refine go_nil ?_
    refine g_cond rfl (fun hc2 => ?_) (fun hc2 => ?_)
    · replace hm := cond_t hc2 hm
      refine g_seq ?_
      refine g_region ?_
      refine go_p rfl rfl rfl (o_assign rfl) ?_
      refine go_nil ?_
      refine g_ret ?_
      exact retK (ret_one' rfl (ret_tmp rfl) (perm_drop _)) (congrArg (fun (p : Int) => (.i64 p : D)) (some_eq hm))
    · replace hm := cond_f hc2 hm
      refine g_skip ?_
      refine g_seq ?_
      refine g_seq ?_
      refine g_region ?_
      refine go_p rfl rfl rfl (o_fieldAddr fi_53_0 rfl rfl rfl) ?_
      refine go_p rfl rfl rfl (o_load Try.isAgg51 rfl rfl) ?_
      refine go_p rfl rfl rfl (o_makeFunc rfl rfl) ?_
      obtain ⟨x1, hx1, hm⟩ := bind_some hm
      refine go_p rfl rfl rfl (o_call0 Try.call73 rfl (w_slices_ContainsFunc_api_TNode_api_TNode (fun _ _ h => fv_clo Try.call74 (w_graph_May_1 h)) hx1)) ?_
      refine go_p rfl rfl rfl (o_move rfl) ?_
      obtain ⟨p1, hp_3, hm⟩ := bind_some hm
      refine go_two [] 4 34 p1 (t := 30) trivial rfl (fun hg_3 hk3 => ?_) (fun hg_3 hk3 => ?_) ?_
      · replace hp_3 := cond_t hg_3 hp_3
        refine go_skip rfl rfl rfl hg_3 rfl rfl ?_
        refine go_skip rfl rfl rfl hg_3 rfl rfl ?_
        refine go_skip rfl rfl rfl hg_3 rfl rfl ?_
        refine go_p rfl rfl rfl (o_pickT rfl hg_3 rfl) ?_
        exact go_meet hk3 (congrArg (fun b => some (D.bool b)) (some_eq hp_3)) trivial
      · replace hp_3 := cond_f hg_3 hp_3
        refine go_wantp rfl rfl rfl hg_3 rfl rfl (o_load_agg Try.isAgg53 Try.sizeOf53 rfl rfl) ?_
        obtain ⟨x2, hx2, hp_3⟩ := bind_some hp_3
        refine go_wantp rfl rfl rfl hg_3 rfl rfl (o_call0 Try.call76 rfl (w_graph_contractive hx2)) ?_
        refine go_wantp rfl rfl rfl hg_3 rfl rfl (o_not rfl) ?_
        refine go_p rfl rfl rfl (o_pickF rfl hg_3 rfl) ?_
        exact go_meet hk3 (congrArg (fun b => some (D.bool b)) (some_eq hp_3)) trivial
      refine go_nil ?_
      refine g_cond rfl (fun hc3 => ?_) (fun hc3 => ?_)
      · replace hm := cond_t hc3 hm
        refine g_seq ?_
        refine g_region ?_
        refine go_p rfl rfl rfl (o_assign rfl) ?_
        refine go_nil ?_
        refine g_ret ?_
        exact retK (ret_one' rfl (ret_tmp rfl) (perm_drop _)) (congrArg (fun (p : Int) => (.i64 p : D)) (some_eq hm))
      · replace hm := cond_f hc3 hm
        refine g_skip ?_
        refine g_seq ?_
        refine g_region ?_
        refine go_p rfl rfl rfl (o_assign rfl) ?_
        refine go_nil ?_
        refine g_ret ?_
        exact retK (ret_one' rfl (ret_tmp rfl) (perm_drop _)) (congrArg (fun (p : Int) => (.i64 p : D)) (some_eq hm))
def m_slices_Reverse_int_int_l1  : Nat → (Int × Int × (List Int)) → Option (List Int)
  | 0, _ => none
  | n + 1, (i1, j1, l1) =>
    bif (decide (i1 < j1)) then
      (idx l1 j1).bind fun x1 =>
      (idx l1 i1).bind fun x2 =>
      (idx l1 i1).bind fun x3 =>
      (idx l1 j1).bind fun x4 =>
      (idx (l1.set (i1).toNat x1) j1).bind fun x5 =>
      grd (InR (i1 + 1)) <|
      grd (InR (j1 - 1)) <|
      m_slices_Reverse_int_int_l1 n ((i1 + 1), (j1 - 1), ((l1.set (i1).toNat x1).set (j1).toNat x2))
    else
      some l1
def m_slices_Reverse_int_int (s1 : (List Int))  : Option (List Int) :=
  grd (InR ((s1.length : Int) - 1)) <|
  m_slices_Reverse_int_int_l1 FU (0, ((s1.length : Int) - 1), s1)
theorem w_slices_Reverse_int_int {s1 : (List Int)}  {s_1 : (List Int)} {a_q0 : Option Addr} {m_q0 cap_q0 : Nat} (hm : m_slices_Reverse_int_int s1 = some s_1) : Go.V.Fn Try.prog 120 [.v (.slice a_q0 m_q0 cap_q0)] [arr a_q0 m_q0 cap_q0 3 1 D.i64 s1] (fun d ms' => d = .tup [] ∧ ms' = [arr a_q0 m_q0 cap_q0 3 1 D.i64 s_1]) := by
  unfold m_slices_Reverse_int_int at hm
  refine fn_intro Try.func120 rfl Try.ntmps120 rfl fun H0 fr w0 => ?_
  refine g_seq ?_
  refine g_region ?_
  refine go_p rfl rfl rfl (o_move rfl) ?_
  refine go_p rfl rfl rfl (o_len_arr 0 Try.runUnderlying28 rfl rfl) ?_
  obtain ⟨hg1, hm⟩ := grd_some hm
  refine go_p rfl rfl rfl (o_sub rfl rfl (i64_id hg1)) ?_
  refine go_p rfl rfl rfl (o_assign rfl) ?_
  refine go_p rfl rfl rfl (o_assign rfl) ?_
  refine go_nil ?_
  refine g_block ?_
  refine g_loop_m [(0, _)] [] (fun (st : (Int × Int × (List Int))) (hid : Unit) => match st, hid with | (i1, j1, l1), _ => [(2, .i64 i1), (3, .i64 j1)]) (fun F (st : (Int × Int × (List Int))) (hid : Unit) => match st, hid with | (i1, j1, l1), _ => [arr a_q0 m_q0 cap_q0 3 1 D.i64 l1]) () hm (fun _ => rfl) ⟨rfl, trivial⟩ trivial ⟨rfl, rfl, trivial⟩ rfl ?_
  rintro n ⟨i1, j1, l1⟩ ⟨⟩ hm
  rw [m_slices_Reverse_int_int_l1] at hm
  refine g_norm (L' := [(2, .i64 i1), (3, .i64 j1), (0, _)]) (ms' := [arr a_q0 m_q0 cap_q0 3 1 D.i64 l1]) rfl rfl ?_
  refine g_seq ?_
  refine g_seq ?_
  refine g_region ?_
  refine go_p rfl rfl rfl (o_move rfl) ?_
  refine go_p rfl rfl rfl (o_move rfl) ?_
  refine go_p rfl rfl rfl (o_cmp rfl rfl rfl) ?_
  refine go_nil ?_
  refine g_cond rfl (fun hc1 => ?_) (fun hc1 => ?_)
  · replace hm := cond_t hc1 hm
    refine g_skip ?_
    refine g_seq ?_
    refine g_block ?_
    obtain ⟨x1, hx2, hm⟩ := bind_some hm
    obtain ⟨x2, hx3, hm⟩ := bind_some hm
    obtain ⟨x3, hx4, hm⟩ := bind_some hm
    obtain ⟨x4, hx5, hm⟩ := bind_some hm
    obtain ⟨x5, hx6, hm⟩ := bind_some hm
    refine g_draw_c [13, 15] [2, 3, 14] [14] Try_mixed (by decide +kernel) (by decide +kernel) rfl ?_
    refine gde_p rfl rfl rfl rfl rfl rfl (o_move rfl) ?_
    refine gde_p rfl rfl rfl rfl rfl rfl (o_move rfl) ?_
    refine gde_p rfl rfl rfl rfl rfl rfl (o_move rfl) ?_
    refine gde_p rfl rfl rfl rfl rfl rfl (o_move rfl) ?_
    refine gde_p rfl rfl rfl rfl rfl rfl (o_move rfl) ?_
    refine gde_p rfl rfl rfl rfl rfl rfl (o_move rfl) ?_
    refine gde_p rfl rfl rfl rfl rfl rfl (o_indexAddr_arr 0 Try.runUnderlying28 Try.sizeOf3 rfl rfl rfl hx2) ?_
    refine gde_p rfl rfl rfl rfl rfl rfl (o_load_arr (off := 0) 0 Try.isAgg3 rfl rfl (idx_some hx2).2 rfl rfl rfl) ?_
    refine gde_p rfl rfl rfl rfl rfl rfl (o_move rfl) ?_
    refine gde_p rfl rfl rfl rfl rfl rfl (o_move rfl) ?_
    refine gde_p rfl rfl rfl rfl rfl rfl (o_indexAddr_arr 0 Try.runUnderlying28 Try.sizeOf3 rfl rfl rfl hx3) ?_
    refine gde_p rfl rfl rfl rfl rfl rfl (o_load_arr (off := 0) 0 Try.isAgg3 rfl rfl (idx_some hx3).2 rfl rfl rfl) ?_
    refine gde_p rfl rfl rfl rfl rfl rfl (o_indexAddr_arr 0 Try.runUnderlying28 Try.sizeOf3 rfl rfl rfl hx4) ?_
    refine gde_e rfl ?_
    refine gde_f rfl rfl rfl rfl rfl (o_indexAddr_arr2 0 Try.runUnderlying28 Try.sizeOf3 rfl rfl rfl (by first | exact idx_ex hx5 | exact idx_ex_set (idx_ex hx5) | exact idx_ex_set (idx_ex_set (idx_ex hx5)))) ?_
    refine gde_e rfl ?_
    refine gde_nil ?_
    refine gde2_u rfl rfl rfl (o_store_arr (off := 0) (z' := x1) 0 Try.sizeOf3 rfl rfl (idx_some hx4).2 rfl rfl rfl rfl rfl rfl (Nat.le_of_ble_eq_true rfl) rfl rfl) ?_
    rintro _ _ rfl
    refine ⟨⟨trivial, o_indexAddr_arr2 0 Try.runUnderlying28 Try.sizeOf3 rfl rfl rfl (by first | exact idx_ex hx5 | exact idx_ex_set (idx_ex hx5) | exact idx_ex_set (idx_ex_set (idx_ex hx5)))⟩, ?_⟩
    refine gde2_u rfl rfl rfl (o_store_arr (off := 0) (z' := x2) 0 Try.sizeOf3 rfl rfl (idx_some hx6).2 rfl rfl rfl rfl rfl rfl (Nat.le_of_ble_eq_true rfl) rfl rfl) ?_
    rintro _ _ rfl
    refine ⟨⟨trivial, o_indexAddr_arr2 0 Try.runUnderlying28 Try.sizeOf3 rfl rfl rfl (by first | exact idx_ex hx5 | exact idx_ex_set (idx_ex hx5) | exact idx_ex_set (idx_ex_set (idx_ex hx5)))⟩, ?_⟩
    refine gde2_nil ?_
    refine g_region ?_
    refine go_p rfl rfl rfl (o_move rfl) ?_
    obtain ⟨hg7, hm⟩ := grd_some hm
    refine go_p rfl rfl rfl (o_add rfl rfl (i64_id hg7)) ?_
    refine go_p rfl rfl rfl (o_move rfl) ?_
    obtain ⟨hg8, hm⟩ := grd_some hm
    refine go_p rfl rfl rfl (o_sub rfl rfl (i64_id hg8)) ?_
    refine go_p rfl rfl rfl (o_assign rfl) ?_
    refine go_p rfl rfl rfl (o_assign rfl) ?_
    refine go_nil ?_
    exact ⟨_, (), hm, ⟨rfl, rfl, trivial⟩, ⟨rfl, trivial⟩, [], rfl⟩
  · replace hm := cond_f hc1 hm
    refine g_exit ?_
    obtain rfl := some_eq hm
    exact retKn (ret_none rfl (permA 0 rfl permN)) ⟨rfl, rfl⟩
def m_below_l1 (c1 : ApiType) : Nat → ((List Int) × (List Bool)) → Option (List Int)
  | 0, _ => none
  | n + 1, (l1, l2) =>
    bif (decide (0 < (l1.length : Int))) then
      grd (InR ((l1.length : Int) - 1)) <|
      (idx l1 ((l1.length : Int) - 1)).bind fun x1 =>
      grd (InR ((l1.length : Int) - 1)) <|
      (sli l1 0 ((l1.length : Int) - 1)).bind fun l3 =>
      (idx l2 x1).bind fun x2 =>
      bif x2 then
        m_below_l1 c1 n (l3, l2)
      else
        (idx l2 x1).bind fun x3 =>
        ((idx c1.l x1).bind fun x4 =>
        (m_graph_Kids x4).bind fun x5 =>
        grd (x5.length * 8 ≤ 140737488355328) <|
        (m_slices_Reverse_int_int x5).bind fun l4 =>
        grd ((l3.length + l4.length) * 8 ≤ 140737488355328) <|
        m_below_l1 c1 n ((l3 ++ l4), (l2.set (x1).toNat true))).bind fun ys => some (x1 :: ys)
    else
      some []
def m_below (c1 : ApiType) (c2 : Int) : Option (List Int) :=
  grd (0 ≤ (c1.l.length : Int)) <|
  grd (((c1.l.length : Int)).toNat * 1 ≤ 140737488355328) <|
  m_below_l1 c1 FU ([c2], (List.replicate ((c1.l.length : Int)).toNat (false : Bool)))
theorem it_below {c1 : ApiType} {c2 : Int} {xs : (List Int)} (hm : m_below c1 c2 = some xs) : Iter Try.prog 118 [.ref (ApiType.d c1), .ref (.i64 c2)] (xs.map fun (p : Int) => [.i64 p]) := by
  intro y hys J Jx hy tl_0 hJ_0
  have hk_0 : 0 ≤ xs.length := Nat.zero_le _
  replace hm : _ = some (xs.drop 0) := hm
  unfold m_below at hm
  refine fn_intro Try.func118 rfl Try.ntmps118 rfl fun H0 fr w0 => ?_
  refine g_seq ?_
  refine g_region ?_
  refine go_p rfl rfl rfl (o_fieldAddr fi_53_0 rfl rfl rfl) ?_
  refine go_p rfl rfl rfl (o_load Try.isAgg51 rfl rfl) ?_
  refine go_p rfl rfl rfl (o_len Try.runUnderlying51 rfl) ?_
  obtain ⟨hg1, hm⟩ := grd_some hm
  obtain ⟨hg2, hm⟩ := grd_some hm
  refine go_op rfl rfl rfl (o_makeSlice (f := D.bool) (z0 := false) Try.underlying116 Try.type4 rfl rfl rfl (Nat.le_of_ble_eq_true rfl) rfl rfl hg1 hg2 (Nat.le_of_ble_eq_true rfl)) ?_
  rintro _ _ ⟨a_r1, m_r1, cap_r1, rfl, rfl⟩
  refine go_p rfl rfl rfl (o_assign rfl) ?_
  refine go_nil ?_
  refine g_seq ?_
  refine g_region ?_
  refine go_p rfl rfl rfl (o_load Try.isAgg3 rfl rfl) ?_
  refine go_op rfl rfl rfl (o_buildSlice_arr (xs := [_]) (f := D.i64) (l := [_]) Try.runUnderlying28 Try.sizeOf3 Try.zeroValue3 rfl rfl rfl (fun _ => ⟨rfl, rfl, rfl⟩) rfl (by simp [maxLen])) ?_
  rintro _ _ ⟨a_r2, m_r2, cap_r2, rfl, rfl⟩
  refine go_p rfl rfl rfl (o_assign rfl) ?_
  refine go_nil ?_
  refine g_block ?_
  refine g_loop_y (fun (hid : {p : Nat × List Asrt // p.1 ≤ xs.length ∧ J p.1 p.2} × (Option Addr × Nat × Nat) × Unit) => xs.drop hid.1.1.1) [(0, _), (1, _), (4, _)] [] (fun (st : ((List Int) × (List Bool))) (hid : {p : Nat × List Asrt // p.1 ≤ xs.length ∧ J p.1 p.2} × (Option Addr × Nat × Nat) × Unit) => match st, hid with | (l1, l2), (⟨(k_3, tl_3), hk_3, hJ_3⟩, (a_r2, m_r2, cap_r2), _) => [(5, .v (.slice a_r2 m_r2 cap_r2))]) (fun F (st : ((List Int) × (List Bool))) (hid : {p : Nat × List Asrt // p.1 ≤ xs.length ∧ J p.1 p.2} × (Option Addr × Nat × Nat) × Unit) => match st, hid with | (l1, l2), (⟨(k_3, tl_3), hk_3, hJ_3⟩, (a_r2, m_r2, cap_r2), _) => [arr a_r2 m_r2 cap_r2 3 1 D.i64 l1, arr a_r1 m_r1 cap_r1 4 1 D.bool l2] ++ tl_3) (⟨(0, tl_0), hk_0, hJ_0⟩, (_, _, _), ()) hm rfl (fun _ => rfl) ⟨rfl, rfl, rfl, trivial⟩ trivial ⟨rfl, trivial⟩ rfl ?_
  rintro n ⟨l1, l2⟩ ⟨⟨⟨k_3, tl_3⟩, hk_3, hJ_3⟩, ⟨a_r2, m_r2, cap_r2⟩, ⟨⟩⟩ hm
  replace hm : _ = some (xs.drop k_3) := hm
  rw [m_below_l1] at hm
  refine g_norm (L' := [(5, .v (.slice a_r2 m_r2 cap_r2)), (0, _), (1, _), (4, _)]) (ms' := [arr a_r2 m_r2 cap_r2 3 1 D.i64 l1, arr a_r1 m_r1 cap_r1 4 1 D.bool l2] ++ tl_3) rfl rfl ?_
  refine g_seq ?_
  refine g_seq ?_
  refine g_region ?_
  refine go_p rfl rfl rfl (o_move rfl) ?_
  refine go_p rfl rfl rfl (o_len_arr 0 Try.runUnderlying28 rfl rfl) ?_
  refine go_p rfl rfl rfl (o_cmp rfl rfl rfl) ?_
  refine go_nil ?_
  refine g_cond rfl (fun hc1 => ?_) (fun hc1 => ?_)
  · replace hm := cond_t hc1 hm
    refine g_skip ?_
    refine g_block ?_
    refine g_seq ?_
    refine g_region ?_
    refine go_p rfl rfl rfl (o_move rfl) ?_
    refine go_p rfl rfl rfl (o_move rfl) ?_
    refine go_p rfl rfl rfl (o_len_arr 0 Try.runUnderlying28 rfl rfl) ?_
    obtain ⟨hg3, hm⟩ := grd_some hm
    refine go_p rfl rfl rfl (o_sub rfl rfl (i64_id hg3)) ?_
    obtain ⟨x1, hx4, hm⟩ := bind_some hm
    refine go_p rfl rfl rfl (o_indexAddr_arr 0 Try.runUnderlying28 Try.sizeOf3 rfl rfl rfl hx4) ?_
    refine go_p rfl rfl rfl (o_load_arr (off := 0) 0 Try.isAgg3 rfl rfl (idx_some hx4).2 rfl rfl rfl) ?_
    refine go_p rfl rfl rfl (o_assign rfl) ?_
    refine go_nil ?_
    refine g_seq ?_
    refine g_region ?_
    refine go_p rfl rfl rfl (o_move rfl) ?_
    refine go_p rfl rfl rfl (o_move rfl) ?_
    refine go_p rfl rfl rfl (o_len_arr 0 Try.runUnderlying28 rfl rfl) ?_
    obtain ⟨hg5, hm⟩ := grd_some hm
    refine go_p rfl rfl rfl (o_sub rfl rfl (i64_id hg5)) ?_
    obtain ⟨l3, hx6, hm⟩ := bind_some hm
    refine go_op rfl rfl rfl (o_slice_trunc 0 Try.runUnderlying28 Try.sizeOf3 rfl rfl rfl hx6) ?_
    rintro _ _ ⟨a_r2, m_r2, cap_r2, rfl, rfl⟩
    refine go_p rfl rfl rfl (o_assign rfl) ?_
    refine go_nil ?_
    refine g_seq ?_
    refine g_seq ?_
    refine g_region ?_
    refine go_p rfl rfl rfl (o_move rfl) ?_
    refine go_p rfl rfl rfl (o_move rfl) ?_
    obtain ⟨x2, hx7, hm⟩ := bind_some hm
    refine go_p rfl rfl rfl (o_indexAddr_arr 1 Try.runUnderlying116 Try.sizeOf4 rfl rfl rfl hx7) ?_
    refine go_p rfl rfl rfl (o_load_arr (off := 0) 1 Try.isAgg4 rfl rfl (idx_some hx7).2 rfl rfl rfl) ?_
    refine go_nil ?_
    refine g_cond rfl (fun hc2 => ?_) (fun hc2 => ?_)
    · replace hm := cond_t hc2 hm
      refine g_exit ?_
      exact ⟨_, (⟨(k_3, tl_3), hk_3, hJ_3⟩, (_, _, _), ()), hm, ⟨rfl, trivial⟩, ⟨rfl, rfl, rfl, trivial⟩, [], rfl⟩
    · replace hm := cond_f hc2 hm
      refine g_skip ?_
      refine g_seq ?_
      refine g_region ?_
      refine go_p rfl rfl rfl (o_move rfl) ?_
      refine go_p rfl rfl rfl (o_move rfl) ?_
      obtain ⟨x3, hx8, hm⟩ := bind_some hm
      refine go_p rfl rfl rfl (o_indexAddr_arr 1 Try.runUnderlying116 Try.sizeOf4 rfl rfl rfl hx8) ?_
      refine go_u rfl rfl (o_store_arr (off := 0) (z' := true) 1 Try.sizeOf4 rfl rfl (idx_some hx8).2 rfl rfl rfl rfl rfl rfl (Nat.le_of_ble_eq_true rfl) rfl rfl) ?_
      rintro _ _ rfl
      refine go_ms (ms' := [_, _] ++ tl_3) rfl ?_
      refine go_nil ?_
      refine g_seq ?_
      refine g_seq ?_
      refine g_region ?_
      refine go_p rfl rfl rfl (o_move rfl) ?_
      refine go_p rfl rfl rfl (o_move rfl) ?_
      obtain ⟨ys_4, hm, he_4⟩ := bind_some hm
      obtain ⟨hy_4, hk_4, rfl⟩ := yield_at he_4
      refine go_op rfl rfl rfl (o_yield [_, _] tl_3 rfl rfl (hy k_3 _ tl_3 (map_at hy_4) hJ_3)) ?_
      rintro _ _ ⟨_ | _, tl_4, rfl, rfl, hJ_4, hs_4⟩
      · skip
        refine go_p rfl rfl rfl (o_not rfl) ?_
        refine go_nil ?_
        refine g_cond_true rfl rfl ?_
        refine g_ret ?_
        exact retK (ret_none (ms' := tl_4) (drop := [_, _]) rfl (List.Perm.refl _)) (.inr (hs_4 rfl))
      · skip
        refine go_p rfl rfl rfl (o_not rfl) ?_
        refine go_nil ?_
        refine g_cond_false rfl rfl ?_
        refine g_skip ?_
        refine g_seq ?_
        refine g_region ?_
        refine go_p rfl rfl rfl (o_fieldAddr fi_53_0 rfl rfl rfl) ?_
        refine go_p rfl rfl rfl (o_load Try.isAgg51 rfl rfl) ?_
        refine go_p rfl rfl rfl (o_move rfl) ?_
        obtain ⟨x4, hx9, hm⟩ := bind_some hm
        refine go_p rfl rfl rfl (o_indexAddr_m Try.runUnderlying51 Try.sizeOf56 rfl rfl hx9) ?_
        refine go_p rfl rfl rfl (o_load_agg Try.isAgg56 Try.sizeOf56 rfl rfl) ?_
        obtain ⟨x5, hx10, hm⟩ := bind_some hm
        refine go_p rfl rfl rfl (o_call0 Try.call32 rfl (w_graph_Kids hx10)) ?_
        obtain ⟨hg11, hm⟩ := grd_some hm
        refine go_op rfl rfl rfl (o_call (ms₁ := []) Try.call119 rfl (List.Perm.refl _) (w_Clone_119 hg11)) ?_
        rintro _ _ ⟨_, ⟨a_r3, cap_r3, rfl, rfl⟩, rfl⟩
        generalize hm_r3 : x5.length = m_r3
        clear hm_r3
        refine go_p rfl rfl rfl (o_assign rfl) ?_
        refine go_nil ?_
        refine g_seq ?_
        refine g_region ?_
        refine go_p rfl rfl rfl (o_move rfl) ?_
        obtain ⟨l4, hx12, hm⟩ := bind_some hm
        refine go_op rfl rfl rfl (o_call_own [0] Try.call120 rfl rfl (getL_c rfl getL_n) (w_slices_Reverse_int_int hx12) (by rintro _ _ ⟨rfl, rfl⟩; rfl)) ?_
        rintro _ _ ⟨_, ⟨rfl, rfl⟩, rfl⟩
        refine go_ms (ms' := [_, _, _] ++ tl_4) rfl ?_
        refine go_nil ?_
        refine g_region ?_
        refine go_p rfl rfl rfl (o_move rfl) ?_
        refine go_p rfl rfl rfl (o_move rfl) ?_
        refine go_thaw 0 rfl rfl ?_
        rintro rfl
        obtain ⟨hg13, hm⟩ := grd_some hm
        refine go_op rfl rfl rfl (.view (peekE (i := 49) 0 rfl rfl rfl) (o_append_own (a := _) 1 Try.underlying28 Try.type3 rfl rfl rfl rfl rfl rfl (fun _ => rfl) (fun _ => rfl) hg13 (app_len hg13 rfl))) ?_
        rintro _ _ ⟨a_r2, m_r2, cap_r2, rfl, rfl⟩
        refine go_ms (ms' := [_, _, _] ++ tl_4) rfl ?_
        refine go_p rfl rfl rfl (o_assign rfl) ?_
        refine go_nil ?_
        exact ⟨_, (⟨((k_3 + 1), tl_4), hk_4, (hJ_4 rfl)⟩, (_, _, _), ()), hm, ⟨rfl, trivial⟩, ⟨rfl, rfl, rfl, trivial⟩, [_], rfl⟩
  · replace hm := cond_f hc1 hm
    refine g_exit ?_
    exact retKn (ret_none (ms' := tl_3) (drop := [_, _]) rfl (List.Perm.refl _)) (.inl (yield_end hm hk_3 hJ_3 _))
theorem w_below {p0 : ApiType} {p1 : Int} :
    Fn0 Try.prog 79 [ApiType.d p0, .i64 p1] (.clo (.func 118) [] [.ref (ApiType.d p0), .ref (.i64 p1)]) := by
  refine fn_intro Try.func79 rfl Try.ntmps79 rfl fun H0 fr w0 => ?_
  refine g_seq ?_
  refine g_region ?_
  refine go_p rfl rfl rfl (o_box rfl rfl) ?_
  refine go_p rfl rfl rfl (o_box rfl rfl) ?_
  refine go_p rfl rfl rfl (o_assign rfl) ?_
  refine go_nil ?_
  refine g_seq ?_
  refine g_region ?_
  refine go_p rfl rfl rfl (o_makeFunc rfl rfl) ?_
  refine go_p rfl rfl rfl (o_assign rfl) ?_
  refine go_nil ?_
  refine g_ret ?_
  exact retK (ret_one' rfl (ret_tmp rfl) (perm_drop _)) (by rfl) -- ret1 
theorem pl_53 : ∀ fs, (∀ w, (underlying 53).run Try.prog w = .ok (.struct fs) w) → placesOf Try.prog fs [(0, 1), (1, 1)] := by
  intro fs h w
  have := (h w).symm.trans (Try.runUnderlying53 w)
  simp only [Result.ok.injEq, TypeDesc.struct.injEq, and_true] at this
  subst this
  simp [Try.sizeOf3, Try.sizeOf51, Sem.run]
def m_syntagmalaw13_Few_l1 (t1 : ApiType) (most1 : Int) : Nat → (Int × (List ApiTNode) × Int) → Option ((List ApiTNode) × Int)
  | 0, _ => none
  | n + 1, (i1, l2, z2) =>
    bif ((decide (i1 < (t1.l.length : Int))) && ((decide (i1 < most1)) || ((decide (2000 < (t1.l.length : Int))) && (decide (i1 ≤ 2000))))) then
      (idx t1.l i1).bind fun x1 =>
      (sli x1.l 0 (if 40 < (x1.l.length : Int) then 40 else (x1.l.length : Int))).bind fun l3 =>
      grd ((0 + l3.length) * 24 ≤ 140737488355328) <|
      grd ((l2.length + ([(⟨x1.kind, x1.a, x1.b, ([] ++ l3)⟩ : ApiTNode)] : List _).length) * 48 ≤ 140737488355328) <|
      grd (InR (i1 + 1)) <|
      m_syntagmalaw13_Few_l1 t1 most1 n ((i1 + 1), (l2 ++ [(⟨x1.kind, x1.a, x1.b, ([] ++ l3)⟩ : ApiTNode)]), z2)
    else
      some (l2, z2)
def m_syntagmalaw13_Few (t1 : ApiType) (most1 : Int) : Option ApiType :=
  (m_syntagmalaw13_Few_l1 t1 most1 FU (0, ([] : List ApiTNode), t1.root) : Option ((List ApiTNode) × Int)).bind fun (l1, z1) =>
  some (⟨l1, z1⟩ : ApiType)
theorem w_syntagmalaw13_Few {t1 : ApiType} {most1 : Int} {r_1 : ApiType} (hm : m_syntagmalaw13_Few t1 most1 = some r_1) : Fn0 Try.prog 28 [ApiType.d t1, .i64 most1] (ApiType.d r_1) := by
  unfold m_syntagmalaw13_Few at hm
  refine fn_intro Try.func28 rfl Try.ntmps28 rfl fun H0 fr w0 => ?_
  refine g_seq ?_
  refine g_region ?_
  refine go_p rfl rfl rfl (o_box rfl rfl) ?_
  refine go_op rfl rfl rfl (o_alloc_own Try.zeroValue53 (cs := [.list 4 ApiTNode.d [], .i64 0]) rfl) ?_
  rintro _ _ ⟨b1, rfl, rfl⟩
  refine go_nil ?_
  refine g_seq ?_
  refine g_region ?_
  refine go_p rfl rfl rfl (o_fieldAddr fi_53_1 rfl rfl rfl) ?_
  refine go_p rfl rfl rfl (o_load Try.isAgg3 rfl rfl) ?_
  refine go_p rfl rfl rfl (o_build (zs := [.v (.slice none 0 0), .v (.int .i64 0)]) Try.runUnderlying53 Try.zeroValue53 (pl_53 _ Try.runUnderlying53) rfl rfl rfl rfl) ?_
  refine go_op rfl rfl rfl (o_alloc_own Try.zeroValue53 (cs := [.list 4 ApiTNode.d [], .i64 0]) rfl) ?_
  rintro _ _ ⟨b2, rfl, rfl⟩
  refine go_u rfl rfl (o_store_box 0 Try.sizeOf53 rfl rfl rfl rfl rfl rfl rfl rfl (Nat.le_of_ble_eq_true rfl)) ?_
  rintro _ _ rfl
  refine go_conv (refines_newrow (T := 56) (sz := 4) (f := ApiTNode.d)) ?_
  refine go_ms (ms' := [_, box b2 53 [_, _], box b1 53 [_, _]]) rfl ?_
  refine go_nil ?_
  refine g_seq ?_
  refine g_seq ?_
  refine g_region ?_
  refine go_p rfl rfl rfl (o_assign rfl) ?_
  refine go_nil ?_
  obtain ⟨o_1, hj1, hm1⟩ := bind_some hm
  refine g_cut_m [(4, _), (5, _)] [(2, _)] (fun (st : ((List ApiTNode) × Int)) (hid : (Option Addr × Nat)) => match st, hid with | (l1, z1), (a_r1, cap_r1) => []) (fun F (st : ((List ApiTNode) × Int)) (hid : (Option Addr × Nat)) => match st, hid with | (l1, z1), (a_r1, cap_r1) => [row a_r1 cap_r1 56 4 ApiTNode.d l1, box b2 53 [.v (.slice a_r1 l1.length cap_r1), .i64 z1], (nthF F 0)]) (fun st => st = o_1) ⟨rfl, rfl, trivial⟩ ⟨rfl, trivial⟩ ?_ ?_
  · skip
    refine g_block ?_
    refine g_loop_m [(1, _), (2, _), (4, _), (5, _)] [(2, _)] (fun (st : (Int × (List ApiTNode) × Int)) (hid : (Option Addr × Nat)) => match st, hid with | (i1, l2, z2), (a_r1, cap_r1) => [(6, .i64 i1)]) (fun F (st : (Int × (List ApiTNode) × Int)) (hid : (Option Addr × Nat)) => match st, hid with | (i1, l2, z2), (a_r1, cap_r1) => [row a_r1 cap_r1 56 4 ApiTNode.d l2, box b2 53 [.v (.slice a_r1 l2.length cap_r1), .i64 z2], (nthF F 0)]) (_, _) hj1 (fun _ => rfl) ⟨rfl, rfl, rfl, rfl, trivial⟩ ⟨rfl, trivial⟩ ⟨rfl, trivial⟩ rfl ?_
    rintro n ⟨i1, l2, z2⟩ ⟨a_r1, cap_r1⟩ hj1
    rw [m_syntagmalaw13_Few_l1] at hj1
    refine g_norm (L' := [(6, .i64 i1), (1, _), (2, _), (4, _), (5, _)]) (ms' := [row a_r1 cap_r1 56 4 ApiTNode.d l2, box b2 53 [.v (.slice a_r1 l2.length cap_r1), .i64 z2], _]) rfl rfl ?_
    refine g_seq ?_
    refine g_seq ?_
    refine g_region ?_
    refine go_p rfl rfl rfl (o_move rfl) ?_
    refine go_p rfl rfl rfl (o_fieldAddr fi_53_0 rfl rfl rfl) ?_
    refine go_p rfl rfl rfl (o_load Try.isAgg51 rfl rfl) ?_
    refine go_p rfl rfl rfl (o_len Try.runUnderlying51 rfl) ?_
    refine go_p rfl rfl rfl (o_cmp rfl rfl rfl) ?_
    refine go_p rfl rfl rfl (o_move rfl) ?_
    apply go_and [(1, _), (2, _), (4, _), (5, _), (6, _)] 14 30 (t := 16) ⟨rfl, rfl, rfl, rfl, rfl, trivial⟩ rfl
    · intro hg_1 hk1
      refine go_wantp rfl rfl rfl hg_1 rfl rfl (o_move rfl) ?_
      refine go_wantp rfl rfl rfl hg_1 rfl rfl (o_move rfl) ?_
      refine go_wantp rfl rfl rfl hg_1 rfl rfl (o_cmp rfl rfl rfl) ?_
      refine go_wantp rfl rfl rfl hg_1 rfl rfl (o_move rfl) ?_
      apply go_or [(1, _), (2, _), (4, _), (5, _), (6, _), (16, _)] 9 29 (t := 20) ⟨rfl, rfl, rfl, rfl, rfl, rfl, trivial⟩ rfl
      · intro hg_2 hk2
        refine go_wantp rfl rfl rfl hg_2 rfl rfl (o_fieldAddr fi_53_0 rfl rfl rfl) ?_
        refine go_wantp rfl rfl rfl hg_2 rfl rfl (o_load Try.isAgg51 rfl rfl) ?_
        refine go_wantp rfl rfl rfl hg_2 rfl rfl (o_len Try.runUnderlying51 rfl) ?_
        refine go_wantp rfl rfl rfl hg_2 rfl rfl (o_cmp rfl rfl rfl) ?_
        refine go_wantp rfl rfl rfl hg_2 rfl rfl (o_move rfl) ?_
        apply go_and [(1, _), (2, _), (4, _), (5, _), (6, _), (16, _), (20, _)] 3 28 (t := 25) ⟨rfl, rfl, rfl, rfl, rfl, rfl, rfl, trivial⟩ rfl
        · intro hg_3 hk3
          refine go_wantp rfl rfl rfl hg_3 rfl rfl (o_move rfl) ?_
          refine go_wantp rfl rfl rfl hg_3 rfl rfl (o_cmp rfl rfl rfl) ?_
          refine go_wantp rfl rfl rfl hg_2 rfl rfl (o_pickT rfl hg_3 rfl) ?_
          exact go_meet hk3 (rfl) ⟨rfl, rfl, rfl, rfl, rfl, rfl, rfl, trivial⟩
        · intro hg_3 hk3
          refine go_skip rfl rfl rfl hg_3 rfl rfl ?_
          refine go_skip rfl rfl rfl hg_3 rfl rfl ?_
          refine go_wantp rfl rfl rfl hg_2 rfl rfl (o_pickF rfl hg_3 rfl) ?_
          exact go_meet hk3 (rfl) ⟨rfl, rfl, rfl, rfl, rfl, rfl, rfl, trivial⟩
        refine go_wantp rfl rfl rfl hg_1 rfl rfl (o_pickF rfl hg_2 rfl) ?_
        exact go_meet hk2 (rfl) ⟨rfl, rfl, rfl, rfl, rfl, rfl, trivial⟩
      · intro hg_2 hk2
        refine go_skip rfl rfl rfl hg_2 rfl rfl ?_
        refine go_skip rfl rfl rfl hg_2 rfl rfl ?_
        refine go_skip rfl rfl rfl hg_2 rfl rfl ?_
        refine go_skip rfl rfl rfl hg_2 rfl rfl ?_
        refine go_skip rfl rfl rfl hg_2 rfl rfl ?_
        refine go_skipu rfl rfl rfl rfl rfl ?_
        refine go_skipu rfl rfl rfl rfl rfl ?_
        refine go_skip rfl rfl rfl hg_2 rfl rfl ?_
        refine go_wantp rfl rfl rfl hg_1 rfl rfl (o_pickT rfl hg_2 rfl) ?_
        exact go_meet hk2 (rfl) ⟨rfl, rfl, rfl, rfl, rfl, rfl, trivial⟩
      refine go_p rfl rfl rfl (o_pickT rfl hg_1 rfl) ?_
      exact go_meet hk1 (rfl) ⟨rfl, rfl, rfl, rfl, rfl, trivial⟩
    · intro hg_1 hk1
      refine go_skip rfl rfl rfl hg_1 rfl rfl ?_
      refine go_skip rfl rfl rfl hg_1 rfl rfl ?_
      refine go_skip rfl rfl rfl hg_1 rfl rfl ?_
      refine go_skip rfl rfl rfl hg_1 rfl rfl ?_
      refine go_skipu rfl rfl rfl rfl rfl ?_
      refine go_skipu rfl rfl rfl rfl rfl ?_
      refine go_skipu rfl rfl rfl rfl rfl ?_
      refine go_skipu rfl rfl rfl rfl rfl ?_
      refine go_skipu rfl rfl rfl rfl rfl ?_
      refine go_skipu rfl rfl rfl rfl rfl ?_
      refine go_skipu rfl rfl rfl rfl rfl ?_
      refine go_skipu rfl rfl rfl rfl rfl ?_
      refine go_skip rfl rfl rfl hg_1 rfl rfl ?_
      refine go_p rfl rfl rfl (o_pickF rfl hg_1 rfl) ?_
      exact go_meet hk1 (rfl) ⟨rfl, rfl, rfl, rfl, rfl, trivial⟩
    refine go_nil ?_
    refine g_cond rfl (fun hc1 => ?_) (fun hc1 => ?_)
    · replace hj1 := cond_t hc1 hj1
      refine g_skip ?_
      refine g_seq ?_
      refine g_block ?_
      refine g_seq ?_
      refine g_region ?_
      refine go_p rfl rfl rfl (o_fieldAddr fi_53_0 rfl rfl rfl) ?_
      refine go_p rfl rfl rfl (o_load Try.isAgg51 rfl rfl) ?_
      refine go_p rfl rfl rfl (o_move rfl) ?_
      obtain ⟨x1, hx1, hj1⟩ := bind_some hj1
      refine go_p rfl rfl rfl (o_indexAddr_m Try.runUnderlying51 Try.sizeOf56 rfl rfl hx1) ?_
      refine go_p rfl rfl rfl (o_load_agg Try.isAgg56 Try.sizeOf56 rfl rfl) ?_
      refine go_op rfl rfl rfl (o_alloc_own Try.zeroValue56 (cs := [.i64 0, .i64 0, .i64 0, .list 2 ApiTField.d []]) rfl) ?_
      rintro _ _ ⟨b3, rfl, rfl⟩
      refine go_u rfl rfl (o_store_box 0 Try.sizeOf56 rfl rfl rfl rfl rfl rfl rfl rfl (Nat.le_of_ble_eq_true rfl)) ?_
      rintro _ _ rfl
      refine go_ms (ms' := [box b3 56 [_, _, _, _], _, box b2 53 [_, _], box b1 53 [_, _]]) rfl ?_
      refine go_nil ?_
      refine g_seq ?_
      refine g_region ?_
      refine go_op rfl rfl rfl (o_buildSlice_row (xs := []) (f := ApiTField.d) (l := []) Try.runUnderlying54 Try.sizeOf100 Try.zeroValue100 rfl rfl rfl (fun _ => ⟨rfl, rfl, rfl⟩) rfl (by simp [maxLen])) ?_
      rintro _ _ ⟨a_r2, rfl, rfl⟩
      refine go_p rfl rfl rfl (o_fieldAddr_box fi_56_3 rfl) ?_
      refine go_p rfl rfl rfl (o_load_box 1 Try.isAgg54 rfl rfl rfl rfl) ?_
      refine go_p rfl rfl rfl (o_fieldAddr_box fi_56_3 rfl) ?_
      refine go_p rfl rfl rfl (o_load_box 1 Try.isAgg54 rfl rfl rfl rfl) ?_
      refine go_p rfl rfl rfl (o_len Try.runUnderlying54 rfl) ?_
      refine go_p rfl rfl rfl (o_min rfl rfl) ?_
      obtain ⟨l3, hx2, hj1⟩ := bind_some hj1
      refine go_p rfl rfl rfl (o_slice_m Try.runUnderlying54 Try.sizeOf100 rfl rfl ⟨_, rfl⟩ hx2) ?_
      obtain ⟨hg3, hj1⟩ := grd_some hj1
      refine go_op rfl rfl rfl (o_append (a := _) 0 Try.underlying54 Try.type100 rfl rfl rfl rfl rfl rfl rfl (fun _ => rfl) (fun _ => rfl) hg3 (app_len hg3 rfl)) ?_
      rintro _ _ ⟨a_r2, cap_r2, rfl, rfl⟩
      refine go_ms (ms' := [_, box b3 56 [_, _, _, _], _, box b2 53 [_, _], box b1 53 [_, _]]) rfl ?_
      refine go_p rfl rfl rfl (o_fieldAddr_box fi_56_3 rfl) ?_
      refine go_u rfl rfl (o_store_box 1 Try.sizeOf54 rfl rfl rfl rfl rfl rfl rfl rfl (Nat.le_of_ble_eq_true rfl)) ?_
      rintro _ _ rfl
      refine go_ms (ms' := [_, box b3 56 [_, _, _, _], _, box b2 53 [_, _], box b1 53 [_, _]]) rfl ?_
      refine go_nil ?_
      refine g_region ?_
      refine go_p rfl rfl rfl (o_fieldAddr_box fi_53_0 rfl) ?_
      refine go_p rfl rfl rfl (o_load_box 3 Try.isAgg51 rfl rfl rfl rfl) ?_
      refine go_p rfl rfl rfl (o_load_box_agg 1 Try.isAgg56 Try.sizeOf56 rfl rfl rfl rfl (Nat.le_of_ble_eq_true rfl)) ?_
      refine go_conv (peekAggE (i := 50) (q := 3) 0 rfl rfl rfl rfl rfl).refines ?_
      refine go_p rfl rfl rfl (o_buildSlice (xs := [_]) (f := ApiTNode.d) (l := [(⟨x1.kind, x1.a, x1.b, ([] ++ l3)⟩ : ApiTNode)]) Try.runUnderlying51 Try.sizeOf56 Try.zeroValue56 rfl rfl rfl (fun _ => ⟨rfl, rfl, rfl⟩) rfl) ?_
      obtain ⟨hg4, hj1⟩ := grd_some hj1
      refine go_op rfl rfl rfl (o_append (a := _) 2 Try.underlying51 Try.type56 rfl rfl rfl rfl rfl rfl rfl (fun _ => rfl) (fun _ => rfl) hg4 (app_len hg4 rfl)) ?_
      rintro _ _ ⟨a_r1, cap_r1, rfl, rfl⟩
      refine go_ms (ms' := [_, box b3 56 [_, _, _, _], _, box b2 53 [_, _], box b1 53 [_, _]]) rfl ?_
      refine go_p rfl rfl rfl (o_fieldAddr_box fi_53_0 rfl) ?_
      refine go_u rfl rfl (o_store_box 3 Try.sizeOf51 rfl rfl rfl rfl rfl rfl rfl rfl (Nat.le_of_ble_eq_true rfl)) ?_
      rintro _ _ rfl
      refine go_ms (ms' := [_, box b3 56 [_, _, _, _], _, box b2 53 [_, _], box b1 53 [_, _]]) rfl ?_
      refine go_nil ?_
      refine g_region ?_
      refine go_p rfl rfl rfl (o_move rfl) ?_
      obtain ⟨hg5, hj1⟩ := grd_some hj1
      refine go_p rfl rfl rfl (o_add rfl rfl (i64_id hg5)) ?_
      refine go_p rfl rfl rfl (o_assign rfl) ?_
      refine go_nil ?_
      exact ⟨_, (_, _), hj1, ⟨rfl, trivial⟩, ⟨rfl, rfl, rfl, rfl, trivial⟩, [_, _], rfl⟩
    · replace hj1 := cond_f hc1 hj1
      refine g_exit ?_
      exact ⟨_, (_, _), some_eq hj1, trivial, ⟨rfl, rfl, trivial⟩, [], rfl⟩
  · rintro ⟨l1, z1⟩ ⟨a_r1, cap_r1⟩ hst
    subst hst
    refine k_norm (L' := [(4, _), (5, _)]) (ms' := [row a_r1 cap_r1 56 4 ApiTNode.d l1, box b2 53 [.v (.slice a_r1 l1.length cap_r1), .i64 z1], _]) rfl rfl ?_
    refine g_seq ?_
    refine g_region ?_
    refine go_p rfl rfl rfl (o_load_box_agg 1 Try.isAgg53 Try.sizeOf53 rfl rfl rfl rfl (Nat.le_of_ble_eq_true rfl)) ?_
    refine go_conv (peekAggE (i := 54) (q := 0) 0 rfl rfl rfl rfl rfl).refines ?_
    refine go_u rfl rfl (o_store_box 2 Try.sizeOf53 rfl rfl rfl rfl rfl rfl rfl rfl (Nat.le_of_ble_eq_true rfl)) ?_
    rintro _ _ rfl
    refine go_ms (ms' := [_, box b2 53 [_, _], box b1 53 [_, _]]) rfl ?_
    refine go_nil ?_
    refine g_ret ?_
    exact retK (ret_one' rfl (ret_cell 2 rfl rfl rfl Try.isAgg53 Try.sizeOf53 rfl) (perm_drop _)) (congrArg (fun (p : ApiType) => (ApiType.d p : D)) (some_eq hm1))
def m_syntagmaref13_Kids_l1 (n1 : ApiTNode) : Nat → (Int × (List Int)) → Option (List Int)
  | 0, _ => none
  | n + 1, (i1, l2) =>
    bif (decide (i1 < (n1.l.length : Int))) then
      (idx n1.l i1).bind fun x1 =>
      grd ((l2.length + ([x1.at_] : List _).length) * 8 ≤ 140737488355328) <|
      grd (InR (i1 + 1)) <|
      m_syntagmaref13_Kids_l1 n1 n ((i1 + 1), (l2 ++ [x1.at_]))
    else
      some l2
def m_syntagmaref13_Kids (n1 : ApiTNode) : Option (List Int) :=
  bif (((decide (n1.kind = 6)) || (decide (n1.kind = 9))) || (decide (n1.kind = 10))) then
    some [n1.a, n1.b]
  else
    bif ((decide (n1.kind = 7)) || (decide (n1.kind = 8))) then
      (m_syntagmaref13_Kids_l1 n1 FU (0, []) : Option (List Int)).bind fun l1 =>
      some l1
    else
      some []
def m_syntagmaref13_May_l3 (t1 : ApiType) : Nat → (Bool × Int × (List Bool)) → Option (Bool × (List Bool))
  | 0, _ => none
  | n + 1, (more3, i2, l4) =>
    bif (decide (i2 < (t1.l.length : Int))) then
      (idx t1.l i2).bind fun x3 =>
      (bif ((!decide (x3.kind = 9)) && (!decide (x3.kind = 10))) then (some true) else ((idx l4 x3.a).bind fun x4 =>
      (bif x4 then ((idx l4 x3.b).bind fun x5 =>
      some x5) else (some false)).bind fun p2 =>
      some p2)).bind fun p1 =>
      (bif p1 then ((idx l4 i2).bind fun x6 =>
      some (!x6)) else (some false)).bind fun p3 =>
      bif p3 then
        (idx l4 i2).bind fun x7 =>
        grd (InR (i2 + 1)) <|
        m_syntagmaref13_May_l3 t1 n (true, (i2 + 1), (l4.set (i2).toNat true))
      else
        grd (InR (i2 + 1)) <|
        m_syntagmaref13_May_l3 t1 n (more3, (i2 + 1), l4)
    else
      some (more3, l4)
def m_syntagmaref13_May_l2 (t1 : ApiType) : Nat → (Bool × (List Bool)) → Option (List Bool)
  | 0, _ => none
  | n + 1, (more1, l2) =>
    bif more1 then
      (m_syntagmaref13_May_l3 t1 FU (false, 0, l2) : Option (Bool × (List Bool))).bind fun (more2, l3) =>
      m_syntagmaref13_May_l2 t1 n (more2, l3)
    else
      some l2
def m_syntagmabase_HasInt_l1 (l1 : (List Int)) (n1 : Int) : Nat → Int → Option (Out Bool Unit)
  | 0, _ => none
  | n + 1, i1 =>
    bif (decide (i1 < (l1.length : Int))) then
      (idx l1 i1).bind fun x1 =>
      bif (decide (x1 = n1)) then
        some (Out.ret true)
      else
        grd (InR (i1 + 1)) <|
        m_syntagmabase_HasInt_l1 l1 n1 n (i1 + 1)
    else
      some (Out.go (()))
def m_syntagmabase_HasInt (l1 : (List Int)) (n1 : Int) : Option Bool :=
  ((m_syntagmabase_HasInt_l1 l1 n1 FU 0 : Option (Out Bool Unit))).bind (fun oo => oo.on (fun r1 => some r1) (fun _ =>
  some false))
def m_syntagmaref13_Below_l2 (x4 : (List Int)) : Nat → (Int × (List Int)) → Option (List Int)
  | 0, _ => none
  | n + 1, (j1, l7) =>
    bif (decide (0 ≤ j1)) then
      (idx x4 j1).bind fun x5 =>
      grd ((l7.length + ([x5] : List _).length) * 8 ≤ 140737488355328) <|
      grd (InR (j1 - 1)) <|
      m_syntagmaref13_Below_l2 x4 n ((j1 - 1), (l7 ++ [x5]))
    else
      some l7
def m_syntagmaref13_Below_l1 (t1 : ApiType) : Nat → ((List Int) × (List Int)) → Option ((List Int) × (List Int))
  | 0, _ => none
  | n + 1, (l3, l4) =>
    bif (decide (0 < (l3.length : Int))) then
      grd (InR ((l3.length : Int) - 1)) <|
      (idx l3 ((l3.length : Int) - 1)).bind fun x1 =>
      grd (InR ((l3.length : Int) - 1)) <|
      (sli l3 0 ((l3.length : Int) - 1)).bind fun l5 =>
      (m_syntagmabase_HasInt l4 x1).bind fun x2 =>
      bif x2 then
        m_syntagmaref13_Below_l1 t1 n (l5, l4)
      else
        grd ((l4.length + ([x1] : List _).length) * 8 ≤ 140737488355328) <|
        (idx t1.l x1).bind fun x3 =>
        (m_syntagmaref13_Kids x3).bind fun x4 =>
        grd (InR ((x4.length : Int) - 1)) <|
        (m_syntagmaref13_Below_l2 x4 FU (((x4.length : Int) - 1), l5) : Option (List Int)).bind fun l6 =>
        m_syntagmaref13_Below_l1 t1 n (l6, (l4 ++ [x1]))
    else
      some (l3, l4)
def m_syntagmaref13_Below (t1 : ApiType) (root1 : Int) : Option (List Int) :=
  (m_syntagmaref13_Below_l1 t1 FU ([root1], []) : Option ((List Int) × (List Int))).bind fun (l1, l2) =>
  some l2
def m_graph_Vars_r1 (t1 : ApiType) : List Int → (List Int) → Option (List Int)
  | [], l2 =>
    some l2
  | x2 :: rr, l2 =>
    (idx t1.l x2).bind fun x3 =>
    bif (decide (x3.kind = 11)) then
      grd ((l2.length + ([x3.a] : List _).length) * 8 ≤ 140737488355328) <|
      m_graph_Vars_r1 t1 rr (l2 ++ [x3.a])
    else
      m_graph_Vars_r1 t1 rr l2
def m_graph_Vars (t1 : ApiType) : Option (List Int) :=
  (m_graph_May t1).bind fun x1 =>
  bif (!decide (x1 = 0)) then
    some []
  else
    ((m_below t1 t1.root).bind fun xs1 =>
    m_graph_Vars_r1 t1 xs1 [] : Option (List Int)).bind fun l1 =>
    grd (l1.length < 4611686018427387904) <|
    some (Lib.compact (List.mergeSort l1 fun x y => decide (x ≤ y)))
theorem w_graph_Vars {t1 : ApiType} {r_1 : (List Int)} (hm : m_graph_Vars t1 = some r_1) : Fn0 Try.prog 34 [ApiType.d t1] (.list 1 D.i64 r_1) := by
  unfold m_graph_Vars at hm
  refine fn_intro Try.func34 rfl Try.ntmps34 rfl fun H0 fr w0 => ?_
  refine g_seq ?_
  refine g_region ?_
  refine go_p rfl rfl rfl (o_box rfl rfl) ?_
  refine go_p rfl rfl rfl (o_assign rfl) ?_
  refine go_conv (nilE (i := 2) (sz := 1) (f := D.i64) rfl).refines ?_
  refine go_nil ?_
  refine g_seq ?_
  refine g_seq ?_
  refine g_region ?_
  refine go_p rfl rfl rfl (o_load_agg Try.isAgg53 Try.sizeOf53 rfl rfl) ?_
  obtain ⟨x1, hx1, hm⟩ := bind_some hm
  refine go_p rfl rfl rfl (o_call0 Try.call31 rfl (w_graph_May hx1)) ?_
  refine go_p rfl rfl rfl (o_cmp rfl rfl rfl) ?_
  refine go_nil ?_
  refine g_cond rfl (fun hc1 => ?_) (fun hc1 => ?_)
  · replace hm := cond_t hc1 hm
    refine g_seq ?_
    refine g_region ?_
    refine go_p rfl rfl rfl (o_assign rfl) ?_
    refine go_conv (nilE (i := 2) (sz := 1) (f := D.i64) rfl).refines ?_
    refine go_nil ?_
    refine g_ret ?_
    exact retK (ret_one' rfl (ret_tmp rfl) (perm_drop _)) (congrArg (fun (p : (List Int)) => (.list 1 D.i64 p : D)) (some_eq hm))
  · replace hm := cond_f hc1 hm
    refine g_skip ?_
    refine g_seq ?_
    refine g_region ?_
    refine go_op rfl rfl rfl (o_alloc_own Try.zeroValue28 (cs := [.v (.slice none 0 0)]) rfl) ?_
    rintro _ _ ⟨b1, rfl, rfl⟩
    refine go_conv (refines_newarr (T := 3) (sz := 1) (f := D.i64)) ?_
    refine go_nil ?_
    refine g_seq ?_
    refine g_seq ?_
    refine g_region ?_
    refine go_p rfl rfl rfl (o_load_agg Try.isAgg53 Try.sizeOf53 rfl rfl) ?_
    refine go_p rfl rfl rfl (o_fieldAddr fi_53_1 rfl rfl rfl) ?_
    refine go_p rfl rfl rfl (o_load Try.isAgg3 rfl rfl) ?_
    refine go_p rfl rfl rfl (o_call0 Try.call79 rfl w_below) ?_
    refine go_nil ?_
    obtain ⟨o_1, hj1, hm1⟩ := bind_some hm
    refine g_cut_m [(3, _)] [] (fun (st : (List Int)) (hid : (Option Addr × Nat × Nat)) => match st, hid with | l1, (a_r1, m_r1, cap_r1) => []) (fun F (st : (List Int)) (hid : (Option Addr × Nat × Nat)) => match st, hid with | l1, (a_r1, m_r1, cap_r1) => [arr a_r1 m_r1 cap_r1 3 1 D.i64 l1, box b1 28 [.v (.slice a_r1 m_r1 cap_r1)]]) (fun st => st = o_1) ⟨rfl, trivial⟩ trivial ?_ ?_
    · skip
      refine g_block ?_
      obtain ⟨xs1, hx2, hj1⟩ := bind_some hj1
      refine g_range_m (fun (p : Int) => [.i64 p]) [] (fun F (st : (List Int)) (hid : (Option Addr × Nat × Nat)) => match st, hid with | l2, (a_r1, m_r1, cap_r1) => [arr a_r1 m_r1 cap_r1 3 1 D.i64 l2, box b1 28 [.v (.slice a_r1 m_r1 cap_r1)]]) (_, _, _) hj1 trivial rfl rfl Try.call118 (it_below hx2) (fun _ => rfl) rfl ?_ ?_
      · rintro H0r frr ror w0r hrr x2 rr l2 ⟨a_r1, m_r1, cap_r1⟩ hj1
        rw [m_graph_Vars_r1] at hj1
        refine g_norm (ms' := [arr a_r1 m_r1 cap_r1 3 1 D.i64 l2, box b1 28 [.v (.slice a_r1 m_r1 cap_r1)]]) rfl rfl ?_
        refine g_region ?_
        refine go_p rfl rfl rfl (o_assign rfl) ?_
        refine go_nil ?_
        intro H0r frr ror w0r hrr
        refine g_block ?_
        refine g_seq ?_
        refine g_region ?_
        refine go_p rfl rfl rfl (o_fieldAddr fi_53_0 rfl rfl rfl) ?_
        refine go_p rfl rfl rfl (o_load Try.isAgg51 rfl rfl) ?_
        refine go_p rfl rfl rfl (o_move rfl) ?_
        obtain ⟨x3, hx3, hj1⟩ := bind_some hj1
        refine go_p rfl rfl rfl (o_indexAddr_m Try.runUnderlying51 Try.sizeOf56 rfl rfl hx3) ?_
        refine go_p rfl rfl rfl (o_load_agg Try.isAgg56 Try.sizeOf56 rfl rfl) ?_
        refine go_op rfl rfl rfl (o_alloc_own Try.zeroValue56 (cs := [.i64 0, .i64 0, .i64 0, .list 2 ApiTField.d []]) rfl) ?_
        rintro _ _ ⟨b2, rfl, rfl⟩
        refine go_u rfl rfl (o_store_box 0 Try.sizeOf56 rfl rfl rfl rfl rfl rfl rfl rfl (Nat.le_of_ble_eq_true rfl)) ?_
        rintro _ _ rfl
        refine go_ms (ms' := [box b2 56 [_, _, _, _], _, box b1 28 [_]]) rfl ?_
        refine go_nil ?_
        refine g_seq ?_
        refine g_region ?_
        refine go_p rfl rfl rfl (o_fieldAddr_box fi_56_0 rfl) ?_
        refine go_p rfl rfl rfl (o_load_box 0 Try.isAgg3 rfl rfl rfl rfl) ?_
        refine go_p rfl rfl rfl (o_cmp rfl rfl rfl) ?_
        refine go_nil ?_
        refine g_cond rfl (fun hc2 => ?_) (fun hc2 => ?_)
        · replace hj1 := cond_t hc2 hj1
          refine g_region ?_
          refine go_p rfl rfl rfl (o_load_box 2 Try.isAgg28 rfl rfl rfl rfl) ?_
          refine go_p rfl rfl rfl (o_fieldAddr_box fi_56_1 rfl) ?_
          refine go_p rfl rfl rfl (o_load_box 0 Try.isAgg3 rfl rfl rfl rfl) ?_
          refine go_p rfl rfl rfl (o_buildSlice (xs := [_]) (f := D.i64) (l := [_]) Try.runUnderlying28 Try.sizeOf3 Try.zeroValue3 rfl rfl rfl (fun _ => ⟨rfl, rfl, rfl⟩) rfl) ?_
          obtain ⟨hg4, hj1⟩ := grd_some hj1
          refine go_op rfl rfl rfl (o_append_own (a := _) 1 Try.underlying28 Try.type3 rfl rfl rfl rfl rfl rfl (fun _ => rfl) (fun _ => rfl) hg4 (app_len hg4 rfl)) ?_
          rintro _ _ ⟨a_r1, m_r1, cap_r1, rfl, rfl⟩
          refine go_ms (ms' := [box b2 56 [_, _, _, _], _, box b1 28 [_]]) rfl ?_
          refine go_u rfl rfl (o_store_box 2 Try.sizeOf28 rfl rfl rfl rfl rfl rfl rfl rfl (Nat.le_of_ble_eq_true rfl)) ?_
          rintro _ _ rfl
          refine go_ms (ms' := [box b2 56 [_, _, _, _], _, box b1 28 [_]]) rfl ?_
          refine go_nil ?_
          exact ⟨_, (_, _, _), hj1, [_], rfl⟩
        · replace hj1 := cond_f hc2 hj1
          refine g_skip ?_
          exact ⟨_, (_, _, _), hj1, [_], rfl⟩
      · rintro l2 ⟨a_r1, m_r1, cap_r1⟩ hj1
        rw [m_graph_Vars_r1] at hj1
        refine k_norm (ms' := [arr a_r1 m_r1 cap_r1 3 1 D.i64 l2, box b1 28 [.v (.slice a_r1 m_r1 cap_r1)]]) rfl rfl ?_
        exact ⟨_, (_, _, _), some_eq hj1, trivial, ⟨rfl, trivial⟩, [], rfl⟩
    · rintro l1 ⟨a_r1, m_r1, cap_r1⟩ hst
      subst hst
      refine k_norm (L' := [(3, _)]) (ms' := [arr a_r1 m_r1 cap_r1 3 1 D.i64 l1, box b1 28 [.v (.slice a_r1 m_r1 cap_r1)]]) rfl rfl ?_
      refine g_seq ?_
      refine g_region ?_
      refine go_p rfl rfl rfl (o_load_box 1 Try.isAgg28 rfl rfl rfl rfl) ?_
      obtain ⟨hg5, hm1⟩ := grd_some hm1
      refine go_op rfl rfl rfl (o_call_own [0] Try.call80 rfl rfl (getL_c rfl getL_n) (fn_sort_int sh_slices_Sort_int sh_slices_Sort_int_none hg5) (by rintro _ _ ⟨_, rfl⟩; rfl)) ?_
      rintro _ _ ⟨_, ⟨rfl, rfl⟩, rfl⟩
      refine go_ms (ms' := [_, box b1 28 [_]]) rfl ?_
      refine go_nil ?_
      refine g_seq ?_
      refine g_region ?_
      refine go_p rfl rfl rfl (o_load_box 1 Try.isAgg28 rfl rfl rfl rfl) ?_
      refine go_op rfl rfl rfl (o_call_own [0] Try.call81 rfl rfl (getL_c rfl getL_n) (fn_compact_int sh_slices_Compact_int sh_slices_Compact_int_empty) (by rintro _ _ ⟨_, _, rfl⟩; rfl)) ?_
      rintro _ _ ⟨_, ⟨m_r1, rfl, rfl⟩, rfl⟩
      refine go_ms (ms' := [_, box b1 28 [_]]) rfl ?_
      refine go_p rfl rfl rfl (o_assign rfl) ?_
      refine go_nil ?_
      refine g_thaw 0 rfl rfl ?_
      rintro rfl
      refine g_conv (peekE (i := 2) 0 rfl rfl rfl).refines ?_
      refine g_ret ?_
      exact retK (ret_one' rfl (ret_tmp rfl) (perm_drop _)) (congrArg (fun (p : (List Int)) => (.list 1 D.i64 p : D)) (some_eq hm1))
def m_graph_Ground (t1 : ApiType) : Option Bool :=
  (m_graph_May t1).bind fun x1 =>
  (bif (decide (x1 = 0)) then ((m_graph_Vars t1).bind fun x2 =>
  some (decide ((x2.length : Int) = 0))) else (some false)).bind fun p1 =>
  some p1
theorem w_graph_Ground {t1 : ApiType} {r_1 : Bool} (hm : m_graph_Ground t1 = some r_1) : Fn0 Try.prog 35 [ApiType.d t1] (.bool r_1) := by
  unfold m_graph_Ground at hm
  refine fn_intro Try.func35 rfl Try.ntmps35 rfl fun H0 fr w0 => ?_
  refine g_seq ?_
  refine g_region ?_
  refine go_p rfl rfl rfl (o_box rfl rfl) ?_
  refine go_p rfl rfl rfl (o_assign rfl) ?_
  refine go_nil ?_
  refine g_seq ?_
  refine g_region ?_
  refine go_p rfl rfl rfl (o_load_agg Try.isAgg53 Try.sizeOf53 rfl rfl) ?_
  obtain ⟨x1, hx1, hm⟩ := bind_some hm
  refine go_p rfl rfl rfl (o_call0 Try.call31 rfl (w_graph_May hx1)) ?_
  refine go_p rfl rfl rfl (o_cmp rfl rfl rfl) ?_
  refine go_p rfl rfl rfl (o_move rfl) ?_
  obtain ⟨p1, hp_1, hm⟩ := bind_some hm
  refine go_two [] 5 11 p1 (t := 6) trivial rfl (fun hg_1 hk1 => ?_) (fun hg_1 hk1 => ?_) ?_
  · replace hp_1 := cond_t hg_1 hp_1
    refine go_wantp rfl rfl rfl hg_1 rfl rfl (o_load_agg Try.isAgg53 Try.sizeOf53 rfl rfl) ?_
    obtain ⟨x2, hx2, hp_1⟩ := bind_some hp_1
    refine go_wantp rfl rfl rfl hg_1 rfl rfl (o_call0 Try.call34 rfl (w_graph_Vars hx2)) ?_
    refine go_wantp rfl rfl rfl hg_1 rfl rfl (o_len Try.runUnderlying28 rfl) ?_
    refine go_wantp rfl rfl rfl hg_1 rfl rfl (o_cmp rfl rfl rfl) ?_
    refine go_p rfl rfl rfl (o_pickT rfl hg_1 rfl) ?_
    exact go_meet hk1 (congrArg (fun b => some (D.bool b)) (some_eq hp_1)) trivial
  · replace hp_1 := cond_f hg_1 hp_1
    refine go_skip rfl rfl rfl hg_1 rfl rfl ?_
    refine go_skip rfl rfl rfl hg_1 rfl rfl ?_
    refine go_skip rfl rfl rfl hg_1 rfl rfl ?_
    refine go_skip rfl rfl rfl hg_1 rfl rfl ?_
    refine go_p rfl rfl rfl (o_pickF rfl hg_1 rfl) ?_
    exact go_meet hk1 (congrArg (fun b => some (D.bool b)) (some_eq hp_1)) trivial
  refine go_p rfl rfl rfl (o_assign rfl) ?_
  refine go_nil ?_
  refine g_ret ?_
  exact retK (ret_one' rfl (ret_tmp rfl) (perm_drop _)) (congrArg (fun (p : Bool) => (.bool p : D)) (some_eq hm))
def m_graph_moved_l1 (to1 : (Int → Option Int)) (z4 : (List ApiTField)) : Nat → (Int × (List ApiTField) × Int × Int × Int) → Option ((List ApiTField) × Int × Int × Int)
  | 0, _ => none
  | n + 1, (x4, l2, z8, z9, z10) =>
    bif (decide (x4 < (z4.length : Int))) then
      (idx l2 x4).bind fun x5 =>
      (to1 x5.at_).bind fun x6 =>
      (idx l2 x4).bind fun x7 =>
      grd (InR (x4 + 1)) <|
      m_graph_moved_l1 to1 z4 n ((x4 + 1), (l2.set (x4).toNat (⟨x7.name, x6⟩ : ApiTField)), z8, z9, z10)
    else
      some (l2, z8, z9, z10)
def m_graph_moved (n1 : ApiTNode) (to1 : (Int → Option Int)) : Option ApiTNode :=
  (m_graph_pair n1.kind).bind fun x1 =>
  (bif x1 then
    (to1 n1.a).bind fun x2 =>
    (to1 n1.b).bind fun x3 =>
    some (n1.kind, x2, x3, n1.l)
  else
    some (n1.kind, n1.a, n1.b, n1.l) : Option (Int × Int × Int × (List ApiTField))).bind fun (z1, z2, z3, z4) =>
  grd (z4.length * 24 ≤ 140737488355328) <|
  (m_graph_moved_l1 to1 z4 FU (0, z4, z1, z2, z3) : Option ((List ApiTField) × Int × Int × Int)).bind fun (l1, z5, z6, z7) =>
  some (⟨z5, z6, z7, l1⟩ : ApiTNode)
theorem w_graph_moved {n1 : ApiTNode} {to1 : (Int → Option Int)} {r_1 : ApiTNode} {tl_0 : List Asrt} {fv_to1 : D} (hfto1 : FunOk1T Try.prog fv_to1 D.i64 D.i64 tl_0 to1) (hm : m_graph_moved n1 to1 = some r_1) : FnT Try.prog 84 [ApiTNode.d n1, fv_to1] tl_0 (ApiTNode.d r_1) := by
  unfold m_graph_moved at hm
  refine fn_intro Try.func84 rfl Try.ntmps84 rfl fun H0 fr w0 => ?_
  refine g_seq ?_
  refine g_region ?_
  refine go_op rfl rfl rfl (o_box_own rfl rfl rfl) ?_
  rintro _ _ ⟨b1, rfl, rfl⟩
  refine go_op rfl rfl rfl (o_alloc_own Try.zeroValue56 (cs := [.i64 0, .i64 0, .i64 0, .list 2 ApiTField.d []]) rfl) ?_
  rintro _ _ ⟨b2, rfl, rfl⟩
  refine go_nil ?_
  refine g_seq ?_
  refine g_seq ?_
  refine g_region ?_
  refine go_p rfl rfl rfl (o_fieldAddr_box fi_56_0 rfl) ?_
  refine go_p rfl rfl rfl (o_load_box 1 Try.isAgg3 rfl rfl rfl rfl) ?_
  obtain ⟨x1, hx1, hm⟩ := bind_some hm
  refine go_p rfl rfl rfl (o_call0 Try.call77 rfl (w_graph_pair hx1)) ?_
  refine go_nil ?_
  obtain ⟨o_1, hj1, hm1⟩ := bind_some hm
  refine g_cut_m [(1, _), (2, _), (4, _)] [(0, _)] (fun (st : (Int × Int × Int × (List ApiTField))) (hid : Unit) => match st, hid with | (z1, z2, z3, z4), _ => []) (fun F (st : (Int × Int × Int × (List ApiTField))) (hid : Unit) => match st, hid with | (z1, z2, z3, z4), _ => [(nthF F 0), box b1 56 [.i64 z1, .i64 z2, .i64 z3, .list 2 ApiTField.d z4]] ++ tl_0) (fun st => st = o_1) ⟨rfl, rfl, rfl, trivial⟩ ⟨rfl, trivial⟩ ?_ ?_
  · skip
    refine g_cond rfl (fun hc1 => ?_) (fun hc1 => ?_)
    · replace hj1 := cond_t hc1 hj1
      obtain ⟨x2, hx2, hj1⟩ := bind_some hj1
      obtain ⟨x3, hx3, hj1⟩ := bind_some hj1
      refine g_draw 9 Try_mixed (by decide +kernel) ?_
      refine gd_p rfl rfl rfl (o_move rfl) ?_
      refine gd_p rfl rfl rfl (o_fieldAddr_box fi_56_1 rfl) ?_
      refine gd_p rfl rfl rfl (o_load_box 1 Try.isAgg3 rfl rfl rfl rfl) ?_
      refine gd_p rfl rfl rfl (o_callv_t (tl := tl_0) [_, _] rfl rfl rfl (hfto1 _ _ hx2)) ?_
      refine gd_p rfl rfl rfl (o_move rfl) ?_
      refine gd_p rfl rfl rfl (o_fieldAddr_box fi_56_2 rfl) ?_
      refine gd_p rfl rfl rfl (o_load_box 1 Try.isAgg3 rfl rfl rfl rfl) ?_
      refine gd_p rfl rfl rfl (o_callv_t (tl := tl_0) [_, _] rfl rfl rfl (hfto1 _ _ hx3)) ?_
      refine gd_p rfl rfl rfl (o_fieldAddr_box fi_56_1 rfl) ?_
      refine gd_nil ?_
      refine go_u rfl rfl (o_store_box 1 Try.sizeOf3 rfl rfl rfl rfl rfl rfl rfl rfl (Nat.le_of_ble_eq_true rfl)) ?_
      rintro _ _ rfl
      refine go_ms (ms' := [box b2 56 [_, _, _, _], box b1 56 [_, _, _, _]] ++ tl_0) rfl ?_
      refine go_p rfl rfl rfl (o_fieldAddr_box fi_56_2 rfl) ?_
      refine go_u rfl rfl (o_store_box 1 Try.sizeOf3 rfl rfl rfl rfl rfl rfl rfl rfl (Nat.le_of_ble_eq_true rfl)) ?_
      rintro _ _ rfl
      refine go_ms (ms' := [box b2 56 [_, _, _, _], box b1 56 [_, _, _, _]] ++ tl_0) rfl ?_
      refine go_nil ?_
      exact ⟨_, (), some_eq hj1, trivial, ⟨rfl, rfl, rfl, trivial⟩, [], rfl⟩
    · replace hj1 := cond_f hc1 hj1
      refine g_skip ?_
      exact ⟨_, (), some_eq hj1, trivial, ⟨rfl, rfl, rfl, trivial⟩, [], rfl⟩
  · rintro ⟨z1, z2, z3, z4⟩ _ hst
    subst hst
    refine k_norm (L' := [(1, _), (2, _), (4, _)]) (ms' := [_, box b1 56 [.i64 z1, .i64 z2, .i64 z3, .list 2 ApiTField.d z4]] ++ tl_0) rfl rfl ?_
    refine g_seq ?_
    refine g_region ?_
    refine go_p rfl rfl rfl (o_fieldAddr_box fi_56_3 rfl) ?_
    refine go_p rfl rfl rfl (o_load_box 1 Try.isAgg54 rfl rfl rfl rfl) ?_
    obtain ⟨hg4, hm1⟩ := grd_some hm1
    refine go_op rfl rfl rfl (o_call (ms₁ := []) Try.call106 rfl (List.Perm.refl _) (w_Clone_106 hg4)) ?_
    rintro _ _ ⟨_, ⟨a_r1, cap_r1, rfl, rfl⟩, rfl⟩
    generalize hm_r1 : z4.length = m_r1
    clear hm_r1
    refine go_p rfl rfl rfl (o_fieldAddr_box fi_56_3 rfl) ?_
    refine go_u rfl rfl (o_store_box 2 Try.sizeOf54 rfl rfl rfl rfl rfl rfl rfl rfl (Nat.le_of_ble_eq_true rfl)) ?_
    rintro _ _ rfl
    refine go_ms (ms' := [_, box b2 56 [_, _, _, _], box b1 56 [_, _, _, _]] ++ tl_0) rfl ?_
    refine go_nil ?_
    refine g_seq ?_
    refine g_seq ?_
    refine g_region ?_
    refine go_p rfl rfl rfl (o_fieldAddr_box fi_56_3 rfl) ?_
    refine go_p rfl rfl rfl (o_load_box 2 Try.isAgg54 rfl rfl rfl rfl) ?_
    refine go_p rfl rfl rfl (o_len_arr 0 Try.runUnderlying54 rfl rfl) ?_
    refine go_p rfl rfl rfl (o_move rfl) ?_
    refine go_nil ?_
    obtain ⟨o_2, hj2, hm2⟩ := bind_some hm1
    refine g_cut_m [(2, _), (4, _)] [(1, _)] (fun (st : ((List ApiTField) × Int × Int × Int)) (hid : Unit) => match st, hid with | (l1, z5, z6, z7), _ => []) (fun F (st : ((List ApiTField) × Int × Int × Int)) (hid : Unit) => match st, hid with | (l1, z5, z6, z7), _ => [arr a_r1 m_r1 cap_r1 100 2 ApiTField.d l1, (nthF F 0), box b1 56 [.i64 z5, .i64 z6, .i64 z7, .v (.slice a_r1 m_r1 cap_r1)]] ++ tl_0) (fun st => st = o_2) ⟨rfl, rfl, trivial⟩ ⟨rfl, trivial⟩ ?_ ?_
    · skip
      refine g_block ?_
      refine g_loop_m [(1, _), (2, _), (4, _), (25, _)] [(1, _)] (fun (st : (Int × (List ApiTField) × Int × Int × Int)) (hid : Unit) => match st, hid with | (x4, l2, z8, z9, z10), _ => [(26, .i64 x4)]) (fun F (st : (Int × (List ApiTField) × Int × Int × Int)) (hid : Unit) => match st, hid with | (x4, l2, z8, z9, z10), _ => [arr a_r1 m_r1 cap_r1 100 2 ApiTField.d l2, (nthF F 0), box b1 56 [.i64 z8, .i64 z9, .i64 z10, .v (.slice a_r1 m_r1 cap_r1)]] ++ tl_0) () hj2 (fun _ => rfl) ⟨rfl, rfl, rfl, rfl, trivial⟩ ⟨rfl, trivial⟩ ⟨rfl, trivial⟩ rfl ?_
      rintro n ⟨x4, l2, z8, z9, z10⟩ ⟨⟩ hj2
      rw [m_graph_moved_l1] at hj2
      refine g_norm (L' := [(26, .i64 x4), (1, _), (2, _), (4, _), (25, _)]) (ms' := [arr a_r1 m_r1 cap_r1 100 2 ApiTField.d l2, _, box b1 56 [.i64 z8, .i64 z9, .i64 z10, .v (.slice a_r1 m_r1 cap_r1)]] ++ tl_0) rfl rfl ?_
      refine g_seq ?_
      refine g_region ?_
      refine go_p rfl rfl rfl (o_cmp rfl rfl rfl) ?_
      refine go_nil ?_
      refine g_seq ?_
      refine g_cond rfl (fun hc2 => ?_) (fun hc2 => ?_)
      · replace hj2 := cond_t hc2 hj2
        refine g_skip ?_
        refine g_seq ?_
        refine g_block ?_
        refine g_seq ?_
        refine g_region ?_
        refine go_p rfl rfl rfl (o_move rfl) ?_
        refine go_p rfl rfl rfl (o_assign rfl) ?_
        refine go_nil ?_
        obtain ⟨x5, hx5, hj2⟩ := bind_some hj2
        obtain ⟨x6, hx6, hj2⟩ := bind_some hj2
        obtain ⟨x7, hx7, hj2⟩ := bind_some hj2
        refine g_draw 13 Try_mixed (by decide +kernel) ?_
        refine gd_p rfl rfl rfl (o_fieldAddr_box fi_56_3 rfl) ?_
        refine gd_p rfl rfl rfl (o_load_box 2 Try.isAgg54 rfl rfl rfl rfl) ?_
        refine gd_p rfl rfl rfl (o_move rfl) ?_
        refine gd_p rfl rfl rfl (o_move rfl) ?_
        refine gd_p rfl rfl rfl (o_fieldAddr_box fi_56_3 rfl) ?_
        refine gd_p rfl rfl rfl (o_load_box 2 Try.isAgg54 rfl rfl rfl rfl) ?_
        refine gd_p rfl rfl rfl (o_move rfl) ?_
        refine gd_p rfl rfl rfl (o_indexAddr_arr 0 Try.runUnderlying54 Try.sizeOf100 rfl rfl rfl hx5) ?_
        refine gd_p rfl rfl rfl (o_fieldAddr_apt (b := 0) 0 fi_100_1 rfl rfl (idx_some hx5).2) ?_
        refine gd_p rfl rfl rfl (o_load_arr (off := 1) 0 Try.isAgg3 rfl rfl (idx_some hx5).2 rfl rfl rfl) ?_
        refine gd_p rfl rfl rfl (o_callv_t (tl := tl_0) [_, _, _] rfl rfl rfl (hfto1 _ _ hx6)) ?_
        refine gd_p rfl rfl rfl (o_indexAddr_arr 0 Try.runUnderlying54 Try.sizeOf100 rfl rfl rfl hx7) ?_
        refine gd_p rfl rfl rfl (o_fieldAddr_apt (b := 0) 0 fi_100_1 rfl rfl (idx_some hx7).2) ?_
        refine gd_nil ?_
        refine go_u rfl rfl (o_store_arr (off := 1) (z' := (⟨x7.name, x6⟩ : ApiTField)) 0 Try.sizeOf3 rfl rfl (idx_some hx7).2 rfl rfl rfl rfl rfl rfl (Nat.le_of_ble_eq_true rfl) rfl rfl) ?_
        rintro _ _ rfl
        refine go_ms (ms' := [_, box b2 56 [_, _, _, _], box b1 56 [_, _, _, _]] ++ tl_0) rfl ?_
        refine go_nil ?_
        refine g_region ?_
        obtain ⟨hg8, hj2⟩ := grd_some hj2
        refine go_p rfl rfl rfl (o_add rfl rfl (i64_id hg8)) ?_
        refine go_p rfl rfl rfl (o_move rfl) ?_
        refine go_nil ?_
        exact ⟨_, (), hj2, ⟨rfl, trivial⟩, ⟨rfl, rfl, rfl, rfl, trivial⟩, [], rfl⟩
      · replace hj2 := cond_f hc2 hj2
        refine g_exit ?_
        exact ⟨_, (), some_eq hj2, trivial, ⟨rfl, rfl, trivial⟩, [], rfl⟩
    · rintro ⟨l1, z5, z6, z7⟩ ⟨⟩ hst
      subst hst
      refine k_norm (L' := [(2, _), (4, _)]) (ms' := [arr a_r1 m_r1 cap_r1 100 2 ApiTField.d l1, _, box b1 56 [.i64 z5, .i64 z6, .i64 z7, .v (.slice a_r1 m_r1 cap_r1)]] ++ tl_0) rfl rfl ?_
      refine g_seq ?_
      refine g_region ?_
      refine go_thaw 0 rfl rfl ?_
      rintro rfl
      refine go_p rfl rfl rfl (o_load_box_agg 2 Try.isAgg56 Try.sizeOf56 rfl rfl rfl rfl (Nat.le_of_ble_eq_true rfl)) ?_
      refine go_conv (peekAggE (i := 43) (q := 3) 0 rfl rfl rfl rfl rfl).refines ?_
      refine go_u rfl rfl (o_store_box 1 Try.sizeOf56 rfl rfl rfl rfl rfl rfl rfl rfl (Nat.le_of_ble_eq_true rfl)) ?_
      rintro _ _ rfl
      refine go_ms (ms' := [_, box b2 56 [_, _, _, _], box b1 56 [_, _, _, _]] ++ tl_0) rfl ?_
      refine go_nil ?_
      refine g_ret ?_
      exact retK (ret_one' (ms' := tl_0) (drop := [_, _, _]) rfl (ret_cell 1 rfl rfl rfl Try.isAgg56 Try.sizeOf56 rfl) (List.Perm.refl _)) ⟨congrArg (fun (p : ApiTNode) => (ApiTNode.d p : D)) (some_eq hm2), rfl⟩
def m_graph_norm_1 (k1 : Int) (z1 : (List (Int × Int))) : Option Int :=
  some ((mget z1 k1).getD (0 : Int))
theorem w_graph_norm_1 {k1 : Int} {z1 : (List (Int × Int))} {r_1 : Int} {b_q1 : Nat} (hm : m_graph_norm_1 k1 z1 = some r_1) : FnT Try.prog 123 [.i64 k1, .ref (.v (.map (some b_q1)))] [mp b_q1 kI64 D.i64 z1] (.i64 r_1) := by
  unfold m_graph_norm_1 at hm
  refine fn_intro Try.func123 rfl Try.ntmps123 rfl fun H0 fr w0 => ?_
  refine g_seq ?_
  refine g_region ?_
  refine go_p rfl rfl rfl (o_assign rfl) ?_
  refine go_nil ?_
  refine g_seq ?_
  refine g_region ?_
  refine go_p rfl rfl rfl (o_load Try.isAgg139 rfl rfl) ?_
  refine go_p rfl rfl rfl (o_move rfl) ?_
  refine go_p rfl rfl rfl (o_lookup (z0 := (0 : Int)) 0 Try.runUnderlying139 (keyI64 Try.underlying3) Try.zeroValue3 (fun _ => conc_v.2 rfl) rfl rfl rfl) ?_
  refine go_p rfl rfl rfl (o_assign rfl) ?_
  refine go_nil ?_
  refine g_ret ?_
  exact retK (ret_one' (ms' := [_]) (drop := []) rfl (ret_tmp rfl) (List.Perm.refl _)) ⟨congrArg (fun (p : Int) => (.i64 p : D)) (some_eq hm), rfl⟩
def m_graph_norm_r1  : List Int → ((List Int) × (List (Int × Int))) → Option ((List Int) × (List (Int × Int)))
  | [], (l2, mm2) =>
    some (l2, mm2)
  | x1 :: rr, (l2, mm2) =>
    grd ((l2.length + ([x1] : List _).length) * 8 ≤ 140737488355328) <|
    m_graph_norm_r1 rr ((l2 ++ [x1]), (mset mm2 x1 (l2.length : Int)))
def m_graph_norm_l2 (t1 : ApiType) (l1 : (List Int)) (mm1 : (List (Int × Int))) : Nat → (Int × (List ApiTNode) × Int) → Option ((List ApiTNode) × Int)
  | 0, _ => none
  | n + 1, (x2, l4, z2) =>
    bif (decide (x2 < (l1.length : Int))) then
      (idx l1 x2).bind fun x3 =>
      (idx t1.l x3).bind fun x4 =>
      (m_graph_moved x4 (fun y0 => m_graph_norm_1 y0 mm1)).bind fun x5 =>
      grd ((l4.length + ([x5] : List _).length) * 48 ≤ 140737488355328) <|
      grd (InR (x2 + 1)) <|
      m_graph_norm_l2 t1 l1 mm1 n ((x2 + 1), (l4 ++ [x5]), z2)
    else
      some (l4, z2)
def m_graph_norm (t1 : ApiType) (root1 : Int) : Option ApiType :=
  ((m_below t1 root1).bind fun xs1 =>
  m_graph_norm_r1 xs1 ([], ([] : List (Int × Int))) : Option ((List Int) × (List (Int × Int)))).bind fun (l1, mm1) =>
  (m_graph_norm_l2 t1 l1 mm1 FU (0, [], 0) : Option ((List ApiTNode) × Int)).bind fun (l3, z1) =>
  some (⟨l3, z1⟩ : ApiType)
theorem w_graph_norm {t1 : ApiType} {root1 : Int} {r_1 : ApiType} (hm : m_graph_norm t1 root1 = some r_1) : Fn0 Try.prog 86 [ApiType.d t1, .i64 root1] (ApiType.d r_1) := by
  unfold m_graph_norm at hm
  refine fn_intro Try.func86 rfl Try.ntmps86 rfl fun H0 fr w0 => ?_
  refine g_seq ?_
  refine g_region ?_
  refine go_p rfl rfl rfl (o_box rfl rfl) ?_
  refine go_op rfl rfl rfl (o_alloc_own Try.zeroValue53 (cs := [.list 4 ApiTNode.d [], .i64 0]) rfl) ?_
  rintro _ _ ⟨b1, rfl, rfl⟩
  refine go_nil ?_
  refine g_seq ?_
  refine g_region ?_
  refine go_op rfl rfl rfl (o_makeMap (fk := kI64) (fv := D.i64)) ?_
  rintro _ _ ⟨b2, rfl, rfl⟩
  refine go_op rfl rfl rfl (o_alloc_own Try.zeroValue139 (cs := [.v (.map none)]) rfl) ?_
  rintro _ _ ⟨b3, rfl, rfl⟩
  refine go_u rfl rfl (o_store_box 0 Try.sizeOf139 rfl rfl rfl rfl rfl rfl rfl rfl (Nat.le_of_ble_eq_true rfl)) ?_
  rintro _ _ rfl
  refine go_ms (ms' := [box b3 139 [_], _, box b1 53 [_, _]]) rfl ?_
  refine go_conv (refines_freeze (d := .v (.map (some b2))) 0 5 rfl rfl rfl rfl) ?_
  refine go_nil ?_
  refine g_seq ?_
  refine g_region ?_
  refine go_op rfl rfl rfl (o_alloc_own Try.zeroValue28 (cs := [.v (.slice none 0 0)]) rfl) ?_
  rintro _ _ ⟨b4, rfl, rfl⟩
  refine go_conv (refines_newrow (T := 3) (sz := 1) (f := D.i64)) ?_
  refine go_nil ?_
  refine g_seq ?_
  refine g_seq ?_
  refine g_region ?_
  refine go_p rfl rfl rfl (o_load_agg Try.isAgg53 Try.sizeOf53 rfl rfl) ?_
  refine go_p rfl rfl rfl (o_move rfl) ?_
  refine go_p rfl rfl rfl (o_call0 Try.call79 rfl w_below) ?_
  refine go_nil ?_
  obtain ⟨o_1, hj1, hm1⟩ := bind_some hm
  refine g_cut_m [(2, _), (4, _), (5, _), (6, _)] [(3, _)] (fun (st : ((List Int) × (List (Int × Int)))) (hid : (Option Addr × Nat)) => match st, hid with | (l1, mm1), (a_r1, cap_r1) => []) (fun F (st : ((List Int) × (List (Int × Int)))) (hid : (Option Addr × Nat)) => match st, hid with | (l1, mm1), (a_r1, cap_r1) => [row a_r1 cap_r1 3 1 D.i64 l1, box b4 28 [.v (.slice a_r1 l1.length cap_r1)], mp b2 kI64 D.i64 mm1, (nthF F 0)]) (fun st => st = o_1) ⟨rfl, rfl, rfl, rfl, trivial⟩ ⟨rfl, trivial⟩ ?_ ?_
  · skip
    refine g_block ?_
    obtain ⟨xs1, hx1, hj1⟩ := bind_some hj1
    refine g_range_m (fun (p : Int) => [.i64 p]) [(3, _)] (fun F (st : ((List Int) × (List (Int × Int)))) (hid : (Option Addr × Nat)) => match st, hid with | (l2, mm2), (a_r1, cap_r1) => [row a_r1 cap_r1 3 1 D.i64 l2, box b4 28 [.v (.slice a_r1 l2.length cap_r1)], mp b2 kI64 D.i64 mm2, (nthF F 0)]) (_, _) hj1 ⟨rfl, trivial⟩ rfl rfl Try.call118 (it_below hx1) (fun _ => rfl) rfl ?_ ?_
    · rintro H0r frr ror w0r hrr x1 rr ⟨l2, mm2⟩ ⟨a_r1, cap_r1⟩ hj1
      rw [m_graph_norm_r1] at hj1
      refine g_norm (ms' := [row a_r1 cap_r1 3 1 D.i64 l2, box b4 28 [.v (.slice a_r1 l2.length cap_r1)], mp b2 kI64 D.i64 mm2, _]) rfl rfl ?_
      refine g_region ?_
      refine go_p rfl rfl rfl (o_assign rfl) ?_
      refine go_nil ?_
      intro H0r frr ror w0r hrr
      refine g_block ?_
      refine g_seq ?_
      refine g_region ?_
      refine go_p rfl rfl rfl (o_load Try.isAgg139 rfl rfl) ?_
      refine go_p rfl rfl rfl (o_move rfl) ?_
      refine go_p rfl rfl rfl (o_load_box 1 Try.isAgg28 rfl rfl rfl rfl) ?_
      refine go_p rfl rfl rfl (.view (peekE (i := 18) 0 rfl rfl rfl) (o_len Try.runUnderlying28 rfl)) ?_
      refine go_u rfl rfl (o_mapUpdate (v := (l2.length : Int)) 2 Try.runUnderlying139 (keyI64 Try.underlying3) rfl rfl rfl rfl) ?_
      rintro _ _ rfl
      refine go_nil ?_
      refine g_region ?_
      refine go_p rfl rfl rfl (o_load_box 1 Try.isAgg28 rfl rfl rfl rfl) ?_
      refine go_p rfl rfl rfl (o_move rfl) ?_
      refine go_p rfl rfl rfl (o_buildSlice (xs := [_]) (f := D.i64) (l := [_]) Try.runUnderlying28 Try.sizeOf3 Try.zeroValue3 rfl rfl rfl (fun _ => ⟨rfl, rfl, rfl⟩) rfl) ?_
      obtain ⟨hg2, hj1⟩ := grd_some hj1
      refine go_op rfl rfl rfl (o_append (a := _) 0 Try.underlying28 Try.type3 rfl rfl rfl rfl rfl rfl rfl (fun _ => rfl) (fun _ => rfl) hg2 (app_len hg2 rfl)) ?_
      rintro _ _ ⟨a_r1, cap_r1, rfl, rfl⟩
      refine go_ms (ms' := [_, box b4 28 [_], _, box b1 53 [_, _]]) rfl ?_
      refine go_u rfl rfl (o_store_box 1 Try.sizeOf28 rfl rfl rfl rfl rfl rfl rfl rfl (Nat.le_of_ble_eq_true rfl)) ?_
      rintro _ _ rfl
      refine go_ms (ms' := [_, box b4 28 [_], _, box b1 53 [_, _]]) rfl ?_
      refine go_nil ?_
      exact ⟨_, (_, _), hj1, [], rfl⟩
    · rintro ⟨l2, mm2⟩ ⟨a_r1, cap_r1⟩ hj1
      rw [m_graph_norm_r1] at hj1
      refine k_norm (ms' := [row a_r1 cap_r1 3 1 D.i64 l2, box b4 28 [.v (.slice a_r1 l2.length cap_r1)], mp b2 kI64 D.i64 mm2, _]) rfl rfl ?_
      exact ⟨_, (_, _), some_eq hj1, trivial, ⟨rfl, rfl, rfl, rfl, trivial⟩, [], rfl⟩
  · rintro ⟨l1, mm1⟩ ⟨a_r1, cap_r1⟩ hst
    subst hst
    refine k_norm (L' := [(2, _), (4, _), (5, _), (6, _)]) (ms' := [row a_r1 cap_r1 3 1 D.i64 l1, box b4 28 [.v (.slice a_r1 l1.length cap_r1)], mp b2 kI64 D.i64 mm1, _]) rfl rfl ?_
    refine g_seq ?_
    refine g_region ?_
    refine go_op rfl rfl rfl (o_alloc_own Try.zeroValue53 (cs := [.v (.slice none 0 0), .i64 0]) rfl) ?_
    rintro _ _ ⟨b6, rfl, rfl⟩
    refine go_conv (refines_newrow (T := 56) (sz := 4) (f := ApiTNode.d)) ?_
    refine go_nil ?_
    refine g_seq ?_
    refine g_seq ?_
    refine g_region ?_
    refine go_p rfl rfl rfl (o_load_box 3 Try.isAgg28 rfl rfl rfl rfl) ?_
    refine go_p rfl rfl rfl (.view (peekE (i := 24) 2 rfl rfl rfl) (o_len Try.runUnderlying28 rfl)) ?_
    refine go_p rfl rfl rfl (o_move rfl) ?_
    refine go_nil ?_
    obtain ⟨o_2, hj2, hm2⟩ := bind_some hm1
    refine g_cut_m [(4, _), (8, _)] [(2, _), (3, _), (4, _), (5, _)] (fun (st : ((List ApiTNode) × Int)) (hid : (Option Addr × Nat)) => match st, hid with | (l3, z1), (a_r2, cap_r2) => []) (fun F (st : ((List ApiTNode) × Int)) (hid : (Option Addr × Nat)) => match st, hid with | (l3, z1), (a_r2, cap_r2) => [row a_r2 cap_r2 56 4 ApiTNode.d l3, box b6 53 [.v (.slice a_r2 l3.length cap_r2), .i64 z1], (nthF F 0), (nthF F 1), (nthF F 2), (nthF F 3)]) (fun st => st = o_2) ⟨rfl, rfl, trivial⟩ ⟨rfl, rfl, rfl, rfl, trivial⟩ ?_ ?_
    · skip
      refine g_block ?_
      refine g_loop_m [(2, _), (4, _), (5, _), (8, _), (24, _), (25, _)] [(2, _), (3, _), (4, _), (5, _)] (fun (st : (Int × (List ApiTNode) × Int)) (hid : (Option Addr × Nat)) => match st, hid with | (x2, l4, z2), (a_r2, cap_r2) => [(26, .i64 x2)]) (fun F (st : (Int × (List ApiTNode) × Int)) (hid : (Option Addr × Nat)) => match st, hid with | (x2, l4, z2), (a_r2, cap_r2) => [row a_r2 cap_r2 56 4 ApiTNode.d l4, box b6 53 [.v (.slice a_r2 l4.length cap_r2), .i64 z2], (nthF F 0), (nthF F 1), (nthF F 2), (nthF F 3)]) (_, _) hj2 (fun _ => rfl) ⟨rfl, rfl, rfl, rfl, rfl, rfl, trivial⟩ ⟨rfl, rfl, rfl, rfl, trivial⟩ ⟨rfl, trivial⟩ rfl ?_
      rintro n ⟨x2, l4, z2⟩ ⟨a_r2, cap_r2⟩ hj2
      rw [m_graph_norm_l2] at hj2
      refine g_norm (L' := [(26, .i64 x2), (2, _), (4, _), (5, _), (8, _), (24, _), (25, _)]) (ms' := [row a_r2 cap_r2 56 4 ApiTNode.d l4, box b6 53 [.v (.slice a_r2 l4.length cap_r2), .i64 z2], _, _, _, _]) rfl rfl ?_
      refine g_seq ?_
      refine g_region ?_
      refine go_p rfl rfl rfl (o_cmp rfl rfl rfl) ?_
      refine go_nil ?_
      refine g_seq ?_
      refine g_cond rfl (fun hc1 => ?_) (fun hc1 => ?_)
      · replace hj2 := cond_t hc1 hj2
        refine g_skip ?_
        refine g_seq ?_
        refine g_block ?_
        refine g_seq ?_
        refine g_region ?_
        obtain ⟨x3, hx3, hj2⟩ := bind_some hj2
        refine go_p rfl rfl rfl (.view (peekE (i := 24) 2 rfl rfl rfl) (o_indexAddr_m Try.runUnderlying28 Try.sizeOf3 rfl rfl hx3)) ?_
        refine go_p rfl rfl rfl (o_load Try.isAgg3 rfl rfl) ?_
        refine go_p rfl rfl rfl (o_assign rfl) ?_
        refine go_nil ?_
        obtain ⟨x4, hx4, hj2⟩ := bind_some hj2
        obtain ⟨x5, hx5, hj2⟩ := bind_some hj2
        refine g_draw 10 Try_mixed (by decide +kernel) ?_
        refine gd_p rfl rfl rfl (o_fieldAddr_box fi_53_0 rfl) ?_
        refine gd_p rfl rfl rfl (o_load_box 1 Try.isAgg51 rfl rfl rfl rfl) ?_
        refine gd_p rfl rfl rfl (o_fieldAddr fi_53_0 rfl rfl rfl) ?_
        refine gd_p rfl rfl rfl (o_load Try.isAgg51 rfl rfl) ?_
        refine gd_p rfl rfl rfl (o_move rfl) ?_
        refine gd_p rfl rfl rfl (o_indexAddr_m Try.runUnderlying51 Try.sizeOf56 rfl rfl hx4) ?_
        refine gd_p rfl rfl rfl (o_load_agg Try.isAgg56 Try.sizeOf56 rfl rfl) ?_
        refine gd_p rfl rfl rfl (o_makeFunc rfl rfl) ?_
        refine gd_p rfl rfl rfl (o_call_t [4] Try.call84 rfl rfl (getL_c rfl getL_n) (w_graph_moved (fun _ _ h => fv_clo Try.call123 (w_graph_norm_1 h)) hx5)) ?_
        refine gd_p rfl rfl rfl (o_buildSlice (xs := [_]) (f := ApiTNode.d) (l := [_]) Try.runUnderlying51 Try.sizeOf56 Try.zeroValue56 rfl rfl rfl (fun _ => ⟨rfl, rfl, rfl⟩) rfl) ?_
        refine gd_nil ?_
        obtain ⟨hg6, hj2⟩ := grd_some hj2
        refine go_op rfl rfl rfl (o_append (a := _) 0 Try.underlying51 Try.type56 rfl rfl rfl rfl rfl rfl rfl (fun _ => rfl) (fun _ => rfl) hg6 (app_len hg6 rfl)) ?_
        rintro _ _ ⟨a_r2, cap_r2, rfl, rfl⟩
        refine go_ms (ms' := [_, box b6 53 [_, _], _, box b4 28 [_], _, box b1 53 [_, _]]) rfl ?_
        refine go_p rfl rfl rfl (o_fieldAddr_box fi_53_0 rfl) ?_
        refine go_u rfl rfl (o_store_box 1 Try.sizeOf51 rfl rfl rfl rfl rfl rfl rfl rfl (Nat.le_of_ble_eq_true rfl)) ?_
        rintro _ _ rfl
        refine go_ms (ms' := [_, box b6 53 [_, _], _, box b4 28 [_], _, box b1 53 [_, _]]) rfl ?_
        refine go_nil ?_
        refine g_region ?_
        obtain ⟨hg7, hj2⟩ := grd_some hj2
        refine go_p rfl rfl rfl (o_add rfl rfl (i64_id hg7)) ?_
        refine go_p rfl rfl rfl (o_move rfl) ?_
        refine go_nil ?_
        exact ⟨_, (_, _), hj2, ⟨rfl, trivial⟩, ⟨rfl, rfl, rfl, rfl, rfl, rfl, trivial⟩, [], rfl⟩
      · replace hj2 := cond_f hc1 hj2
        refine g_exit ?_
        exact ⟨_, (_, _), some_eq hj2, trivial, ⟨rfl, rfl, trivial⟩, [], rfl⟩
    · rintro ⟨l3, z1⟩ ⟨a_r2, cap_r2⟩ hst
      subst hst
      refine k_norm (L' := [(4, _), (8, _)]) (ms' := [row a_r2 cap_r2 56 4 ApiTNode.d l3, box b6 53 [.v (.slice a_r2 l3.length cap_r2), .i64 z1], _, _, _, _]) rfl rfl ?_
      refine g_seq ?_
      refine g_region ?_
      refine go_p rfl rfl rfl (o_load_box_agg 1 Try.isAgg53 Try.sizeOf53 rfl rfl rfl rfl (Nat.le_of_ble_eq_true rfl)) ?_
      refine go_conv (peekAggE (i := 43) (q := 0) 0 rfl rfl rfl rfl rfl).refines ?_
      refine go_u rfl rfl (o_store_box 5 Try.sizeOf53 rfl rfl rfl rfl rfl rfl rfl rfl (Nat.le_of_ble_eq_true rfl)) ?_
      rintro _ _ rfl
      refine go_ms (ms' := [_, box b6 53 [_, _], _, box b4 28 [_], _, box b1 53 [_, _]]) rfl ?_
      refine go_nil ?_
      refine g_ret ?_
      exact retK (ret_one' rfl (ret_cell 5 rfl rfl rfl Try.isAgg53 Try.sizeOf53 rfl) (perm_drop _)) (congrArg (fun (p : ApiType) => (ApiType.d p : D)) (some_eq hm2))
def m_graph_Norm (t1 : ApiType) : Option (ApiType × Int) :=
  (m_graph_May t1).bind fun x1 =>
  bif (!decide (x1 = 0)) then
    some ((⟨([] : List ApiTNode), 0⟩ : ApiType), x1)
  else
    (m_graph_norm t1 t1.root).bind fun x2 =>
    some ((⟨x2.l, x2.root⟩ : ApiType), 0)
theorem w_graph_Norm {t1 : ApiType} {r_1 : ApiType} {r_2 : Int} (hm : m_graph_Norm t1 = some (r_1, r_2)) : Fn0 Try.prog 41 [ApiType.d t1] (.tup [ApiType.d r_1, .i64 r_2]) := by
  unfold m_graph_Norm at hm
  refine fn_intro Try.func41 rfl Try.ntmps41 rfl fun H0 fr w0 => ?_
  refine g_seq ?_
  refine g_region ?_
  refine go_p rfl rfl rfl (o_box rfl rfl) ?_
  refine go_op rfl rfl rfl (o_alloc_own Try.zeroValue53 (cs := [.list 4 ApiTNode.d [], .i64 0]) rfl) ?_
  rintro _ _ ⟨b1, rfl, rfl⟩
  refine go_p rfl rfl rfl (o_assign rfl) ?_
  refine go_nil ?_
  refine g_seq ?_
  refine g_seq ?_
  refine g_region ?_
  refine go_p rfl rfl rfl (o_load_agg Try.isAgg53 Try.sizeOf53 rfl rfl) ?_
  obtain ⟨x1, hx1, hm⟩ := bind_some hm
  refine go_p rfl rfl rfl (o_call0 Try.call31 rfl (w_graph_May hx1)) ?_
  refine go_p rfl rfl rfl (o_assign rfl) ?_
  refine go_nil ?_
  refine g_seq ?_
  refine g_region ?_
  refine go_p rfl rfl rfl (o_move rfl) ?_
  refine go_p rfl rfl rfl (o_cmp rfl rfl rfl) ?_
  refine go_nil ?_
  refine g_cond rfl (fun hc1 => ?_) (fun hc1 => ?_)
  · replace hm := cond_t hc1 hm
    refine g_seq ?_
    refine g_region ?_
    refine go_p rfl rfl rfl (o_build (zs := [.list 4 ApiTNode.d [], .v (.int .i64 0)]) Try.runUnderlying53 Try.zeroValue53 (pl_53 _ Try.runUnderlying53) rfl rfl rfl rfl) ?_
    refine go_p rfl rfl rfl (o_move rfl) ?_
    refine go_u rfl rfl (o_store_box 0 Try.sizeOf53 rfl rfl rfl rfl rfl rfl rfl rfl (Nat.le_of_ble_eq_true rfl)) ?_
    rintro _ _ rfl
    refine go_ms (ms' := [box b1 53 [_, _]]) rfl ?_
    refine go_p rfl rfl rfl (o_assign rfl) ?_
    refine go_nil ?_
    refine g_ret ?_
    exact retK (ret_many (ds := [_, _]) rfl (by decide) ⟨ret_cell 0 rfl rfl rfl Try.isAgg53 Try.sizeOf53 rfl, ⟨ret_tmp rfl, rfl⟩⟩ (perm_drop _)) (congrArg (fun (p : (ApiType × Int)) => D.tup [ApiType.d p.1, .i64 p.2]) (some_eq hm))
  · replace hm := cond_f hc1 hm
    refine g_skip ?_
    refine g_seq ?_
    refine g_region ?_
    refine go_p rfl rfl rfl (o_load_agg Try.isAgg53 Try.sizeOf53 rfl rfl) ?_
    refine go_p rfl rfl rfl (o_fieldAddr fi_53_1 rfl rfl rfl) ?_
    refine go_p rfl rfl rfl (o_load Try.isAgg3 rfl rfl) ?_
    obtain ⟨x2, hx2, hm⟩ := bind_some hm
    refine go_p rfl rfl rfl (o_call0 Try.call86 rfl (w_graph_norm hx2)) ?_
    refine go_u rfl rfl (o_store_box 0 Try.sizeOf53 rfl rfl rfl rfl rfl rfl rfl rfl (Nat.le_of_ble_eq_true rfl)) ?_
    rintro _ _ rfl
    refine go_ms (ms' := [box b1 53 [_, _]]) rfl ?_
    refine go_p rfl rfl rfl (o_assign rfl) ?_
    refine go_nil ?_
    refine g_ret ?_
    exact retK (ret_many (ds := [_, _]) rfl (by decide) ⟨ret_cell 0 rfl rfl rfl Try.isAgg53 Try.sizeOf53 rfl, ⟨ret_tmp rfl, rfl⟩⟩ (perm_drop _)) (congrArg (fun (p : (ApiType × Int)) => D.tup [ApiType.d p.1, .i64 p.2]) (some_eq hm))
theorem pl_56 : ∀ fs, (∀ w, (underlying 56).run Try.prog w = .ok (.struct fs) w) → placesOf Try.prog fs [(0, 1), (1, 1), (2, 1), (3, 1)] := by
  intro fs h w
  have := (h w).symm.trans (Try.runUnderlying56 w)
  simp only [Result.ok.injEq, TypeDesc.struct.injEq, and_true] at this
  subst this
  simp [Try.sizeOf3, Try.sizeOf54, Sem.run]
def m_syntagmalaw13_round  : Option ApiType :=
  some (⟨[(⟨3, 0, 0, ([] : List ApiTField)⟩ : ApiTNode), (⟨6, 0, 1, ([] : List ApiTField)⟩ : ApiTNode)], 1⟩ : ApiType)
theorem w_syntagmalaw13_round  {r_1 : ApiType} (hm : m_syntagmalaw13_round = some r_1) : Fn0 Try.prog 82 [] (ApiType.d r_1) := by
  unfold m_syntagmalaw13_round at hm
  refine fn_intro Try.func82 rfl Try.ntmps82 rfl fun H0 fr w0 => ?_
  refine g_seq ?_
  refine g_region ?_
  refine go_op rfl rfl rfl (o_alloc_own Try.zeroValue53 (cs := [.list 4 ApiTNode.d [], .i64 0]) rfl) ?_
  rintro _ _ ⟨b1, rfl, rfl⟩
  refine go_nil ?_
  refine g_seq ?_
  refine g_region ?_
  refine go_p rfl rfl rfl (o_build (zs := [.v (.int .i64 0), .v (.int .i64 0), .v (.int .i64 0), .list 2 ApiTField.d []]) Try.runUnderlying56 Try.zeroValue56 (pl_56 _ Try.runUnderlying56) rfl rfl rfl rfl) ?_
  refine go_p rfl rfl rfl (o_build (zs := [.v (.int .i64 0), .v (.int .i64 0), .v (.int .i64 0), .list 2 ApiTField.d []]) Try.runUnderlying56 Try.zeroValue56 (pl_56 _ Try.runUnderlying56) rfl rfl rfl rfl) ?_
  refine go_p rfl rfl rfl (o_buildSlice (xs := [_, _]) (f := ApiTNode.d) (l := [(⟨3, 0, 0, ([] : List ApiTField)⟩ : ApiTNode), (⟨6, 0, 1, ([] : List ApiTField)⟩ : ApiTNode)]) Try.runUnderlying51 Try.sizeOf56 Try.zeroValue56 rfl rfl rfl (fun _ => ⟨rfl, rfl, rfl⟩) rfl) ?_
  refine go_p rfl rfl rfl (o_build (zs := [.list 4 ApiTNode.d [], .v (.int .i64 0)]) Try.runUnderlying53 Try.zeroValue53 (pl_53 _ Try.runUnderlying53) rfl rfl rfl rfl) ?_
  refine go_u rfl rfl (o_store_box 0 Try.sizeOf53 rfl rfl rfl rfl rfl rfl rfl rfl (Nat.le_of_ble_eq_true rfl)) ?_
  rintro _ _ rfl
  refine go_ms (ms' := [box b1 53 [_, _]]) rfl ?_
  refine go_nil ?_
  refine g_ret ?_
  exact retK (ret_one' rfl (ret_cell 0 rfl rfl rfl Try.isAgg53 Try.sizeOf53 rfl) (perm_drop _)) (congrArg (fun (p : ApiType) => (ApiType.d p : D)) (some_eq hm))
def m_syntagmalaw13_works  : Option Bool :=
  (m_syntagmalaw13_round).bind fun x1 =>
  (m_graph_Norm x1).bind fun (x2, x3) =>
  (m_syntagmalaw13_round).bind fun x4 =>
  (m_graph_May x4).bind fun x5 =>
  (bif (((decide (x5 = 0)) && (decide (x3 = 0))) && (decide ((x2.l.length : Int) = 2))) then ((idx x2.l 0).bind fun x6 =>
  some (decide (x6.kind = 6))) else (some false)).bind fun p1 =>
  (bif p1 then ((idx x2.l 0).bind fun x7 =>
  some (decide (x7.b = 0))) else (some false)).bind fun p2 =>
  (bif p2 then ((m_graph_Ground (⟨x2.l, x2.root⟩ : ApiType)).bind fun x8 =>
  some x8) else (some false)).bind fun p3 =>
  some p3
theorem w_syntagmalaw13_works  {r_1 : Bool} (hm : m_syntagmalaw13_works = some r_1) : Fn0 Try.prog 36 [] (.bool r_1) := by
  unfold m_syntagmalaw13_works at hm
  refine fn_intro Try.func36 rfl Try.ntmps36 rfl fun H0 fr w0 => ?_
  refine g_seq ?_
  refine g_region ?_
  refine go_p rfl rfl rfl (o_assign rfl) ?_
  refine go_nil ?_
  refine g_seq ?_
  refine g_region ?_
  obtain ⟨x1, hx1, hm⟩ := bind_some hm
  refine go_p rfl rfl rfl (o_call0 Try.call82 rfl (w_syntagmalaw13_round hx1)) ?_
  obtain ⟨⟨x2, x3⟩, hx2, hm⟩ := bind_some hm
  refine go_p rfl rfl rfl (o_call0 Try.call41 rfl (w_graph_Norm hx2)) ?_
  refine go_p rfl rfl rfl (o_move rfl) ?_
  refine go_p rfl rfl rfl (o_extract rfl rfl) ?_
  refine go_p rfl rfl rfl (o_extract rfl rfl) ?_
  refine go_op rfl rfl rfl (o_alloc_own Try.zeroValue53 (cs := [.list 4 ApiTNode.d [], .i64 0]) rfl) ?_
  rintro _ _ ⟨b1, rfl, rfl⟩
  refine go_u rfl rfl (o_store_box 0 Try.sizeOf53 rfl rfl rfl rfl rfl rfl rfl rfl (Nat.le_of_ble_eq_true rfl)) ?_
  rintro _ _ rfl
  refine go_ms (ms' := [box b1 53 [_, _]]) rfl ?_
  refine go_p rfl rfl rfl (o_assign rfl) ?_
  refine go_nil ?_
  refine g_seq ?_
  refine g_region ?_
  obtain ⟨x4, hx3, hm⟩ := bind_some hm
  refine go_p rfl rfl rfl (o_call0 Try.call82 rfl (w_syntagmalaw13_round hx3)) ?_
  obtain ⟨x5, hx4, hm⟩ := bind_some hm
  refine go_p rfl rfl rfl (o_call0 Try.call31 rfl (w_graph_May hx4)) ?_
  refine go_p rfl rfl rfl (o_cmp rfl rfl rfl) ?_
  refine go_p rfl rfl rfl (o_move rfl) ?_
  apply go_and [(1, _)] 3 14 (t := 11) ⟨rfl, trivial⟩ rfl
  · intro hg_1 hk1
    refine go_wantp rfl rfl rfl hg_1 rfl rfl (o_move rfl) ?_
    refine go_wantp rfl rfl rfl hg_1 rfl rfl (o_cmp rfl rfl rfl) ?_
    refine go_p rfl rfl rfl (o_pickT rfl hg_1 rfl) ?_
    exact go_meet hk1 (rfl) ⟨rfl, trivial⟩
  · intro hg_1 hk1
    refine go_skip rfl rfl rfl hg_1 rfl rfl ?_
    refine go_skip rfl rfl rfl hg_1 rfl rfl ?_
    refine go_p rfl rfl rfl (o_pickF rfl hg_1 rfl) ?_
    exact go_meet hk1 (rfl) ⟨rfl, trivial⟩
  refine go_p rfl rfl rfl (o_move rfl) ?_
  apply go_and [(1, _)] 5 20 (t := 15) ⟨rfl, trivial⟩ rfl
  · intro hg_2 hk2
    refine go_wantp rfl rfl rfl hg_2 rfl rfl (o_fieldAddr_box fi_53_0 rfl) ?_
    refine go_wantp rfl rfl rfl hg_2 rfl rfl (o_load_box 0 Try.isAgg51 rfl rfl rfl rfl) ?_
    refine go_wantp rfl rfl rfl hg_2 rfl rfl (o_len Try.runUnderlying51 rfl) ?_
    refine go_wantp rfl rfl rfl hg_2 rfl rfl (o_cmp rfl rfl rfl) ?_
    refine go_p rfl rfl rfl (o_pickT rfl hg_2 rfl) ?_
    exact go_meet hk2 (rfl) ⟨rfl, trivial⟩
  · intro hg_2 hk2
    refine go_skip rfl rfl rfl hg_2 rfl rfl ?_
    refine go_skip rfl rfl rfl hg_2 rfl rfl ?_
    refine go_skip rfl rfl rfl hg_2 rfl rfl ?_
    refine go_skip rfl rfl rfl hg_2 rfl rfl ?_
    refine go_p rfl rfl rfl (o_pickF rfl hg_2 rfl) ?_
    exact go_meet hk2 (rfl) ⟨rfl, trivial⟩
  refine go_p rfl rfl rfl (o_move rfl) ?_
  obtain ⟨p1, hp_3, hm⟩ := bind_some hm
  refine go_two [(1, _)] 7 28 p1 (t := 21) ⟨rfl, trivial⟩ rfl (fun hg_3 hk3 => ?_) (fun hg_3 hk3 => ?_) ?_
  · replace hp_3 := cond_t hg_3 hp_3
    refine go_wantp rfl rfl rfl hg_3 rfl rfl (o_fieldAddr_box fi_53_0 rfl) ?_
    refine go_wantp rfl rfl rfl hg_3 rfl rfl (o_load_box 0 Try.isAgg51 rfl rfl rfl rfl) ?_
    obtain ⟨x6, hx5, hp_3⟩ := bind_some hp_3
    refine go_wantp rfl rfl rfl hg_3 rfl rfl (o_indexAddr_m Try.runUnderlying51 Try.sizeOf56 rfl rfl hx5) ?_
    refine go_wantp rfl rfl rfl hg_3 rfl rfl (o_fieldAddr fi_56_0 rfl rfl rfl) ?_
    refine go_wantp rfl rfl rfl hg_3 rfl rfl (o_load Try.isAgg3 rfl rfl) ?_
    refine go_wantp rfl rfl rfl hg_3 rfl rfl (o_cmp rfl rfl rfl) ?_
    refine go_p rfl rfl rfl (o_pickT rfl hg_3 rfl) ?_
    exact go_meet hk3 (congrArg (fun b => some (D.bool b)) (some_eq hp_3)) ⟨rfl, trivial⟩
  · replace hp_3 := cond_f hg_3 hp_3
    refine go_skip rfl rfl rfl hg_3 rfl rfl ?_
    refine go_skip rfl rfl rfl hg_3 rfl rfl ?_
    refine go_skip rfl rfl rfl hg_3 rfl rfl ?_
    refine go_skip rfl rfl rfl hg_3 rfl rfl ?_
    refine go_skip rfl rfl rfl hg_3 rfl rfl ?_
    refine go_skip rfl rfl rfl hg_3 rfl rfl ?_
    refine go_p rfl rfl rfl (o_pickF rfl hg_3 rfl) ?_
    exact go_meet hk3 (congrArg (fun b => some (D.bool b)) (some_eq hp_3)) ⟨rfl, trivial⟩
  refine go_p rfl rfl rfl (o_move rfl) ?_
  obtain ⟨p2, hp_4, hm⟩ := bind_some hm
  refine go_two [(1, _)] 7 36 p2 (t := 29) ⟨rfl, trivial⟩ rfl (fun hg_4 hk4 => ?_) (fun hg_4 hk4 => ?_) ?_
  · replace hp_4 := cond_t hg_4 hp_4
    refine go_wantp rfl rfl rfl hg_4 rfl rfl (o_fieldAddr_box fi_53_0 rfl) ?_
    refine go_wantp rfl rfl rfl hg_4 rfl rfl (o_load_box 0 Try.isAgg51 rfl rfl rfl rfl) ?_
    obtain ⟨x7, hx6, hp_4⟩ := bind_some hp_4
    refine go_wantp rfl rfl rfl hg_4 rfl rfl (o_indexAddr_m Try.runUnderlying51 Try.sizeOf56 rfl rfl hx6) ?_
    refine go_wantp rfl rfl rfl hg_4 rfl rfl (o_fieldAddr fi_56_2 rfl rfl rfl) ?_
    refine go_wantp rfl rfl rfl hg_4 rfl rfl (o_load Try.isAgg3 rfl rfl) ?_
    refine go_wantp rfl rfl rfl hg_4 rfl rfl (o_cmp rfl rfl rfl) ?_
    refine go_p rfl rfl rfl (o_pickT rfl hg_4 rfl) ?_
    exact go_meet hk4 (congrArg (fun b => some (D.bool b)) (some_eq hp_4)) ⟨rfl, trivial⟩
  · replace hp_4 := cond_f hg_4 hp_4
    refine go_skip rfl rfl rfl hg_4 rfl rfl ?_
    refine go_skip rfl rfl rfl hg_4 rfl rfl ?_
    refine go_skip rfl rfl rfl hg_4 rfl rfl ?_
    refine go_skip rfl rfl rfl hg_4 rfl rfl ?_
    refine go_skip rfl rfl rfl hg_4 rfl rfl ?_
    refine go_skip rfl rfl rfl hg_4 rfl rfl ?_
    refine go_p rfl rfl rfl (o_pickF rfl hg_4 rfl) ?_
    exact go_meet hk4 (congrArg (fun b => some (D.bool b)) (some_eq hp_4)) ⟨rfl, trivial⟩
  refine go_p rfl rfl rfl (o_move rfl) ?_
  obtain ⟨p3, hp_5, hm⟩ := bind_some hm
  refine go_two [] 3 40 p3 (t := 37) trivial rfl (fun hg_5 hk5 => ?_) (fun hg_5 hk5 => ?_) ?_
  · replace hp_5 := cond_t hg_5 hp_5
    refine go_wantp rfl rfl rfl hg_5 rfl rfl (o_load_box_agg 0 Try.isAgg53 Try.sizeOf53 rfl rfl rfl rfl (Nat.le_of_ble_eq_true rfl)) ?_
    obtain ⟨x8, hx7, hp_5⟩ := bind_some hp_5
    refine go_wantp rfl rfl rfl hg_5 rfl rfl (o_call0 Try.call35 rfl (w_graph_Ground hx7)) ?_
    refine go_p rfl rfl rfl (o_pickT rfl hg_5 rfl) ?_
    exact go_meet hk5 (congrArg (fun b => some (D.bool b)) (some_eq hp_5)) trivial
  · replace hp_5 := cond_f hg_5 hp_5
    refine go_skip rfl rfl rfl hg_5 rfl rfl ?_
    refine go_skip rfl rfl rfl hg_5 rfl rfl ?_
    refine go_p rfl rfl rfl (o_pickF rfl hg_5 rfl) ?_
    exact go_meet hk5 (congrArg (fun b => some (D.bool b)) (some_eq hp_5)) trivial
  refine go_p rfl rfl rfl (o_assign rfl) ?_
  refine go_nil ?_
  refine g_ret ?_
  exact retK (ret_one' rfl (ret_tmp rfl) (perm_drop _)) (congrArg (fun (p : Bool) => (.bool p : D)) (some_eq hm))
def m_graph_Graft_1 (k1 : Int) (c1 : Int) : Option Int :=
  grd (InR (k1 + c1)) <|
  some (k1 + c1)
theorem w_graph_Graft_1 {k1 : Int} {c1 : Int} {r_1 : Int} (hm : m_graph_Graft_1 k1 c1 = some r_1) : Fn0 Try.prog 85 [.i64 k1, .ref (.i64 c1)] (.i64 r_1) := by
  unfold m_graph_Graft_1 at hm
  refine fn_intro Try.func85 rfl Try.ntmps85 rfl fun H0 fr w0 => ?_
  refine g_seq ?_
  refine g_region ?_
  refine go_p rfl rfl rfl (o_assign rfl) ?_
  refine go_nil ?_
  refine g_seq ?_
  refine g_region ?_
  refine go_p rfl rfl rfl (o_move rfl) ?_
  refine go_p rfl rfl rfl (o_load Try.isAgg3 rfl rfl) ?_
  obtain ⟨hg1, hm⟩ := grd_some hm
  refine go_p rfl rfl rfl (o_add rfl rfl (i64_id hg1)) ?_
  refine go_p rfl rfl rfl (o_assign rfl) ?_
  refine go_nil ?_
  refine g_ret ?_
  exact retK (ret_one' rfl (ret_tmp rfl) (perm_drop _)) (congrArg (fun (p : Int) => (.i64 p : D)) (some_eq hm))
def m_graph_Graft_l1 (a1 : ApiType) (b1 : ApiType) : Nat → (Int × Int × (List ApiTNode)) → Option (Int × (List ApiTNode))
  | 0, _ => none
  | n + 1, (x1, z2, l2) =>
    bif (decide (x1 < (b1.l.length : Int))) then
      (idx b1.l x1).bind fun x2 =>
      (m_graph_moved (⟨x2.kind, x2.a, x2.b, x2.l⟩ : ApiTNode) (fun y0 => m_graph_Graft_1 y0 (a1.l.length : Int))).bind fun x3 =>
      grd ((l2.length + ([x3] : List _).length) * 48 ≤ 140737488355328) <|
      grd (InR (x1 + 1)) <|
      m_graph_Graft_l1 a1 b1 n ((x1 + 1), z2, (l2 ++ [x3]))
    else
      some (z2, l2)
def m_graph_Graft (a1 : ApiType) (b1 : ApiType) : Option (ApiType × Int) :=
  grd (a1.l.length * 48 ≤ 140737488355328) <|
  (m_graph_Graft_l1 a1 b1 FU (0, a1.root, a1.l) : Option (Int × (List ApiTNode))).bind fun (z1, l1) =>
  some ((⟨l1, z1⟩ : ApiType), (a1.l.length : Int))
theorem w_graph_Graft {a1 : ApiType} {b1 : ApiType} {r_1 : ApiType} {r_2 : Int} (hm : m_graph_Graft a1 b1 = some (r_1, r_2)) : Fn0 Try.prog 38 [ApiType.d a1, ApiType.d b1] (.tup [ApiType.d r_1, .i64 r_2]) := by
  unfold m_graph_Graft at hm
  refine fn_intro Try.func38 rfl Try.ntmps38 rfl fun H0 fr w0 => ?_
  refine g_seq ?_
  refine g_region ?_
  refine go_p rfl rfl rfl (o_box rfl rfl) ?_
  refine go_p rfl rfl rfl (o_box rfl rfl) ?_
  refine go_op rfl rfl rfl (o_alloc_own Try.zeroValue53 (cs := [.list 4 ApiTNode.d [], .i64 0]) rfl) ?_
  rintro _ _ ⟨b1, rfl, rfl⟩
  refine go_p rfl rfl rfl (o_assign rfl) ?_
  refine go_nil ?_
  refine g_seq ?_
  refine g_region ?_
  refine go_p rfl rfl rfl (o_fieldAddr fi_53_0 rfl rfl rfl) ?_
  refine go_p rfl rfl rfl (o_load Try.isAgg51 rfl rfl) ?_
  refine go_p rfl rfl rfl (o_len Try.runUnderlying51 rfl) ?_
  refine go_op rfl rfl rfl (o_alloc_own Try.zeroValue3 (cs := [.i64 0]) rfl) ?_
  rintro _ _ ⟨b2, rfl, rfl⟩
  refine go_u rfl rfl (o_store_box 0 Try.sizeOf3 rfl rfl rfl rfl rfl rfl rfl rfl (Nat.le_of_ble_eq_true rfl)) ?_
  rintro _ _ rfl
  refine go_ms (ms' := [box b2 3 [_], box b1 53 [_, _]]) rfl ?_
  refine go_conv (refines_freeze (d := .i64 (a1.l.length : Int)) 0 6 rfl rfl rfl rfl) ?_
  refine go_nil ?_
  refine g_seq ?_
  obtain ⟨hg1, hm⟩ := grd_some hm
  refine g_draw_x [2, 5] [7] [3, 4] [6] [] Try_mixed (by decide +kernel) (by decide +kernel) rfl ?_
  refine gdx_p rfl rfl rfl rfl rfl rfl (o_fieldAddr fi_53_0 rfl rfl rfl) ?_
  refine gdx_p rfl rfl rfl rfl rfl rfl (o_load Try.isAgg51 rfl rfl) ?_
  refine gdx_e rfl ?_
  refine gdx_p rfl rfl rfl rfl rfl rfl (o_fieldAddr fi_53_1 rfl rfl rfl) ?_
  refine gdx_p rfl rfl rfl rfl rfl rfl (o_load Try.isAgg3 rfl rfl) ?_
  refine gdx_e rfl ?_
  refine gdx_fresh (R0 := fun d A => ∃ b, d = .v (.pointer (some ⟨b, 0, none⟩)) ∧ A = box b 53 [.list 4 ApiTNode.d [], .i64 0]) rfl rfl rfl rfl (OpT.mono (o_alloc_own Try.zeroValue53 (cs := [.list 4 ApiTNode.d [], .i64 0]) rfl) (by rintro d ms' ⟨b, rfl, rfl⟩; exact ⟨_, ⟨b, rfl, rfl⟩, rfl⟩)) ?_
  refine gdx_e rfl ?_
  refine gdx_nil ?_
  refine gf_t rfl rfl rfl rfl (o_call (ms₁ := []) Try.call83 rfl (List.Perm.refl _) (w_Clone_83 hg1)) ?_
  rintro _ _ ⟨_, ⟨a_r1, cap_r1, rfl, rfl⟩, rfl⟩
  generalize hm_r1 : a1.l.length = m_r1
  clear hm_r1
  refine ⟨(trivial : True), ?_⟩
  refine gf_t rfl rfl rfl rfl (o_build (zs := [.list 4 ApiTNode.d [], .v (.int .i64 0)]) Try.runUnderlying53 Try.zeroValue53 (pl_53 _ Try.runUnderlying53) rfl rfl rfl rfl) ?_
  rintro _ _ ⟨rfl, rfl⟩
  refine ⟨(trivial : True), ?_⟩
  refine gf_nil [(6, 7)] rfl ?_
  rintro _ _ ⟨b3, rfl, rfl⟩
  show _ ∧ _
  refine ⟨(trivial : True), ?_⟩
  refine gde2_u rfl rfl rfl (o_store_box 0 Try.sizeOf53 rfl rfl rfl rfl rfl rfl rfl rfl (Nat.le_of_ble_eq_true rfl)) ?_
  rintro _ _ rfl
  refine ⟨(trivial : True), ?_⟩
  refine gde2_nil ?_
  refine g_seq ?_
  refine g_seq ?_
  refine g_region ?_
  refine go_p rfl rfl rfl (o_fieldAddr fi_53_0 rfl rfl rfl) ?_
  refine go_p rfl rfl rfl (o_load Try.isAgg51 rfl rfl) ?_
  refine go_p rfl rfl rfl (o_len Try.runUnderlying51 rfl) ?_
  refine go_p rfl rfl rfl (o_move rfl) ?_
  refine go_nil ?_
  refine g_thaw 1 rfl rfl ?_
  rintro rfl
  obtain ⟨o_1, hj1, hm1⟩ := bind_some hm
  refine g_cut_m [(4, _), (6, _), (7, _)] [(2, _)] (fun (st : (Int × (List ApiTNode))) (hid : (Option Addr × Nat)) => match st, hid with | (z1, l1), (a_r1, cap_r1) => []) (fun F (st : (Int × (List ApiTNode))) (hid : (Option Addr × Nat)) => match st, hid with | (z1, l1), (a_r1, cap_r1) => [box b3 53 [.v (.slice a_r1 l1.length cap_r1), .i64 z1], row a_r1 cap_r1 56 4 ApiTNode.d l1, (nthF F 0)]) (fun st => st = o_1) ⟨rfl, rfl, rfl, trivial⟩ ⟨rfl, trivial⟩ ?_ ?_
  · skip
    refine g_block ?_
    refine g_loop_m [(4, _), (6, _), (7, _), (20, _), (21, _)] [(2, _)] (fun (st : (Int × Int × (List ApiTNode))) (hid : (Option Addr × Nat)) => match st, hid with | (x1, z2, l2), (a_r1, cap_r1) => [(22, .i64 x1)]) (fun F (st : (Int × Int × (List ApiTNode))) (hid : (Option Addr × Nat)) => match st, hid with | (x1, z2, l2), (a_r1, cap_r1) => [box b3 53 [.v (.slice a_r1 l2.length cap_r1), .i64 z2], row a_r1 cap_r1 56 4 ApiTNode.d l2, (nthF F 0)]) (_, _) hj1 (fun _ => rfl) ⟨rfl, rfl, rfl, rfl, rfl, trivial⟩ ⟨rfl, trivial⟩ ⟨rfl, trivial⟩ rfl ?_
    rintro n ⟨x1, z2, l2⟩ ⟨a_r1, cap_r1⟩ hj1
    rw [m_graph_Graft_l1] at hj1
    refine g_norm (L' := [(22, .i64 x1), (4, _), (6, _), (7, _), (20, _), (21, _)]) (ms' := [box b3 53 [.v (.slice a_r1 l2.length cap_r1), .i64 z2], row a_r1 cap_r1 56 4 ApiTNode.d l2, _]) rfl rfl ?_
    refine g_seq ?_
    refine g_region ?_
    refine go_p rfl rfl rfl (o_cmp rfl rfl rfl) ?_
    refine go_nil ?_
    refine g_seq ?_
    refine g_cond rfl (fun hc1 => ?_) (fun hc1 => ?_)
    · replace hj1 := cond_t hc1 hj1
      refine g_skip ?_
      refine g_seq ?_
      refine g_block ?_
      refine g_seq ?_
      refine g_region ?_
      obtain ⟨x2, hx2, hj1⟩ := bind_some hj1
      refine go_p rfl rfl rfl (o_indexAddr_m Try.runUnderlying51 Try.sizeOf56 rfl rfl hx2) ?_
      refine go_p rfl rfl rfl (o_load_agg Try.isAgg56 Try.sizeOf56 rfl rfl) ?_
      refine go_op rfl rfl rfl (o_alloc_own Try.zeroValue56 (cs := [.i64 0, .i64 0, .i64 0, .list 2 ApiTField.d []]) rfl) ?_
      rintro _ _ ⟨b4, rfl, rfl⟩
      refine go_u rfl rfl (o_store_box 0 Try.sizeOf56 rfl rfl rfl rfl rfl rfl rfl rfl (Nat.le_of_ble_eq_true rfl)) ?_
      rintro _ _ rfl
      refine go_ms (ms' := [box b4 56 [_, _, _, _], box b3 53 [_, _], _, box b1 53 [_, _]]) rfl ?_
      refine go_nil ?_
      obtain ⟨x3, hx3, hj1⟩ := bind_some hj1
      refine g_draw 6 Try_mixed (by decide +kernel) ?_
      refine gd_p rfl rfl rfl (o_fieldAddr_box fi_53_0 rfl) ?_
      refine gd_p rfl rfl rfl (o_load_box 1 Try.isAgg51 rfl rfl rfl rfl) ?_
      refine gd_p rfl rfl rfl (o_load_box_agg 0 Try.isAgg56 Try.sizeOf56 rfl rfl rfl rfl (Nat.le_of_ble_eq_true rfl)) ?_
      refine gd_p rfl rfl rfl (o_makeFunc rfl rfl) ?_
      refine gd_p rfl rfl rfl (o_call_t [] Try.call84 rfl rfl getL_n (w_graph_moved (fun _ _ h => fv_nil (fv_clo Try.call85 (w_graph_Graft_1 h))) hx3)) ?_
      refine gd_p rfl rfl rfl (o_buildSlice (xs := [_]) (f := ApiTNode.d) (l := [_]) Try.runUnderlying51 Try.sizeOf56 Try.zeroValue56 rfl rfl rfl (fun _ => ⟨rfl, rfl, rfl⟩) rfl) ?_
      refine gd_nil ?_
      obtain ⟨hg4, hj1⟩ := grd_some hj1
      refine go_op rfl rfl rfl (o_append (a := _) 2 Try.underlying51 Try.type56 rfl rfl rfl rfl rfl rfl rfl (fun _ => rfl) (fun _ => rfl) hg4 (app_len hg4 rfl)) ?_
      rintro _ _ ⟨a_r1, cap_r1, rfl, rfl⟩
      refine go_ms (ms' := [box b4 56 [_, _, _, _], box b3 53 [_, _], _, box b1 53 [_, _]]) rfl ?_
      refine go_p rfl rfl rfl (o_fieldAddr_box fi_53_0 rfl) ?_
      refine go_u rfl rfl (o_store_box 1 Try.sizeOf51 rfl rfl rfl rfl rfl rfl rfl rfl (Nat.le_of_ble_eq_true rfl)) ?_
      rintro _ _ rfl
      refine go_ms (ms' := [box b4 56 [_, _, _, _], box b3 53 [_, _], _, box b1 53 [_, _]]) rfl ?_
      refine go_nil ?_
      refine g_region ?_
      obtain ⟨hg5, hj1⟩ := grd_some hj1
      refine go_p rfl rfl rfl (o_add rfl rfl (i64_id hg5)) ?_
      refine go_p rfl rfl rfl (o_move rfl) ?_
      refine go_nil ?_
      exact ⟨_, (_, _), hj1, ⟨rfl, trivial⟩, ⟨rfl, rfl, rfl, rfl, rfl, trivial⟩, [_], rfl⟩
    · replace hj1 := cond_f hc1 hj1
      refine g_exit ?_
      exact ⟨_, (_, _), some_eq hj1, trivial, ⟨rfl, rfl, rfl, trivial⟩, [], rfl⟩
  · rintro ⟨z1, l1⟩ ⟨a_r1, cap_r1⟩ hst
    subst hst
    refine k_norm (L' := [(4, _), (6, _), (7, _)]) (ms' := [box b3 53 [.v (.slice a_r1 l1.length cap_r1), .i64 z1], row a_r1 cap_r1 56 4 ApiTNode.d l1, _]) rfl rfl ?_
    refine g_seq ?_
    refine g_conv (refines_cellrow 0 0 1 rfl rfl rfl rfl rfl rfl) ?_
    refine g_draw_c [2] [1, 3] [] Try_mixed (by decide +kernel) (by decide +kernel) rfl ?_
    refine gde_p rfl rfl rfl rfl rfl rfl (o_load_box_agg 0 Try.isAgg53 Try.sizeOf53 rfl rfl rfl rfl (Nat.le_of_ble_eq_true rfl)) ?_
    refine gde_p rfl rfl rfl rfl rfl rfl (o_load Try.isAgg3 rfl rfl) ?_
    refine gde_e rfl ?_
    refine gde_p rfl rfl rfl rfl rfl rfl (o_assign rfl) ?_
    refine gde_nil ?_
    refine gde2_u rfl rfl rfl (o_store_box 2 Try.sizeOf53 rfl rfl rfl rfl rfl rfl rfl rfl (Nat.le_of_ble_eq_true rfl)) ?_
    rintro _ _ rfl
    refine ⟨(trivial : True), ?_⟩
    refine gde2_nil ?_
    refine g_ret ?_
    exact retK (ret_many (ds := [_, _]) rfl (by decide) ⟨ret_cell 2 rfl rfl rfl Try.isAgg53 Try.sizeOf53 rfl, ⟨ret_tmp rfl, rfl⟩⟩ (perm_drop _)) (congrArg (fun (p : (ApiType × Int)) => D.tup [ApiType.d p.1, .i64 p.2]) (some_eq hm1))
def ApiTField.eqv (x y : ApiTField) : Bool := ((x.name == y.name) && ((x.at_ == y.at_) && true))
theorem eqf_100 : ∀ fs : Array Field, Try.prog.underlying 100 = some (.struct fs) → EqFields Try.prog fs.toList 0 [.str, .int] := by
  intro fs h
  have := h.symm.trans Try.underlying100
  simp only [Option.some.injEq, TypeDesc.struct.injEq] at this
  subst this
  exact ⟨by decide, rfl, Try.isAgg9, Try.underlying9, ⟨by decide, rfl, Try.isAgg3, ⟨_, Try.underlying3⟩, trivial⟩⟩
def m_syntagmaref13_SameList_l2 (x1 : ApiTNode) (x2 : ApiTNode) : Nat → Int → Option (Out Bool Unit)
  | 0, _ => none
  | n + 1, k1 =>
    bif (decide (k1 < (x1.l.length : Int))) then
      (idx x1.l k1).bind fun x3 =>
      (idx x2.l k1).bind fun x4 =>
      bif (!(ApiTField.eqv x3 x4)) then
        some (Out.ret false)
      else
        grd (InR (k1 + 1)) <|
        m_syntagmaref13_SameList_l2 x1 x2 n (k1 + 1)
    else
      some (Out.go (()))
def m_syntagmaref13_SameList_l1 (a1 : ApiType) (b1 : ApiType) : Nat → Int → Option (Out Bool Unit)
  | 0, _ => none
  | n + 1, i1 =>
    bif (decide (i1 < (a1.l.length : Int))) then
      (idx a1.l i1).bind fun x1 =>
      (idx b1.l i1).bind fun x2 =>
      bif ((((!decide (x1.kind = x2.kind)) || (!decide (x1.a = x2.a))) || (!decide (x1.b = x2.b))) || (!decide ((x1.l.length : Int) = (x2.l.length : Int)))) then
        some (Out.ret false)
      else
        ((m_syntagmaref13_SameList_l2 x1 x2 FU 0 : Option (Out Bool Unit))).bind (fun oo => oo.on (fun r1 => some (Out.ret r1)) (fun _ =>
        grd (InR (i1 + 1)) <|
        m_syntagmaref13_SameList_l1 a1 b1 n (i1 + 1)))
    else
      some (Out.go (()))
def m_syntagmaref13_SameList (a1 : ApiType) (b1 : ApiType) : Option Bool :=
  bif ((!decide ((a1.l.length : Int) = (b1.l.length : Int))) || (!decide (a1.root = b1.root))) then
    some false
  else
    ((m_syntagmaref13_SameList_l1 a1 b1 FU 0 : Option (Out Bool Unit))).bind (fun oo => oo.on (fun r2 => some r2) (fun _ =>
    some true))
theorem w_syntagmaref13_SameList {a1 : ApiType} {b1 : ApiType} {r_1 : Bool} (hm : m_syntagmaref13_SameList a1 b1 = some r_1) : Fn0 Try.prog 40 [ApiType.d a1, ApiType.d b1] (.bool r_1) := by
  unfold m_syntagmaref13_SameList at hm
  refine fn_intro Try.func40 rfl Try.ntmps40 rfl fun H0 fr w0 => ?_
  refine g_seq ?_
  refine g_region ?_
  refine go_p rfl rfl rfl (o_box rfl rfl) ?_
  refine go_p rfl rfl rfl (o_box rfl rfl) ?_
  refine go_p rfl rfl rfl (o_assign rfl) ?_
  refine go_nil ?_
  refine g_seq ?_
  refine g_seq ?_
  refine g_region ?_
  refine go_p rfl rfl rfl (o_fieldAddr fi_53_0 rfl rfl rfl) ?_
  refine go_p rfl rfl rfl (o_load Try.isAgg51 rfl rfl) ?_
  refine go_p rfl rfl rfl (o_len Try.runUnderlying51 rfl) ?_
  refine go_p rfl rfl rfl (o_fieldAddr fi_53_0 rfl rfl rfl) ?_
  refine go_p rfl rfl rfl (o_load Try.isAgg51 rfl rfl) ?_
  refine go_p rfl rfl rfl (o_len Try.runUnderlying51 rfl) ?_
  refine go_p rfl rfl rfl (o_cmp rfl rfl rfl) ?_
  refine go_p rfl rfl rfl (o_move rfl) ?_
  apply go_or [(2, _), (3, _)] 6 22 (t := 16) ⟨rfl, rfl, trivial⟩ rfl
  · intro hg_1 hk1
    refine go_wantp rfl rfl rfl hg_1 rfl rfl (o_fieldAddr fi_53_1 rfl rfl rfl) ?_
    refine go_wantp rfl rfl rfl hg_1 rfl rfl (o_load Try.isAgg3 rfl rfl) ?_
    refine go_wantp rfl rfl rfl hg_1 rfl rfl (o_fieldAddr fi_53_1 rfl rfl rfl) ?_
    refine go_wantp rfl rfl rfl hg_1 rfl rfl (o_load Try.isAgg3 rfl rfl) ?_
    refine go_wantp rfl rfl rfl hg_1 rfl rfl (o_cmp rfl rfl rfl) ?_
    refine go_p rfl rfl rfl (o_pickF rfl hg_1 rfl) ?_
    exact go_meet hk1 (rfl) ⟨rfl, rfl, trivial⟩
  · intro hg_1 hk1
    refine go_skip rfl rfl rfl hg_1 rfl rfl ?_
    refine go_skip rfl rfl rfl hg_1 rfl rfl ?_
    refine go_skip rfl rfl rfl hg_1 rfl rfl ?_
    refine go_skip rfl rfl rfl hg_1 rfl rfl ?_
    refine go_skip rfl rfl rfl hg_1 rfl rfl ?_
    refine go_p rfl rfl rfl (o_pickT rfl hg_1 rfl) ?_
    exact go_meet hk1 (rfl) ⟨rfl, rfl, trivial⟩
  refine go_nil ?_
  refine g_cond rfl (fun hc1 => ?_) (fun hc1 => ?_)
  · replace hm := cond_t hc1 hm
    refine g_seq ?_
    refine g_region ?_
    refine go_p rfl rfl rfl (o_assign rfl) ?_
    refine go_nil ?_
    refine g_ret ?_
    exact retK (ret_one' rfl (ret_tmp rfl) (perm_drop _)) (congrArg (fun (p : Bool) => (.bool p : D)) (some_eq hm))
  · replace hm := cond_f hc1 hm
    refine g_skip ?_
    refine g_seq ?_
    refine g_seq ?_
    refine g_region ?_
    refine go_p rfl rfl rfl (o_assign rfl) ?_
    refine go_nil ?_
    obtain ⟨o_1, hj1, hm1⟩ := bind_some hm
    refine g_cut_m [] [] (fun (st : Unit) (hid : Unit) => match st, hid with | _, _ => []) (fun F (st : Unit) (hid : Unit) => match st, hid with | _, _ => []) (fun st => Out.go (st) = o_1) trivial trivial ?_ ?_
    · skip
      refine g_block ?_
      refine g_loop_m [(2, _), (3, _)] [] (fun (st : Int) (hid : Unit) => match st, hid with | i1, _ => [(5, .i64 i1)]) (fun F (st : Int) (hid : Unit) => match st, hid with | i1, _ => []) () hj1 (fun _ => rfl) ⟨rfl, rfl, trivial⟩ trivial ⟨rfl, trivial⟩ rfl ?_
      rintro n i1 _ hj1
      rw [m_syntagmaref13_SameList_l1] at hj1
      refine g_norm (L' := [(5, .i64 i1), (2, _), (3, _)]) (ms' := []) rfl rfl ?_
      refine g_seq ?_
      refine g_seq ?_
      refine g_region ?_
      refine go_p rfl rfl rfl (o_move rfl) ?_
      refine go_p rfl rfl rfl (o_fieldAddr fi_53_0 rfl rfl rfl) ?_
      refine go_p rfl rfl rfl (o_load Try.isAgg51 rfl rfl) ?_
      refine go_p rfl rfl rfl (o_len Try.runUnderlying51 rfl) ?_
      refine go_p rfl rfl rfl (o_cmp rfl rfl rfl) ?_
      refine go_nil ?_
      refine g_cond rfl (fun hc2 => ?_) (fun hc2 => ?_)
      · replace hj1 := cond_t hc2 hj1
        refine g_skip ?_
        refine g_seq ?_
        refine g_block ?_
        refine g_seq ?_
        obtain ⟨x1, hx1, hj1⟩ := bind_some hj1
        obtain ⟨x2, hx2, hj1⟩ := bind_some hj1
        refine g_draw_x [] [12, 13] [5, 6, 7, 8, 9] [10, 11] [] Try_mixed (by decide +kernel) (by decide +kernel) rfl ?_
        refine gdx_p rfl rfl rfl rfl rfl rfl (o_fieldAddr fi_53_0 rfl rfl rfl) ?_
        refine gdx_p rfl rfl rfl rfl rfl rfl (o_load Try.isAgg51 rfl rfl) ?_
        refine gdx_p rfl rfl rfl rfl rfl rfl (o_move rfl) ?_
        refine gdx_p rfl rfl rfl rfl rfl rfl (o_indexAddr_m Try.runUnderlying51 Try.sizeOf56 rfl rfl hx1) ?_
        refine gdx_p rfl rfl rfl rfl rfl rfl (o_load_agg Try.isAgg56 Try.sizeOf56 rfl rfl) ?_
        refine gdx_p rfl rfl rfl rfl rfl rfl (o_fieldAddr fi_53_0 rfl rfl rfl) ?_
        refine gdx_p rfl rfl rfl rfl rfl rfl (o_load Try.isAgg51 rfl rfl) ?_
        refine gdx_p rfl rfl rfl rfl rfl rfl (o_move rfl) ?_
        refine gdx_p rfl rfl rfl rfl rfl rfl (o_indexAddr_m Try.runUnderlying51 Try.sizeOf56 rfl rfl hx2) ?_
        refine gdx_p rfl rfl rfl rfl rfl rfl (o_load_agg Try.isAgg56 Try.sizeOf56 rfl rfl) ?_
        refine gdx_fresh (R0 := fun d A => ∃ b, d = .v (.pointer (some ⟨b, 0, none⟩)) ∧ A = box b 56 [.i64 0, .i64 0, .i64 0, .list 2 ApiTField.d []]) rfl rfl rfl rfl (OpT.mono (o_alloc_own Try.zeroValue56 (cs := [.i64 0, .i64 0, .i64 0, .list 2 ApiTField.d []]) rfl) (by rintro d ms' ⟨b, rfl, rfl⟩; exact ⟨_, ⟨b, rfl, rfl⟩, rfl⟩)) ?_
        refine gdx_fresh (R0 := fun d A => ∃ b, d = .v (.pointer (some ⟨b, 0, none⟩)) ∧ A = box b 56 [.i64 0, .i64 0, .i64 0, .list 2 ApiTField.d []]) rfl rfl rfl rfl (OpT.mono (o_alloc_own Try.zeroValue56 (cs := [.i64 0, .i64 0, .i64 0, .list 2 ApiTField.d []]) rfl) (by rintro d ms' ⟨b, rfl, rfl⟩; exact ⟨_, ⟨b, rfl, rfl⟩, rfl⟩)) ?_
        refine gdx_e rfl ?_
        refine gdx_e rfl ?_
        refine gdx_nil ?_
        refine gf_nil [(10, 6), (11, 7)] rfl ?_
        rintro _ _ ⟨b1, rfl, rfl⟩
        rintro _ _ ⟨b2, rfl, rfl⟩
        show _ ∧ _
        refine ⟨(trivial : True), ?_⟩
        refine gde2_u rfl rfl rfl (o_store_box 0 Try.sizeOf56 rfl rfl rfl rfl rfl rfl rfl rfl (Nat.le_of_ble_eq_true rfl)) ?_
        rintro _ _ rfl
        refine ⟨(trivial : True), ?_⟩
        refine gde2_u rfl rfl rfl (o_store_box 1 Try.sizeOf56 rfl rfl rfl rfl rfl rfl rfl rfl (Nat.le_of_ble_eq_true rfl)) ?_
        rintro _ _ rfl
        refine ⟨(trivial : True), ?_⟩
        refine gde2_nil ?_
        refine g_seq ?_
        refine g_seq ?_
        refine g_region ?_
        refine go_p rfl rfl rfl (o_fieldAddr_box fi_56_0 rfl) ?_
        refine go_p rfl rfl rfl (o_load_box 0 Try.isAgg3 rfl rfl rfl rfl) ?_
        refine go_p rfl rfl rfl (o_fieldAddr_box fi_56_0 rfl) ?_
        refine go_p rfl rfl rfl (o_load_box 1 Try.isAgg3 rfl rfl rfl rfl) ?_
        refine go_p rfl rfl rfl (o_cmp rfl rfl rfl) ?_
        refine go_p rfl rfl rfl (o_move rfl) ?_
        apply go_or [(2, _), (3, _), (5, _), (6, _), (7, _)] 6 51 (t := 45) ⟨rfl, rfl, rfl, rfl, rfl, trivial⟩ rfl
        · intro hg_2 hk2
          refine go_wantp rfl rfl rfl hg_2 rfl rfl (o_fieldAddr_box fi_56_1 rfl) ?_
          refine go_wantp rfl rfl rfl hg_2 rfl rfl (o_load_box 0 Try.isAgg3 rfl rfl rfl rfl) ?_
          refine go_wantp rfl rfl rfl hg_2 rfl rfl (o_fieldAddr_box fi_56_1 rfl) ?_
          refine go_wantp rfl rfl rfl hg_2 rfl rfl (o_load_box 1 Try.isAgg3 rfl rfl rfl rfl) ?_
          refine go_wantp rfl rfl rfl hg_2 rfl rfl (o_cmp rfl rfl rfl) ?_
          refine go_p rfl rfl rfl (o_pickF rfl hg_2 rfl) ?_
          exact go_meet hk2 (rfl) ⟨rfl, rfl, rfl, rfl, rfl, trivial⟩
        · intro hg_2 hk2
          refine go_skip rfl rfl rfl hg_2 rfl rfl ?_
          refine go_skip rfl rfl rfl hg_2 rfl rfl ?_
          refine go_skip rfl rfl rfl hg_2 rfl rfl ?_
          refine go_skip rfl rfl rfl hg_2 rfl rfl ?_
          refine go_skip rfl rfl rfl hg_2 rfl rfl ?_
          refine go_p rfl rfl rfl (o_pickT rfl hg_2 rfl) ?_
          exact go_meet hk2 (rfl) ⟨rfl, rfl, rfl, rfl, rfl, trivial⟩
        refine go_p rfl rfl rfl (o_move rfl) ?_
        apply go_or [(2, _), (3, _), (5, _), (6, _), (7, _)] 6 58 (t := 52) ⟨rfl, rfl, rfl, rfl, rfl, trivial⟩ rfl
        · intro hg_3 hk3
          refine go_wantp rfl rfl rfl hg_3 rfl rfl (o_fieldAddr_box fi_56_2 rfl) ?_
          refine go_wantp rfl rfl rfl hg_3 rfl rfl (o_load_box 0 Try.isAgg3 rfl rfl rfl rfl) ?_
          refine go_wantp rfl rfl rfl hg_3 rfl rfl (o_fieldAddr_box fi_56_2 rfl) ?_
          refine go_wantp rfl rfl rfl hg_3 rfl rfl (o_load_box 1 Try.isAgg3 rfl rfl rfl rfl) ?_
          refine go_wantp rfl rfl rfl hg_3 rfl rfl (o_cmp rfl rfl rfl) ?_
          refine go_p rfl rfl rfl (o_pickF rfl hg_3 rfl) ?_
          exact go_meet hk3 (rfl) ⟨rfl, rfl, rfl, rfl, rfl, trivial⟩
        · intro hg_3 hk3
          refine go_skip rfl rfl rfl hg_3 rfl rfl ?_
          refine go_skip rfl rfl rfl hg_3 rfl rfl ?_
          refine go_skip rfl rfl rfl hg_3 rfl rfl ?_
          refine go_skip rfl rfl rfl hg_3 rfl rfl ?_
          refine go_skip rfl rfl rfl hg_3 rfl rfl ?_
          refine go_p rfl rfl rfl (o_pickT rfl hg_3 rfl) ?_
          exact go_meet hk3 (rfl) ⟨rfl, rfl, rfl, rfl, rfl, trivial⟩
        refine go_p rfl rfl rfl (o_move rfl) ?_
        apply go_or [(2, _), (3, _), (5, _), (6, _), (7, _)] 8 67 (t := 59) ⟨rfl, rfl, rfl, rfl, rfl, trivial⟩ rfl
        · intro hg_4 hk4
          refine go_wantp rfl rfl rfl hg_4 rfl rfl (o_fieldAddr_box fi_56_3 rfl) ?_
          refine go_wantp rfl rfl rfl hg_4 rfl rfl (o_load_box 0 Try.isAgg54 rfl rfl rfl rfl) ?_
          refine go_wantp rfl rfl rfl hg_4 rfl rfl (o_len Try.runUnderlying54 rfl) ?_
          refine go_wantp rfl rfl rfl hg_4 rfl rfl (o_fieldAddr_box fi_56_3 rfl) ?_
          refine go_wantp rfl rfl rfl hg_4 rfl rfl (o_load_box 1 Try.isAgg54 rfl rfl rfl rfl) ?_
          refine go_wantp rfl rfl rfl hg_4 rfl rfl (o_len Try.runUnderlying54 rfl) ?_
          refine go_wantp rfl rfl rfl hg_4 rfl rfl (o_cmp rfl rfl rfl) ?_
          refine go_p rfl rfl rfl (o_pickF rfl hg_4 rfl) ?_
          exact go_meet hk4 (rfl) ⟨rfl, rfl, rfl, rfl, rfl, trivial⟩
        · intro hg_4 hk4
          refine go_skip rfl rfl rfl hg_4 rfl rfl ?_
          refine go_skip rfl rfl rfl hg_4 rfl rfl ?_
          refine go_skip rfl rfl rfl hg_4 rfl rfl ?_
          refine go_skip rfl rfl rfl hg_4 rfl rfl ?_
          refine go_skip rfl rfl rfl hg_4 rfl rfl ?_
          refine go_skip rfl rfl rfl hg_4 rfl rfl ?_
          refine go_skip rfl rfl rfl hg_4 rfl rfl ?_
          refine go_p rfl rfl rfl (o_pickT rfl hg_4 rfl) ?_
          exact go_meet hk4 (rfl) ⟨rfl, rfl, rfl, rfl, rfl, trivial⟩
        refine go_nil ?_
        refine g_cond rfl (fun hc3 => ?_) (fun hc3 => ?_)
        · replace hj1 := cond_t hc3 hj1
          refine g_seq ?_
          refine g_region ?_
          refine go_p rfl rfl rfl (o_assign rfl) ?_
          refine go_nil ?_
          refine g_ret ?_
          obtain rfl := some_eq hj1
          replace hm1 := on_ret hm1
          exact retK (ret_one' rfl (ret_tmp rfl) (perm_drop _)) (congrArg (fun (p : Bool) => (.bool p : D)) (some_eq hm1))
        · replace hj1 := cond_f hc3 hj1
          refine g_skip ?_
          refine g_seq ?_
          refine g_region ?_
          refine go_p rfl rfl rfl (o_assign rfl) ?_
          refine go_nil ?_
          obtain ⟨o_2, hj2, hm2⟩ := bind_some hj1
          refine g_cut_m [(2, _), (3, _), (5, _)] [(0, _), (1, _)] (fun (st : Unit) (hid : Unit) => match st, hid with | _, _ => []) (fun F (st : Unit) (hid : Unit) => match st, hid with | _, _ => [(nthF F 0), (nthF F 1)]) (fun st => Out.go (st) = o_2) ⟨rfl, rfl, rfl, trivial⟩ ⟨rfl, rfl, trivial⟩ ?_ ?_
          · skip
            refine g_block ?_
            refine g_loop_m [(2, _), (3, _), (5, _), (6, _), (7, _)] [(0, _), (1, _)] (fun (st : Int) (hid : Unit) => match st, hid with | k1, _ => [(8, .i64 k1)]) (fun F (st : Int) (hid : Unit) => match st, hid with | k1, _ => [(nthF F 0), (nthF F 1)]) () hj2 (fun _ => rfl) ⟨rfl, rfl, rfl, rfl, rfl, trivial⟩ ⟨rfl, rfl, trivial⟩ ⟨rfl, trivial⟩ rfl ?_
            rintro n k1 _ hj2
            rw [m_syntagmaref13_SameList_l2] at hj2
            refine g_norm (L' := [(8, .i64 k1), (2, _), (3, _), (5, _), (6, _), (7, _)]) (ms' := [_, _]) rfl rfl ?_
            refine g_seq ?_
            refine g_seq ?_
            refine g_region ?_
            refine go_p rfl rfl rfl (o_move rfl) ?_
            refine go_p rfl rfl rfl (o_fieldAddr_box fi_56_3 rfl) ?_
            refine go_p rfl rfl rfl (o_load_box 0 Try.isAgg54 rfl rfl rfl rfl) ?_
            refine go_p rfl rfl rfl (o_len Try.runUnderlying54 rfl) ?_
            refine go_p rfl rfl rfl (o_cmp rfl rfl rfl) ?_
            refine go_nil ?_
            refine g_cond rfl (fun hc4 => ?_) (fun hc4 => ?_)
            · replace hj2 := cond_t hc4 hj2
              refine g_skip ?_
              refine g_seq ?_
              refine g_block ?_
              refine g_seq ?_
              obtain ⟨x3, hx3, hj2⟩ := bind_some hj2
              obtain ⟨x4, hx4, hj2⟩ := bind_some hj2
              refine g_draw 11 Try_mixed (by decide +kernel) ?_
              refine gd_p rfl rfl rfl (o_fieldAddr_box fi_56_3 rfl) ?_
              refine gd_p rfl rfl rfl (o_load_box 0 Try.isAgg54 rfl rfl rfl rfl) ?_
              refine gd_p rfl rfl rfl (o_move rfl) ?_
              refine gd_p rfl rfl rfl (o_indexAddr_m Try.runUnderlying54 Try.sizeOf100 rfl rfl hx3) ?_
              refine gd_p rfl rfl rfl (o_load_agg Try.isAgg100 Try.sizeOf100 rfl rfl) ?_
              refine gd_p rfl rfl rfl (o_fieldAddr_box fi_56_3 rfl) ?_
              refine gd_p rfl rfl rfl (o_load_box 1 Try.isAgg54 rfl rfl rfl rfl) ?_
              refine gd_p rfl rfl rfl (o_move rfl) ?_
              refine gd_p rfl rfl rfl (o_indexAddr_m Try.runUnderlying54 Try.sizeOf100 rfl rfl hx4) ?_
              refine gd_p rfl rfl rfl (o_load_agg Try.isAgg100 Try.sizeOf100 rfl rfl) ?_
              refine gd_p rfl rfl rfl (o_neqagg (ks := [.str, .int]) Try.underlying100 (by kernel_rfl) (by kernel_rfl) (eqf_100 _ Try.underlying100) rfl rfl rfl) ?_
              refine gd_nil ?_
              refine go_nil ?_
              refine g_cond rfl (fun hc5 => ?_) (fun hc5 => ?_)
              · replace hj2 := cond_t hc5 hj2
                refine g_seq ?_
                refine g_region ?_
                refine go_p rfl rfl rfl (o_assign rfl) ?_
                refine go_nil ?_
                refine g_ret ?_
                obtain rfl := some_eq hj2
                replace hm2 := on_ret hm2
                obtain rfl := some_eq hm2
                replace hm1 := on_ret hm1
                exact retK (ret_one' rfl (ret_tmp rfl) (perm_drop _)) (congrArg (fun (p : Bool) => (.bool p : D)) (some_eq hm1))
              · replace hj2 := cond_f hc5 hj2
                refine g_skip ?_
                refine g_region ?_
                refine go_p rfl rfl rfl (o_move rfl) ?_
                obtain ⟨hg5, hj2⟩ := grd_some hj2
                refine go_p rfl rfl rfl (o_add rfl rfl (i64_id hg5)) ?_
                refine go_p rfl rfl rfl (o_assign rfl) ?_
                refine go_nil ?_
                exact ⟨_, (), hj2, ⟨rfl, trivial⟩, ⟨rfl, rfl, rfl, rfl, rfl, trivial⟩, [], rfl⟩
            · replace hj2 := cond_f hc4 hj2
              refine g_exit ?_
              exact ⟨_, (), some_eq hj2, trivial, ⟨rfl, rfl, rfl, trivial⟩, [], rfl⟩
          · rintro _ _ hst
            subst hst
            replace hm2 := on_go hm2
            refine k_norm (L' := [(2, _), (3, _), (5, _)]) (ms' := [_, _]) rfl rfl ?_
            refine g_region ?_
            refine go_p rfl rfl rfl (o_move rfl) ?_
            obtain ⟨hg6, hm2⟩ := grd_some hm2
            refine go_p rfl rfl rfl (o_add rfl rfl (i64_id hg6)) ?_
            refine go_p rfl rfl rfl (o_assign rfl) ?_
            refine go_nil ?_
            exact ⟨_, (), hm2, ⟨rfl, trivial⟩, ⟨rfl, rfl, trivial⟩, [_, _], rfl⟩
      · replace hj1 := cond_f hc2 hj1
        refine g_exit ?_
        exact ⟨_, (), some_eq hj1, trivial, trivial, [], rfl⟩
    · rintro _ _ hst
      subst hst
      replace hm1 := on_go hm1
      refine k_norm (L' := []) (ms' := []) rfl rfl ?_
      refine g_seq ?_
      refine g_region ?_
      refine go_p rfl rfl rfl (o_assign rfl) ?_
      refine go_nil ?_
      refine g_ret ?_
      exact retK (ret_one' rfl (ret_tmp rfl) (perm_drop _)) (congrArg (fun (p : Bool) => (.bool p : D)) (some_eq hm1))
def m_graph_At (t1 : ApiType) (i1 : Int) : Option (ApiType × Int) :=
  (m_graph_May t1).bind fun x1 =>
  bif (!decide (x1 = 0)) then
    some ((⟨([] : List ApiTNode), 0⟩ : ApiType), x1)
  else
    bif ((decide (i1 < 0)) || (decide ((t1.l.length : Int) ≤ i1))) then
      some ((⟨([] : List ApiTNode), 0⟩ : ApiType), 3)
    else
      (m_graph_norm t1 i1).bind fun x2 =>
      some ((⟨x2.l, x2.root⟩ : ApiType), 0)
theorem w_graph_At {t1 : ApiType} {i1 : Int} {r_1 : ApiType} {r_2 : Int} (hm : m_graph_At t1 i1 = some (r_1, r_2)) : Fn0 Try.prog 42 [ApiType.d t1, .i64 i1] (.tup [ApiType.d r_1, .i64 r_2]) := by
  unfold m_graph_At at hm
  refine fn_intro Try.func42 rfl Try.ntmps42 rfl fun H0 fr w0 => ?_
  refine g_seq ?_
  refine g_region ?_
  refine go_p rfl rfl rfl (o_box rfl rfl) ?_
  refine go_op rfl rfl rfl (o_alloc_own Try.zeroValue53 (cs := [.list 4 ApiTNode.d [], .i64 0]) rfl) ?_
  rintro _ _ ⟨b1, rfl, rfl⟩
  refine go_p rfl rfl rfl (o_assign rfl) ?_
  refine go_nil ?_
  refine g_seq ?_
  refine g_seq ?_
  refine g_region ?_
  refine go_p rfl rfl rfl (o_load_agg Try.isAgg53 Try.sizeOf53 rfl rfl) ?_
  obtain ⟨x1, hx1, hm⟩ := bind_some hm
  refine go_p rfl rfl rfl (o_call0 Try.call31 rfl (w_graph_May hx1)) ?_
  refine go_p rfl rfl rfl (o_assign rfl) ?_
  refine go_nil ?_
  refine g_seq ?_
  refine g_region ?_
  refine go_p rfl rfl rfl (o_move rfl) ?_
  refine go_p rfl rfl rfl (o_cmp rfl rfl rfl) ?_
  refine go_nil ?_
  refine g_cond rfl (fun hc1 => ?_) (fun hc1 => ?_)
  · replace hm := cond_t hc1 hm
    refine g_seq ?_
    refine g_region ?_
    refine go_p rfl rfl rfl (o_build (zs := [.list 4 ApiTNode.d [], .v (.int .i64 0)]) Try.runUnderlying53 Try.zeroValue53 (pl_53 _ Try.runUnderlying53) rfl rfl rfl rfl) ?_
    refine go_p rfl rfl rfl (o_move rfl) ?_
    refine go_u rfl rfl (o_store_box 0 Try.sizeOf53 rfl rfl rfl rfl rfl rfl rfl rfl (Nat.le_of_ble_eq_true rfl)) ?_
    rintro _ _ rfl
    refine go_ms (ms' := [box b1 53 [_, _]]) rfl ?_
    refine go_p rfl rfl rfl (o_assign rfl) ?_
    refine go_nil ?_
    refine g_ret ?_
    exact retK (ret_many (ds := [_, _]) rfl (by decide) ⟨ret_cell 0 rfl rfl rfl Try.isAgg53 Try.sizeOf53 rfl, ⟨ret_tmp rfl, rfl⟩⟩ (perm_drop _)) (congrArg (fun (p : (ApiType × Int)) => D.tup [ApiType.d p.1, .i64 p.2]) (some_eq hm))
  · replace hm := cond_f hc1 hm
    refine g_skip ?_
    refine g_seq ?_
    refine g_seq ?_
    refine g_region ?_
    refine go_p rfl rfl rfl (o_move rfl) ?_
    refine go_p rfl rfl rfl (o_cmp rfl rfl rfl) ?_
    refine go_p rfl rfl rfl (o_move rfl) ?_
    apply go_or [(1, _), (2, _), (4, _)] 6 21 (t := 15) ⟨rfl, rfl, rfl, trivial⟩ rfl
    · intro hg_1 hk1
      refine go_wantp rfl rfl rfl hg_1 rfl rfl (o_move rfl) ?_
      refine go_wantp rfl rfl rfl hg_1 rfl rfl (o_fieldAddr fi_53_0 rfl rfl rfl) ?_
      refine go_wantp rfl rfl rfl hg_1 rfl rfl (o_load Try.isAgg51 rfl rfl) ?_
      refine go_wantp rfl rfl rfl hg_1 rfl rfl (o_len Try.runUnderlying51 rfl) ?_
      refine go_wantp rfl rfl rfl hg_1 rfl rfl (o_cmp rfl rfl rfl) ?_
      refine go_p rfl rfl rfl (o_pickF rfl hg_1 rfl) ?_
      exact go_meet hk1 (rfl) ⟨rfl, rfl, rfl, trivial⟩
    · intro hg_1 hk1
      refine go_skip rfl rfl rfl hg_1 rfl rfl ?_
      refine go_skip rfl rfl rfl hg_1 rfl rfl ?_
      refine go_skip rfl rfl rfl hg_1 rfl rfl ?_
      refine go_skip rfl rfl rfl hg_1 rfl rfl ?_
      refine go_skip rfl rfl rfl hg_1 rfl rfl ?_
      refine go_p rfl rfl rfl (o_pickT rfl hg_1 rfl) ?_
      exact go_meet hk1 (rfl) ⟨rfl, rfl, rfl, trivial⟩
    refine go_nil ?_
    refine g_cond rfl (fun hc2 => ?_) (fun hc2 => ?_)
    · replace hm := cond_t hc2 hm
      refine g_seq ?_
      refine g_region ?_
      refine go_p rfl rfl rfl (o_build (zs := [.list 4 ApiTNode.d [], .v (.int .i64 0)]) Try.runUnderlying53 Try.zeroValue53 (pl_53 _ Try.runUnderlying53) rfl rfl rfl rfl) ?_
      refine go_u rfl rfl (o_store_box 0 Try.sizeOf53 rfl rfl rfl rfl rfl rfl rfl rfl (Nat.le_of_ble_eq_true rfl)) ?_
      rintro _ _ rfl
      refine go_ms (ms' := [box b1 53 [_, _]]) rfl ?_
      refine go_p rfl rfl rfl (o_assign rfl) ?_
      refine go_nil ?_
      refine g_ret ?_
      exact retK (ret_many (ds := [_, _]) rfl (by decide) ⟨ret_cell 0 rfl rfl rfl Try.isAgg53 Try.sizeOf53 rfl, ⟨ret_tmp rfl, rfl⟩⟩ (perm_drop _)) (congrArg (fun (p : (ApiType × Int)) => D.tup [ApiType.d p.1, .i64 p.2]) (some_eq hm))
    · replace hm := cond_f hc2 hm
      refine g_skip ?_
      refine g_seq ?_
      refine g_region ?_
      refine go_p rfl rfl rfl (o_load_agg Try.isAgg53 Try.sizeOf53 rfl rfl) ?_
      refine go_p rfl rfl rfl (o_move rfl) ?_
      obtain ⟨x2, hx2, hm⟩ := bind_some hm
      refine go_p rfl rfl rfl (o_call0 Try.call86 rfl (w_graph_norm hx2)) ?_
      refine go_u rfl rfl (o_store_box 0 Try.sizeOf53 rfl rfl rfl rfl rfl rfl rfl rfl (Nat.le_of_ble_eq_true rfl)) ?_
      rintro _ _ rfl
      refine go_ms (ms' := [box b1 53 [_, _]]) rfl ?_
      refine go_p rfl rfl rfl (o_assign rfl) ?_
      refine go_nil ?_
      refine g_ret ?_
      exact retK (ret_many (ds := [_, _]) rfl (by decide) ⟨ret_cell 0 rfl rfl rfl Try.isAgg53 Try.sizeOf53 rfl, ⟨ret_tmp rfl, rfl⟩⟩ (perm_drop _)) (congrArg (fun (p : (ApiType × Int)) => D.tup [ApiType.d p.1, .i64 p.2]) (some_eq hm))
def m_slices_EqualFunc_api_TNode_api_TNode_api_TNode_api_TNode_l1 (s1 : (List ApiTNode)) (s2 : (List ApiTNode)) (eq1 : (ApiTNode → ApiTNode → Option Bool)) : Nat → Int → Option (Out Bool Unit)
  | 0, _ => none
  | n + 1, x1 =>
    bif (decide (x1 < (s1.length : Int))) then
      (idx s1 x1).bind fun x2 =>
      (idx s2 x1).bind fun x3 =>
      (eq1 (⟨x2.kind, x2.a, x2.b, x2.l⟩ : ApiTNode) (⟨x3.kind, x3.a, x3.b, x3.l⟩ : ApiTNode)).bind fun x4 =>
      bif (!x4) then
        some (Out.ret false)
      else
        grd (InR (x1 + 1)) <|
        m_slices_EqualFunc_api_TNode_api_TNode_api_TNode_api_TNode_l1 s1 s2 eq1 n (x1 + 1)
    else
      some (Out.go (()))
def m_slices_EqualFunc_api_TNode_api_TNode_api_TNode_api_TNode (s1 : (List ApiTNode)) (s2 : (List ApiTNode)) (eq1 : (ApiTNode → ApiTNode → Option Bool)) : Option Bool :=
  bif (!decide ((s1.length : Int) = (s2.length : Int))) then
    some false
  else
    ((m_slices_EqualFunc_api_TNode_api_TNode_api_TNode_api_TNode_l1 s1 s2 eq1 FU 0 : Option (Out Bool Unit))).bind (fun oo => oo.on (fun r1 => some r1) (fun _ =>
    some true))
theorem w_slices_EqualFunc_api_TNode_api_TNode_api_TNode_api_TNode {s1 : (List ApiTNode)} {s2 : (List ApiTNode)} {eq1 : (ApiTNode → ApiTNode → Option Bool)} {r_1 : Bool} {fv_eq1 : D} (hfeq1 : FunOk2 Try.prog fv_eq1 ApiTNode.d ApiTNode.d D.bool eq1) (hm : m_slices_EqualFunc_api_TNode_api_TNode_api_TNode_api_TNode s1 s2 eq1 = some r_1) : Fn0 Try.prog 87 [.list 4 ApiTNode.d s1, .list 4 ApiTNode.d s2, fv_eq1] (.bool r_1) := by
  unfold m_slices_EqualFunc_api_TNode_api_TNode_api_TNode_api_TNode at hm
  refine fn_intro Try.func87 rfl Try.ntmps87 rfl fun H0 fr w0 => ?_
  refine g_seq ?_
  refine g_region ?_
  refine go_p rfl rfl rfl (o_assign rfl) ?_
  refine go_nil ?_
  refine g_seq ?_
  refine g_seq ?_
  refine g_region ?_
  refine go_p rfl rfl rfl (o_move rfl) ?_
  refine go_p rfl rfl rfl (o_len Try.runUnderlying51 rfl) ?_
  refine go_p rfl rfl rfl (o_move rfl) ?_
  refine go_p rfl rfl rfl (o_len Try.runUnderlying51 rfl) ?_
  refine go_p rfl rfl rfl (o_cmp rfl rfl rfl) ?_
  refine go_nil ?_
  refine g_cond rfl (fun hc1 => ?_) (fun hc1 => ?_)
  · replace hm := cond_t hc1 hm
    refine g_seq ?_
    refine g_region ?_
    refine go_p rfl rfl rfl (o_assign rfl) ?_
    refine go_nil ?_
    refine g_ret ?_
    exact retK (ret_one' rfl (ret_tmp rfl) (perm_drop _)) (congrArg (fun (p : Bool) => (.bool p : D)) (some_eq hm))
  · replace hm := cond_f hc1 hm
    refine g_skip ?_
    refine g_seq ?_
    refine g_seq ?_
    refine g_region ?_
    refine go_p rfl rfl rfl (o_move rfl) ?_
    refine go_p rfl rfl rfl (o_len Try.runUnderlying51 rfl) ?_
    refine go_p rfl rfl rfl (o_move rfl) ?_
    refine go_nil ?_
    obtain ⟨o_1, hj1, hm1⟩ := bind_some hm
    refine g_cut_m [] [] (fun (st : Unit) (hid : Unit) => match st, hid with | _, _ => []) (fun F (st : Unit) (hid : Unit) => match st, hid with | _, _ => []) (fun st => Out.go (st) = o_1) trivial trivial ?_ ?_
    · skip
      refine g_block ?_
      refine g_loop_m [(1, _), (2, _), (15, _), (16, _)] [] (fun (st : Int) (hid : Unit) => match st, hid with | x1, _ => [(17, .i64 x1)]) (fun F (st : Int) (hid : Unit) => match st, hid with | x1, _ => []) () hj1 (fun _ => rfl) ⟨rfl, rfl, rfl, rfl, trivial⟩ trivial ⟨rfl, trivial⟩ rfl ?_
      rintro n x1 _ hj1
      rw [m_slices_EqualFunc_api_TNode_api_TNode_api_TNode_api_TNode_l1] at hj1
      refine g_norm (L' := [(17, .i64 x1), (1, _), (2, _), (15, _), (16, _)]) (ms' := []) rfl rfl ?_
      refine g_seq ?_
      refine g_region ?_
      refine go_p rfl rfl rfl (o_cmp rfl rfl rfl) ?_
      refine go_nil ?_
      refine g_seq ?_
      refine g_cond rfl (fun hc2 => ?_) (fun hc2 => ?_)
      · replace hj1 := cond_t hc2 hj1
        refine g_skip ?_
        refine g_seq ?_
        refine g_block ?_
        refine g_seq ?_
        refine g_region ?_
        refine go_p rfl rfl rfl (o_move rfl) ?_
        obtain ⟨x2, hx1, hj1⟩ := bind_some hj1
        refine go_p rfl rfl rfl (o_indexAddr_m Try.runUnderlying51 Try.sizeOf56 rfl rfl hx1) ?_
        refine go_p rfl rfl rfl (o_load_agg Try.isAgg56 Try.sizeOf56 rfl rfl) ?_
        refine go_op rfl rfl rfl (o_alloc_own Try.zeroValue56 (cs := [.i64 0, .i64 0, .i64 0, .list 2 ApiTField.d []]) rfl) ?_
        rintro _ _ ⟨b1, rfl, rfl⟩
        refine go_p rfl rfl rfl (o_assign rfl) ?_
        refine go_u rfl rfl (o_store_box 0 Try.sizeOf56 rfl rfl rfl rfl rfl rfl rfl rfl (Nat.le_of_ble_eq_true rfl)) ?_
        rintro _ _ rfl
        refine go_ms (ms' := [box b1 56 [_, _, _, _]]) rfl ?_
        refine go_nil ?_
        refine g_seq ?_
        refine g_region ?_
        refine go_p rfl rfl rfl (o_move rfl) ?_
        refine go_p rfl rfl rfl (o_move rfl) ?_
        obtain ⟨x3, hx2, hj1⟩ := bind_some hj1
        refine go_p rfl rfl rfl (o_indexAddr_m Try.runUnderlying51 Try.sizeOf56 rfl rfl hx2) ?_
        refine go_p rfl rfl rfl (o_load_agg Try.isAgg56 Try.sizeOf56 rfl rfl) ?_
        refine go_op rfl rfl rfl (o_alloc_own Try.zeroValue56 (cs := [.i64 0, .i64 0, .i64 0, .list 2 ApiTField.d []]) rfl) ?_
        rintro _ _ ⟨b2, rfl, rfl⟩
        refine go_u rfl rfl (o_store_box 0 Try.sizeOf56 rfl rfl rfl rfl rfl rfl rfl rfl (Nat.le_of_ble_eq_true rfl)) ?_
        rintro _ _ rfl
        refine go_ms (ms' := [box b2 56 [_, _, _, _], box b1 56 [_, _, _, _]]) rfl ?_
        refine go_nil ?_
        refine g_seq ?_
        refine g_region ?_
        refine go_p rfl rfl rfl (o_move rfl) ?_
        refine go_p rfl rfl rfl (o_load_box_agg 1 Try.isAgg56 Try.sizeOf56 rfl rfl rfl rfl (Nat.le_of_ble_eq_true rfl)) ?_
        refine go_p rfl rfl rfl (o_load_box_agg 0 Try.isAgg56 Try.sizeOf56 rfl rfl rfl rfl (Nat.le_of_ble_eq_true rfl)) ?_
        obtain ⟨x4, hx3, hj1⟩ := bind_some hj1
        refine go_p rfl rfl rfl (o_callv0 rfl rfl (hfeq1 _ _ _ hx3)) ?_
        refine go_p rfl rfl rfl (o_not rfl) ?_
        refine go_nil ?_
        refine g_cond rfl (fun hc3 => ?_) (fun hc3 => ?_)
        · replace hj1 := cond_t hc3 hj1
          refine g_seq ?_
          refine g_region ?_
          refine go_p rfl rfl rfl (o_assign rfl) ?_
          refine go_nil ?_
          refine g_ret ?_
          obtain rfl := some_eq hj1
          replace hm1 := on_ret hm1
          exact retK (ret_one' rfl (ret_tmp rfl) (perm_drop _)) (congrArg (fun (p : Bool) => (.bool p : D)) (some_eq hm1))
        · replace hj1 := cond_f hc3 hj1
          refine g_skip ?_
          refine g_region ?_
          obtain ⟨hg4, hj1⟩ := grd_some hj1
          refine go_p rfl rfl rfl (o_add rfl rfl (i64_id hg4)) ?_
          refine go_p rfl rfl rfl (o_move rfl) ?_
          refine go_nil ?_
          exact ⟨_, (), hj1, ⟨rfl, trivial⟩, ⟨rfl, rfl, rfl, rfl, trivial⟩, [_, _], rfl⟩
      · replace hj1 := cond_f hc2 hj1
        refine g_exit ?_
        exact ⟨_, (), some_eq hj1, trivial, trivial, [], rfl⟩
    · rintro _ _ hst
      subst hst
      replace hm1 := on_go hm1
      refine k_norm (L' := []) (ms' := []) rfl rfl ?_
      refine g_seq ?_
      refine g_region ?_
      refine go_p rfl rfl rfl (o_assign rfl) ?_
      refine go_nil ?_
      refine g_ret ?_
      exact retK (ret_one' rfl (ret_tmp rfl) (perm_drop _)) (congrArg (fun (p : Bool) => (.bool p : D)) (some_eq hm1))
def m_slices_Equal_api_TField_api_TField_l1 (s1 : (List ApiTField)) (s2 : (List ApiTField)) : Nat → Int → Option (Out Bool Unit)
  | 0, _ => none
  | n + 1, x1 =>
    bif (decide (x1 < (s1.length : Int))) then
      (idx s1 x1).bind fun x2 =>
      (idx s2 x1).bind fun x3 =>
      bif (!(ApiTField.eqv x2 x3)) then
        some (Out.ret false)
      else
        grd (InR (x1 + 1)) <|
        m_slices_Equal_api_TField_api_TField_l1 s1 s2 n (x1 + 1)
    else
      some (Out.go (()))
def m_slices_Equal_api_TField_api_TField (s1 : (List ApiTField)) (s2 : (List ApiTField)) : Option Bool :=
  bif (!decide ((s1.length : Int) = (s2.length : Int))) then
    some false
  else
    ((m_slices_Equal_api_TField_api_TField_l1 s1 s2 FU 0 : Option (Out Bool Unit))).bind (fun oo => oo.on (fun r1 => some r1) (fun _ =>
    some true))
theorem w_slices_Equal_api_TField_api_TField {s1 : (List ApiTField)} {s2 : (List ApiTField)} {r_1 : Bool} (hm : m_slices_Equal_api_TField_api_TField s1 s2 = some r_1) : Fn0 Try.prog 124 [.list 2 ApiTField.d s1, .list 2 ApiTField.d s2] (.bool r_1) := by
  unfold m_slices_Equal_api_TField_api_TField at hm
  refine fn_intro Try.func124 rfl Try.ntmps124 rfl fun H0 fr w0 => ?_
  refine g_seq ?_
  refine g_region ?_
  refine go_p rfl rfl rfl (o_assign rfl) ?_
  refine go_nil ?_
  refine g_seq ?_
  refine g_seq ?_
  refine g_region ?_
  refine go_p rfl rfl rfl (o_move rfl) ?_
  refine go_p rfl rfl rfl (o_len Try.runUnderlying54 rfl) ?_
  refine go_p rfl rfl rfl (o_move rfl) ?_
  refine go_p rfl rfl rfl (o_len Try.runUnderlying54 rfl) ?_
  refine go_p rfl rfl rfl (o_cmp rfl rfl rfl) ?_
  refine go_nil ?_
  refine g_cond rfl (fun hc1 => ?_) (fun hc1 => ?_)
  · replace hm := cond_t hc1 hm
    refine g_seq ?_
    refine g_region ?_
    refine go_p rfl rfl rfl (o_assign rfl) ?_
    refine go_nil ?_
    refine g_ret ?_
    exact retK (ret_one' rfl (ret_tmp rfl) (perm_drop _)) (congrArg (fun (p : Bool) => (.bool p : D)) (some_eq hm))
  · replace hm := cond_f hc1 hm
    refine g_skip ?_
    refine g_seq ?_
    refine g_seq ?_
    refine g_region ?_
    refine go_p rfl rfl rfl (o_move rfl) ?_
    refine go_p rfl rfl rfl (o_len Try.runUnderlying54 rfl) ?_
    refine go_p rfl rfl rfl (o_move rfl) ?_
    refine go_nil ?_
    obtain ⟨o_1, hj1, hm1⟩ := bind_some hm
    refine g_cut_m [] [] (fun (st : Unit) (hid : Unit) => match st, hid with | _, _ => []) (fun F (st : Unit) (hid : Unit) => match st, hid with | _, _ => []) (fun st => Out.go (st) = o_1) trivial trivial ?_ ?_
    · skip
      refine g_block ?_
      refine g_loop_m [(0, _), (1, _), (12, _)] [] (fun (st : Int) (hid : Unit) => match st, hid with | x1, _ => [(13, .i64 x1)]) (fun F (st : Int) (hid : Unit) => match st, hid with | x1, _ => []) () hj1 (fun _ => rfl) ⟨rfl, rfl, rfl, trivial⟩ trivial ⟨rfl, trivial⟩ rfl ?_
      rintro n x1 _ hj1
      rw [m_slices_Equal_api_TField_api_TField_l1] at hj1
      refine g_norm (L' := [(13, .i64 x1), (0, _), (1, _), (12, _)]) (ms' := []) rfl rfl ?_
      refine g_seq ?_
      refine g_region ?_
      refine go_p rfl rfl rfl (o_cmp rfl rfl rfl) ?_
      refine go_nil ?_
      refine g_seq ?_
      refine g_cond rfl (fun hc2 => ?_) (fun hc2 => ?_)
      · replace hj1 := cond_t hc2 hj1
        refine g_skip ?_
        refine g_seq ?_
        refine g_block ?_
        refine g_seq ?_
        refine g_region ?_
        refine go_p rfl rfl rfl (o_move rfl) ?_
        refine go_p rfl rfl rfl (o_assign rfl) ?_
        refine go_nil ?_
        refine g_seq ?_
        obtain ⟨x2, hx1, hj1⟩ := bind_some hj1
        obtain ⟨x3, hx2, hj1⟩ := bind_some hj1
        refine g_draw 9 Try_mixed (by decide +kernel) ?_
        refine gd_p rfl rfl rfl (o_move rfl) ?_
        refine gd_p rfl rfl rfl (o_move rfl) ?_
        refine gd_p rfl rfl rfl (o_indexAddr_m Try.runUnderlying54 Try.sizeOf100 rfl rfl hx1) ?_
        refine gd_p rfl rfl rfl (o_load_agg Try.isAgg100 Try.sizeOf100 rfl rfl) ?_
        refine gd_p rfl rfl rfl (o_move rfl) ?_
        refine gd_p rfl rfl rfl (o_move rfl) ?_
        refine gd_p rfl rfl rfl (o_indexAddr_m Try.runUnderlying54 Try.sizeOf100 rfl rfl hx2) ?_
        refine gd_p rfl rfl rfl (o_load_agg Try.isAgg100 Try.sizeOf100 rfl rfl) ?_
        refine gd_p rfl rfl rfl (o_neqagg (ks := [.str, .int]) Try.underlying100 (by kernel_rfl) (by kernel_rfl) (eqf_100 _ Try.underlying100) rfl rfl rfl) ?_
        refine gd_nil ?_
        refine go_nil ?_
        refine g_cond rfl (fun hc3 => ?_) (fun hc3 => ?_)
        · replace hj1 := cond_t hc3 hj1
          refine g_seq ?_
          refine g_region ?_
          refine go_p rfl rfl rfl (o_assign rfl) ?_
          refine go_nil ?_
          refine g_ret ?_
          obtain rfl := some_eq hj1
          replace hm1 := on_ret hm1
          exact retK (ret_one' rfl (ret_tmp rfl) (perm_drop _)) (congrArg (fun (p : Bool) => (.bool p : D)) (some_eq hm1))
        · replace hj1 := cond_f hc3 hj1
          refine g_skip ?_
          refine g_region ?_
          obtain ⟨hg3, hj1⟩ := grd_some hj1
          refine go_p rfl rfl rfl (o_add rfl rfl (i64_id hg3)) ?_
          refine go_p rfl rfl rfl (o_move rfl) ?_
          refine go_nil ?_
          exact ⟨_, (), hj1, ⟨rfl, trivial⟩, ⟨rfl, rfl, rfl, trivial⟩, [], rfl⟩
      · replace hj1 := cond_f hc2 hj1
        refine g_exit ?_
        exact ⟨_, (), some_eq hj1, trivial, trivial, [], rfl⟩
    · rintro _ _ hst
      subst hst
      replace hm1 := on_go hm1
      refine k_norm (L' := []) (ms' := []) rfl rfl ?_
      refine g_seq ?_
      refine g_region ?_
      refine go_p rfl rfl rfl (o_assign rfl) ?_
      refine go_nil ?_
      refine g_ret ?_
      exact retK (ret_one' rfl (ret_tmp rfl) (perm_drop _)) (congrArg (fun (p : Bool) => (.bool p : D)) (some_eq hm1))
def m_graph_sameNode (a1 : ApiTNode) (b1 : ApiTNode) : Option Bool :=
  (bif (((decide (a1.kind = b1.kind)) && (decide (a1.a = b1.a))) && (decide (a1.b = b1.b))) then ((m_slices_Equal_api_TField_api_TField a1.l b1.l).bind fun x1 =>
  some x1) else (some false)).bind fun p1 =>
  some p1
theorem w_graph_sameNode {a1 : ApiTNode} {b1 : ApiTNode} {r_1 : Bool} (hm : m_graph_sameNode a1 b1 = some r_1) : Fn0 Try.prog 88 [ApiTNode.d a1, ApiTNode.d b1] (.bool r_1) := by
  unfold m_graph_sameNode at hm
  refine fn_intro Try.func88 rfl Try.ntmps88 rfl fun H0 fr w0 => ?_
  refine g_seq ?_
  refine g_region ?_
  refine go_p rfl rfl rfl (o_box rfl rfl) ?_
  refine go_p rfl rfl rfl (o_box rfl rfl) ?_
  refine go_p rfl rfl rfl (o_assign rfl) ?_
  refine go_nil ?_
  refine g_seq ?_
  refine g_region ?_
  refine go_p rfl rfl rfl (o_fieldAddr fi_56_0 rfl rfl rfl) ?_
  refine go_p rfl rfl rfl (o_load Try.isAgg3 rfl rfl) ?_
  refine go_p rfl rfl rfl (o_fieldAddr fi_56_0 rfl rfl rfl) ?_
  refine go_p rfl rfl rfl (o_load Try.isAgg3 rfl rfl) ?_
  refine go_p rfl rfl rfl (o_cmp rfl rfl rfl) ?_
  refine go_p rfl rfl rfl (o_move rfl) ?_
  apply go_and [(2, _), (3, _)] 6 16 (t := 10) ⟨rfl, rfl, trivial⟩ rfl
  · intro hg_1 hk1
    refine go_wantp rfl rfl rfl hg_1 rfl rfl (o_fieldAddr fi_56_1 rfl rfl rfl) ?_
    refine go_wantp rfl rfl rfl hg_1 rfl rfl (o_load Try.isAgg3 rfl rfl) ?_
    refine go_wantp rfl rfl rfl hg_1 rfl rfl (o_fieldAddr fi_56_1 rfl rfl rfl) ?_
    refine go_wantp rfl rfl rfl hg_1 rfl rfl (o_load Try.isAgg3 rfl rfl) ?_
    refine go_wantp rfl rfl rfl hg_1 rfl rfl (o_cmp rfl rfl rfl) ?_
    refine go_p rfl rfl rfl (o_pickT rfl hg_1 rfl) ?_
    exact go_meet hk1 (rfl) ⟨rfl, rfl, trivial⟩
  · intro hg_1 hk1
    refine go_skip rfl rfl rfl hg_1 rfl rfl ?_
    refine go_skip rfl rfl rfl hg_1 rfl rfl ?_
    refine go_skip rfl rfl rfl hg_1 rfl rfl ?_
    refine go_skip rfl rfl rfl hg_1 rfl rfl ?_
    refine go_skip rfl rfl rfl hg_1 rfl rfl ?_
    refine go_p rfl rfl rfl (o_pickF rfl hg_1 rfl) ?_
    exact go_meet hk1 (rfl) ⟨rfl, rfl, trivial⟩
  refine go_p rfl rfl rfl (o_move rfl) ?_
  apply go_and [(2, _), (3, _)] 6 23 (t := 17) ⟨rfl, rfl, trivial⟩ rfl
  · intro hg_2 hk2
    refine go_wantp rfl rfl rfl hg_2 rfl rfl (o_fieldAddr fi_56_2 rfl rfl rfl) ?_
    refine go_wantp rfl rfl rfl hg_2 rfl rfl (o_load Try.isAgg3 rfl rfl) ?_
    refine go_wantp rfl rfl rfl hg_2 rfl rfl (o_fieldAddr fi_56_2 rfl rfl rfl) ?_
    refine go_wantp rfl rfl rfl hg_2 rfl rfl (o_load Try.isAgg3 rfl rfl) ?_
    refine go_wantp rfl rfl rfl hg_2 rfl rfl (o_cmp rfl rfl rfl) ?_
    refine go_p rfl rfl rfl (o_pickT rfl hg_2 rfl) ?_
    exact go_meet hk2 (rfl) ⟨rfl, rfl, trivial⟩
  · intro hg_2 hk2
    refine go_skip rfl rfl rfl hg_2 rfl rfl ?_
    refine go_skip rfl rfl rfl hg_2 rfl rfl ?_
    refine go_skip rfl rfl rfl hg_2 rfl rfl ?_
    refine go_skip rfl rfl rfl hg_2 rfl rfl ?_
    refine go_skip rfl rfl rfl hg_2 rfl rfl ?_
    refine go_p rfl rfl rfl (o_pickF rfl hg_2 rfl) ?_
    exact go_meet hk2 (rfl) ⟨rfl, rfl, trivial⟩
  refine go_p rfl rfl rfl (o_move rfl) ?_
  obtain ⟨p1, hp_3, hm⟩ := bind_some hm
  refine go_two [] 6 30 p1 (t := 24) trivial rfl (fun hg_3 hk3 => ?_) (fun hg_3 hk3 => ?_) ?_
  · replace hp_3 := cond_t hg_3 hp_3
    refine go_wantp rfl rfl rfl hg_3 rfl rfl (o_fieldAddr fi_56_3 rfl rfl rfl) ?_
    refine go_wantp rfl rfl rfl hg_3 rfl rfl (o_load Try.isAgg54 rfl rfl) ?_
    refine go_wantp rfl rfl rfl hg_3 rfl rfl (o_fieldAddr fi_56_3 rfl rfl rfl) ?_
    refine go_wantp rfl rfl rfl hg_3 rfl rfl (o_load Try.isAgg54 rfl rfl) ?_
    obtain ⟨x1, hx1, hp_3⟩ := bind_some hp_3
    refine go_wantp rfl rfl rfl hg_3 rfl rfl (o_call0 Try.call124 rfl (w_slices_Equal_api_TField_api_TField hx1)) ?_
    refine go_p rfl rfl rfl (o_pickT rfl hg_3 rfl) ?_
    exact go_meet hk3 (congrArg (fun b => some (D.bool b)) (some_eq hp_3)) trivial
  · replace hp_3 := cond_f hg_3 hp_3
    refine go_skip rfl rfl rfl hg_3 rfl rfl ?_
    refine go_skip rfl rfl rfl hg_3 rfl rfl ?_
    refine go_skip rfl rfl rfl hg_3 rfl rfl ?_
    refine go_skip rfl rfl rfl hg_3 rfl rfl ?_
    refine go_skip rfl rfl rfl hg_3 rfl rfl ?_
    refine go_p rfl rfl rfl (o_pickF rfl hg_3 rfl) ?_
    exact go_meet hk3 (congrArg (fun b => some (D.bool b)) (some_eq hp_3)) trivial
  refine go_p rfl rfl rfl (o_assign rfl) ?_
  refine go_nil ?_
  refine g_ret ?_
  exact retK (ret_one' rfl (ret_tmp rfl) (perm_drop _)) (congrArg (fun (p : Bool) => (.bool p : D)) (some_eq hm))
def m_graph_Same (a1 : ApiType) (b1 : ApiType) : Option Bool :=
  (m_graph_Norm a1).bind fun (x1, x2) =>
  (m_graph_Norm b1).bind fun (x3, x4) =>
  (bif ((decide (x2 = 0)) && (decide (x4 = 0))) then ((m_slices_EqualFunc_api_TNode_api_TNode_api_TNode_api_TNode x1.l x3.l (fun y0 y1 => m_graph_sameNode y0 y1)).bind fun x5 =>
  some x5) else (some false)).bind fun p1 =>
  some p1
theorem w_graph_Same {a1 : ApiType} {b1 : ApiType} {r_1 : Bool} (hm : m_graph_Same a1 b1 = some r_1) : Fn0 Try.prog 43 [ApiType.d a1, ApiType.d b1] (.bool r_1) := by
  unfold m_graph_Same at hm
  refine fn_intro Try.func43 rfl Try.ntmps43 rfl fun H0 fr w0 => ?_
  refine g_seq ?_
  refine g_region ?_
  refine go_p rfl rfl rfl (o_box rfl rfl) ?_
  refine go_p rfl rfl rfl (o_box rfl rfl) ?_
  refine go_p rfl rfl rfl (o_assign rfl) ?_
  refine go_nil ?_
  refine g_seq ?_
  refine g_region ?_
  refine go_p rfl rfl rfl (o_load_agg Try.isAgg53 Try.sizeOf53 rfl rfl) ?_
  obtain ⟨⟨x1, x2⟩, hx1, hm⟩ := bind_some hm
  refine go_p rfl rfl rfl (o_call0 Try.call41 rfl (w_graph_Norm hx1)) ?_
  refine go_p rfl rfl rfl (o_move rfl) ?_
  refine go_p rfl rfl rfl (o_extract rfl rfl) ?_
  refine go_p rfl rfl rfl (o_extract rfl rfl) ?_
  refine go_op rfl rfl rfl (o_alloc_own Try.zeroValue53 (cs := [.list 4 ApiTNode.d [], .i64 0]) rfl) ?_
  rintro _ _ ⟨b1, rfl, rfl⟩
  refine go_u rfl rfl (o_store_box 0 Try.sizeOf53 rfl rfl rfl rfl rfl rfl rfl rfl (Nat.le_of_ble_eq_true rfl)) ?_
  rintro _ _ rfl
  refine go_ms (ms' := [box b1 53 [_, _]]) rfl ?_
  refine go_p rfl rfl rfl (o_assign rfl) ?_
  refine go_nil ?_
  refine g_seq ?_
  refine g_region ?_
  refine go_p rfl rfl rfl (o_load_agg Try.isAgg53 Try.sizeOf53 rfl rfl) ?_
  obtain ⟨⟨x3, x4⟩, hx2, hm⟩ := bind_some hm
  refine go_p rfl rfl rfl (o_call0 Try.call41 rfl (w_graph_Norm hx2)) ?_
  refine go_p rfl rfl rfl (o_move rfl) ?_
  refine go_p rfl rfl rfl (o_extract rfl rfl) ?_
  refine go_p rfl rfl rfl (o_extract rfl rfl) ?_
  refine go_op rfl rfl rfl (o_alloc_own Try.zeroValue53 (cs := [.list 4 ApiTNode.d [], .i64 0]) rfl) ?_
  rintro _ _ ⟨b2, rfl, rfl⟩
  refine go_u rfl rfl (o_store_box 0 Try.sizeOf53 rfl rfl rfl rfl rfl rfl rfl rfl (Nat.le_of_ble_eq_true rfl)) ?_
  rintro _ _ rfl
  refine go_ms (ms' := [box b2 53 [_, _], box b1 53 [_, _]]) rfl ?_
  refine go_p rfl rfl rfl (o_assign rfl) ?_
  refine go_nil ?_
  refine g_seq ?_
  refine g_region ?_
  refine go_p rfl rfl rfl (o_move rfl) ?_
  refine go_p rfl rfl rfl (o_cmp rfl rfl rfl) ?_
  refine go_p rfl rfl rfl (o_move rfl) ?_
  apply go_and [(5, _), (7, _)] 3 24 (t := 21) ⟨rfl, rfl, trivial⟩ rfl
  · intro hg_1 hk1
    refine go_wantp rfl rfl rfl hg_1 rfl rfl (o_move rfl) ?_
    refine go_wantp rfl rfl rfl hg_1 rfl rfl (o_cmp rfl rfl rfl) ?_
    refine go_p rfl rfl rfl (o_pickT rfl hg_1 rfl) ?_
    exact go_meet hk1 (rfl) ⟨rfl, rfl, trivial⟩
  · intro hg_1 hk1
    refine go_skip rfl rfl rfl hg_1 rfl rfl ?_
    refine go_skip rfl rfl rfl hg_1 rfl rfl ?_
    refine go_p rfl rfl rfl (o_pickF rfl hg_1 rfl) ?_
    exact go_meet hk1 (rfl) ⟨rfl, rfl, trivial⟩
  refine go_p rfl rfl rfl (o_move rfl) ?_
  obtain ⟨p1, hp_2, hm⟩ := bind_some hm
  refine go_two [] 6 31 p1 (t := 25) trivial rfl (fun hg_2 hk2 => ?_) (fun hg_2 hk2 => ?_) ?_
  · replace hp_2 := cond_t hg_2 hp_2
    refine go_wantp rfl rfl rfl hg_2 rfl rfl (o_fieldAddr_box fi_53_0 rfl) ?_
    refine go_wantp rfl rfl rfl hg_2 rfl rfl (o_load_box 1 Try.isAgg51 rfl rfl rfl rfl) ?_
    refine go_wantp rfl rfl rfl hg_2 rfl rfl (o_fieldAddr_box fi_53_0 rfl) ?_
    refine go_wantp rfl rfl rfl hg_2 rfl rfl (o_load_box 0 Try.isAgg51 rfl rfl rfl rfl) ?_
    obtain ⟨x5, hx3, hp_2⟩ := bind_some hp_2
    refine go_wantp rfl rfl rfl hg_2 rfl rfl (o_call0 Try.call87 rfl (w_slices_EqualFunc_api_TNode_api_TNode_api_TNode_api_TNode (fun _ _ _ h => fv_func Try.call88 (w_graph_sameNode h)) hx3)) ?_
    refine go_p rfl rfl rfl (o_pickT rfl hg_2 rfl) ?_
    exact go_meet hk2 (congrArg (fun b => some (D.bool b)) (some_eq hp_2)) trivial
  · replace hp_2 := cond_f hg_2 hp_2
    refine go_skip rfl rfl rfl hg_2 rfl rfl ?_
    refine go_skip rfl rfl rfl hg_2 rfl rfl ?_
    refine go_skip rfl rfl rfl hg_2 rfl rfl ?_
    refine go_skip rfl rfl rfl hg_2 rfl rfl ?_
    refine go_skip rfl rfl rfl hg_2 rfl rfl ?_
    refine go_p rfl rfl rfl (o_pickF rfl hg_2 rfl) ?_
    exact go_meet hk2 (congrArg (fun b => some (D.bool b)) (some_eq hp_2)) trivial
  refine go_p rfl rfl rfl (o_assign rfl) ?_
  refine go_nil ?_
  refine g_ret ?_
  exact retK (ret_one' rfl (ret_tmp rfl) (perm_drop _)) (congrArg (fun (p : Bool) => (.bool p : D)) (some_eq hm))
def m_syntagmalaw13_GraphStays (a1 : ApiType) (b1 : ApiType) : Option Bool :=
  (m_syntagmalaw13_works).bind fun x1 =>
  bif (!x1) then
    some false
  else
    (m_syntagmalaw13_Few (⟨a1.l, a1.root⟩ : ApiType) 60).bind fun x2 =>
    (m_syntagmalaw13_Few (⟨b1.l, b1.root⟩ : ApiType) 60).bind fun x3 =>
    (m_graph_Norm (⟨x2.l, x2.root⟩ : ApiType)).bind fun (x4, x5) =>
    (m_graph_Norm (⟨x3.l, x3.root⟩ : ApiType)).bind fun (x6, x7) =>
    bif ((!decide (x5 = 0)) || (!decide (x7 = 0))) then
      some (((!decide (x5 = 0)) && (decide ((x4.l.length : Int) = 0))) || ((!decide (x7 = 0)) && (decide ((x6.l.length : Int) = 0))))
    else
      (m_graph_Norm (⟨x4.l, x4.root⟩ : ApiType)).bind fun (x8, x9) =>
      (m_graph_Graft (⟨x4.l, x4.root⟩ : ApiType) (⟨x6.l, x6.root⟩ : ApiType)).bind fun (x10, x11) =>
      (m_graph_At (⟨x10.l, x10.root⟩ : ApiType) x11).bind fun (x12, x13) =>
      (m_graph_Norm (⟨x10.l, x10.root⟩ : ApiType)).bind fun (x14, x15) =>
      (bif (((decide (x9 = 0)) && (decide (x13 = 0))) && (decide (x15 = 0))) then ((m_syntagmaref13_SameList (⟨x8.l, x8.root⟩ : ApiType) (⟨x4.l, x4.root⟩ : ApiType)).bind fun x16 =>
      some x16) else (some false)).bind fun p1 =>
      (bif p1 then ((m_syntagmaref13_SameList (⟨x12.l, x12.root⟩ : ApiType) (⟨x6.l, x6.root⟩ : ApiType)).bind fun x17 =>
      some x17) else (some false)).bind fun p2 =>
      (bif p2 then ((m_syntagmaref13_SameList (⟨x14.l, x14.root⟩ : ApiType) (⟨x4.l, x4.root⟩ : ApiType)).bind fun x18 =>
      some x18) else (some false)).bind fun p3 =>
      (bif p3 then ((m_graph_Same (⟨x2.l, x2.root⟩ : ApiType) (⟨x4.l, x4.root⟩ : ApiType)).bind fun x19 =>
      some x19) else (some false)).bind fun p4 =>
      some p4
end Go.Proofs.Ytafphfokopkhdaa
